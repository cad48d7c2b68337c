import Derived.Lib.Strings
import Derived.Lib.Slices
import Derived.Lib.Small
import Derived.Lib.Walk
import Derived.Lib.BitFns
import Derived.RangeFuncNested
import Derived.RangeFuncBound
import Derived.OwnWalkIn
import Derived.TacticsInMore
import Derived.LoopNIn
import Derived.LoopIn
import Derived.Test.YtmdgfpeglgpiiaaGreatDoorB01
set_option linter.all false
set_option maxRecDepth 100000
set_option maxHeartbeats 16000000
namespace Go.Proofs.YtmdgfpeglgpiiaaGreatDoor
open Go.ChangeShapes Go.WideShapes Go.ChangeAt Go.RowKit
open Vq Oq Go.Proofs.Tryz
def Fo (i:Int) (h:i.toNat<Lib.len8tab.size):((Lib.len8tab[i.toNat].toNat:Nat):Int)=Lib.len8 i:=by
 unfold Lib.len8;rw[getElem?_pos Lib.len8tab i.toNat h];rfl
def iE (k:Int) (i:Int) (h:i.toNat<Lib.len8tab.size) (h0:0<=i) (h1:i<=255) (k0:0<=k) (k1:k<=56):wrap64 (k+wrap64 ((Lib.len8tab[i.toNat].toNat:Nat):Int))=k+(Lib.bitLen i.toNat:Int):=by
 rw[Fo i h,Lib.len8_of i h0 h1];have l:=Lib.bitLen_le8' i h0 h1;unfold wrap64;omega
def uI (x:Int) (w:World) (h0:0<=x) (h1:x<=18446744073709551615):
  WR 283 #[.int .u64 x] w (Lib.bitLen x.toNat:Int) λw'=>w=w':=by
 go_enter func283,ntmps283;go_wp2
 all_goals first
  | (exfalso;(try simp only[Lib.len8tab_size] at *);omega)
  | go_ret
 all_goals refine⟨congrArg Ending.returned (congrArg (Value.int IntKind.i64) ?_),rfl⟩
 all_goals first
  | (refine (iE _ (x/4294967296/65536/256) (by rw[Lib.len8tab_size];omega) (by omega) (by omega) (by omega) (by omega)).trans ?_
     have s:=Lib.bitLen_shift56 x.toNat (by omega) (by omega)
     rw[show (x/4294967296/65536/256).toNat=x.toNat/72057594037927936 by omega]
     omega)
  | (refine (iE _ (x/4294967296/65536) (by rw[Lib.len8tab_size];omega) (by omega) (by omega) (by omega) (by omega)).trans ?_
     have s:=Lib.bitLen_shift48 x.toNat (by omega) (by omega)
     rw[show (x/4294967296/65536).toNat=x.toNat/281474976710656 by omega]
     omega)
  | (refine (iE _ (x/4294967296/256) (by rw[Lib.len8tab_size];omega) (by omega) (by omega) (by omega) (by omega)).trans ?_
     have s:=Lib.bitLen_shift40 x.toNat (by omega) (by omega)
     rw[show (x/4294967296/256).toNat=x.toNat/1099511627776 by omega]
     omega)
  | (refine (iE _ (x/4294967296) (by rw[Lib.len8tab_size];omega) (by omega) (by omega) (by omega) (by omega)).trans ?_
     have s:=Lib.bitLen_shift32 x.toNat (by omega) (by omega)
     rw[show (x/4294967296).toNat=x.toNat/4294967296 by omega]
     omega)
  | (refine (iE _ (x/65536/256) (by rw[Lib.len8tab_size];omega) (by omega) (by omega) (by omega) (by omega)).trans ?_
     have s:=Lib.bitLen_shift24 x.toNat (by omega) (by omega)
     rw[show (x/65536/256).toNat=x.toNat/16777216 by omega]
     omega)
  | (refine (iE _ (x/65536) (by rw[Lib.len8tab_size];omega) (by omega) (by omega) (by omega) (by omega)).trans ?_
     have s:=Lib.bitLen_shift16 x.toNat (by omega) (by omega)
     rw[show (x/65536).toNat=x.toNat/65536 by omega]
     omega)
  | (refine (iE _ (x/256) (by rw[Lib.len8tab_size];omega) (by omega) (by omega) (by omega) (by omega)).trans ?_
     have s:=Lib.bitLen_shift8 x.toNat (by omega) (by omega)
     rw[show (x/256).toNat=x.toNat/256 by omega]
     omega)
  | (have e:=Fo x (by rw[Lib.len8tab_size];omega)
     have l:=Lib.bitLen_le8' x (by omega) (by omega)
     rw[Lib.len8_of x (by omega) (by omega)] at e
     unfold wrap64
     omega)
def fT (g:Nat->Bool):Nat->Nat
 | 0=>0
 | k+1=>if g k then k+1 else fT g k
def pI {g f:Nat->Bool} {k:Nat} (h:∀i,i<k->g i=f i):fT g k=fT f k:=by
 induction k with
 | zero=>rfl
 | succ k ih=>
  rw[show fT g (k+1)=if g k then k+1 else fT g k from rfl,show fT f (k+1)=if f k then k+1 else fT f k from rfl,ih λi hi=>h i (by omega),h k (by omega)]
def vZ (g:Nat->Bool):∀k,fT g k<=k
 | 0=>Nat.le_refl _
 | k+1=>by
  have:=vZ g k;rw[show fT g (k+1)=if g k then k+1 else fT g k from rfl]
  split<;>omega
def re (g:Nat->Bool) (a:Nat):∀b,fT g (a+b)=if fT (λi=>g (a+i)) b=0 then fT g a else a+fT (λi=>g (a+i)) b
 | 0=>by simp[fT]
 | b+1=>by
  show (if g (a+b) then a+b+1 else fT g (a+b))=if (if g (a+b) then b+1 else fT (λi=>g (a+i)) b)=0 then fT g a else a+(if g (a+b) then b+1 else fT (λi=>g (a+i)) b)
  rw[re g a b]
  cases g (a+b)
  ·simp
  ·simp[Nat.add_assoc]
def yj {g:Nat->Bool} {k:Nat} (h:∀i,i<k->g i=false):fT g k=0:=by
 induction k with
 | zero=>rfl
 | succ k ih=>
  rw[show fT g (k+1)=if g k then k+1 else fT g k from rfl,h k (by omega),b_ (by simp)];exact ih λi hi=>h i (by omega)
def yk (g:Nat->Bool):∀k,(fT g k=0/\∀j,j<k->g j=false)\/(0<fT g k/\fT g k<=k/\g (fT g k-1)=true/\∀j,fT g k<=j->j<k->g j=false)
 | 0=> .inl ⟨rfl,λj hj=>by omega⟩
 | k+1=>by
  rw[show fT g (k+1)=if g k then k+1 else fT g k from rfl]
  cases hg:g k
  ·rw[b_ (by simp)];rcases yk g k with⟨h1,h2⟩ | ⟨h1,h2,h3,h4⟩
   ·exact .inl ⟨h1,λj hj=>by
     by_cases e:j=k
     ·rw[e];exact hg
     ·exact h2 j (by omega)⟩
   ·exact .inr ⟨h1,by omega,h3,λj hj hk=>by
     by_cases e:j=k
     ·rw[e];exact hg
     ·exact h4 j hj (by omega)⟩
  ·rw[b9 rfl];exact .inr ⟨by omega,by omega,hg,λj hj hk=>by omega⟩
def mA (x:Nat) (hx:x<2^64):∀k,x<2^k->fT x.testBit k=Lib.bitLen x
 | 0,h=>by
  have:x=0:=by simpa using h
  subst this;decide
 | k+1,h=>by
  rw[show fT x.testBit (k+1)=if x.testBit k then k+1 else fT x.testBit k from rfl];by_cases hl:x<2^k
  ·rw[Nat.testBit_lt_two_pow hl,b_ (by simp)];exact mA x hx k hl
  ·have hd:x/2^k=1:=by
    rw[Nat.pow_succ] at h;have h1:1<=x/2^k:=(Nat.le_div_iff_mul_le (Nat.two_pow_pos k)).2 (by omega);have h2:x/2^k<2:=(Nat.div_lt_iff_lt_mul (Nat.two_pow_pos k)).2 (by omega);omega
   have ht:x.testBit k=true:=by rw[Nat.testBit_eq_decide_div_mod_eq,hd];decide
   rw[ht,b9 rfl,Lib.bitLen_shift k x (by omega) hx,hd,show Lib.bitLen 1=1 from by decide]
def lst_mask (g:Nat->Bool) {b:Nat} (hb:b<=64):fT (λj=>g j && decide (j<b)) 64=fT g b:=by
 rw[show 64=b+(64-b) by omega,re,yj (k:=64-b) (λi _=>by simp),b9 rfl];exact pI λi hi=>by simp[hi]
def last_any (x:Nat) (hx:x<18446744073709551616) (a:Int) (w:World):WR 335 #[.int .u64 x,a] w ((fT x.testBit (da a):Nat)-1:Int) λw'=>w=w':=by
 have H1:=rz 0 a w;have hp:=nm a;rw[show da 0=0 from rfl] at H1;generalize da a=p at *;have hr:=ry 0 p;have e:fT x.testBit p=Lib.bitLen (x &&& runN 0 p):=by
  rw[←mA _ (Nat.lt_of_le_of_lt Nat.and_le_left hx) 64 (Nat.lt_of_le_of_lt Nat.and_le_left hx),←lst_mask _ hp];exact pI λj hj=>by rw[Nat.testBit_and,lI];simp[hj]
 rw[e];generalize runN 0 p=r at *;have hz:=Go.u64_and_nat x r hx hr;have hlt:x &&& r<18446744073709551616:=Nat.and_lt_two_pow (n:=64) _ hr;have H2:=uI ((x &&& r:Nat):Int) w (by omega) (by omega);rw[Int.toNat_natCast] at H2;have hle:Lib.bitLen (x &&& r)<=64:=by rw[←e];have:=vZ x.testBit p;omega
 generalize Lib.bitLen (x &&& r)=q at *;have s1:=eH ((q:Int)-1);clear e;go_enter func335,ntmps335
 go_wp2_with (first | (go_at_call 336;refine H1.kq ?_;rintro w1 rfl) | (go_at_call 283;(try rw[hz]);refine H2.kq ?_;rintro w1 rfl))
 go_ret;exact⟨rfl,rfl⟩
def nxt_add (g:Nat->Bool):∀(b a c:Nat),dV g a (b+c)=if dV g a b<a+b then dV g a b else dV g (a+b) c
 | 0,a,c=>by
  have:=(dM g 0 a).1;rw[cG,Nat.zero_add,Nat.add_zero]
 | b+1,a,c=>by
  have h1:=dM g (b+1) a;obtain⟨p1,p2,p3,p4⟩:=h1;by_cases hlt:dV g a (b+1)<a+(b+1)
  ·rw[b9 hlt];exact jR g _ _ _ p1 (by omega) p3 (.inr (p4 hlt))
  ·rw[b_ hlt];obtain⟨q1,q2,q3,q4⟩:=dM g c (a+(b+1));refine jR g _ _ _ (by omega) (by omega) (λj hj hk=>?_) ?_
   ·by_cases LS:j<a+(b+1)
    ·exact p3 j hj (by omega)
    ·exact q3 j (by omega) hk
   ·by_cases hq:dV g (a+(b+1)) c<a+(b+1)+c
    ·exact .inr (q4 hq)
    ·left;omega
def nxt_congr {g f:Nat->Bool} {a k:Nat} (h:∀i,a<=i->i<a+k->g i=f i):dV g a k=dV f a k:=by
 obtain⟨q1,q2,q3,q4⟩:=dM f k a;refine jR g _ _ _ q1 q2 (λj hj hk=>?_) ?_
 ·rw[h j hj (by omega)];exact q3 j hj hk
 ·by_cases hq:dV f a k<a+k
  ·right;rw[h _ q1 hq];exact q4 hq
  ·left;omega
def vw (f:Nat->Bool) (i:Nat):Nat:=ub (λj=>f (64*i+j)) 64
def tC (f:Nat->Bool) (i:Nat):vw f i<18446744073709551616:=wu _ 64
def eR (f:Nat->Bool) (i j:Nat):(vw f i).testBit j=(decide (j<64) && f (64*i+j)):=kU _ _ _
def tB {f g:Nat->Bool} {i:Nat} (h:∀x,x/64=i->f x=g x):vw f i=vw g i:=uQ λj hj=>h _ (by omega)
def vw_none (i:Nat):vw (λ_=>false) i=0:=by
 apply Nat.eq_of_testBit_eq;intro j;rw[eR,Nat.zero_testBit,Bool.and_false]
def bj (f:Nat->Bool) (x:Nat):Nat->Bool:=λy=>if y=x then true else f y
def vw_set (f:Nat->Bool) (x:Nat):vw (bj f x) (x/64)=vw f (x/64) ||| 2^(x%64):=by
 apply Nat.eq_of_testBit_eq;intro j;rw[eR,Nat.testBit_or,eR,Nat.testBit_two_pow];unfold bj;by_cases hj:j<64
 ·by_cases e:64*(x/64)+j=x
  ·have:x%64=j:=by omega
   simp[hj,e,this]
  ·have:¬x%64=j:=by omega
   simp[hj,e,this]
 ·have:¬x%64=j:=by omega
  simp[hj,this]
def vw_set_ne (f:Nat->Bool) {x i:Nat} (h:i≠x/64):vw (bj f x) i=vw f i:=tB λy hy=>by
 unfold bj;rw[b_ (by rintro rfl;exact h hy.symm)]
def ix (f:Nat->Bool) (a b:Int):Nat->Bool:=λy=>f y || (decide (a<=(y:Int)) && decide ((y:Int)<b))
def iH (f:Nat->Bool) (a b:Int):Nat->Bool:=λy=>f y && !(decide (a<=(y:Int)) && decide ((y:Int)<b))
def lX (f:Nat->Bool) (a b:Int):Nat->Bool:=λy=>f y && (decide (a<=(y:Int)) && decide ((y:Int)<b))
def FL (a b:Int) (i:Nat):Nat:=runN (da (a-64*i)) (da (b-64*i))
def sK (a b:Int) (i j:Nat):(FL a b i).testBit j=(decide (j<64) && (decide (a<=((64*i+j:Nat):Int)) && decide (((64*i+j:Nat):Int)<b))):=by
 unfold FL;rw[lI];by_cases hj:j<64
 ·have e1:da (a-64*i)<=j↔a<=((64*i+j:Nat):Int):=by unfold da;omega
  have e2:j<da (b-64*i)↔((64*i+j:Nat):Int)<b:=by unfold da;omega
  simp only[hj,e1,e2]
 ·simp[hj]
def wg (a b:Int) (i:Nat):FL a b i<18446744073709551616:=ry _ _
def vw_fill (f:Nat->Bool) (a b:Int) (i:Nat):vw (ix f a b) i=vw f i ||| FL a b i:=by
 apply Nat.eq_of_testBit_eq;intro j;rw[eR,Nat.testBit_or,eR,sK];unfold ix
 cases decide (j<64)<;>simp
def vw_run (f:Nat->Bool) (a b:Int) (i:Nat):vw (lX f a b) i=FL a b i &&& vw f i:=by
 apply Nat.eq_of_testBit_eq;intro j;rw[eR,Nat.testBit_and,eR,sK];unfold lX
 cases decide (j<64)
 ·simp
 ·simp only[Bool.true_and];rw[Bool.and_comm]
def vw_wipe (f:Nat->Bool) (a b:Int) (i:Nat):vw (iH f a b) i=vw f i &&& (18446744073709551615-FL a b i):=by
 apply Nat.eq_of_testBit_eq;intro j;rw[eR,Nat.testBit_and,eR,show 18446744073709551615-FL a b i=2^64-(FL a b i+1) by omega,Nat.testBit_two_pow_sub_succ (wg a b i),sK];unfold iH
 cases decide (j<64)<;>simp
def cntN_all (x:Nat):Ck x 0 64=aG x.testBit 64:=cB λj hj=>by simp[hj]
def cnt_vw (f:Nat->Bool) (i:Nat):aG (vw f i).testBit 64=aG (λj=>f (64*i+j)) 64:=cB λj hj=>by
 rw[eR];simp[hj]
def cnt_words (f:Nat->Bool) (i:Nat):aG f (64*(i+1))=aG f (64*i)+aG (vw f i).testBit 64:=by
 rw[cnt_vw,show 64*(i+1)=64*i+64 by omega,fN]
def dD {f:Nat->Bool} {k:Nat} (h:∀i,i<k->f i=false):aG f k=0:=by
 induction k with
 | zero=>rfl
 | succ k ih=>
  rw[show aG f (k+1)=aG f k+if f k then 1 else 0 from rfl,h k (by omega),ih λi hi=>h i (by omega)];rfl
def AN (f:Nat->Bool) (a b n:Nat) (h:a<=b) (hb:b<=n):aG (lX f a b) n=aG f b-aG f a:=by
 obtain⟨c,rfl⟩:=Nat.exists_eq_add_of_le h;obtain⟨d,rfl⟩:=Nat.exists_eq_add_of_le hb;have h1:aG (lX f a (a+c:Nat)) a=0:=dD λi hi=>by
  unfold lX;rw[show decide ((a:Int)<=(i:Int))=false from dP];simp
 have h2:aG (λi=>lX f a (a+c:Nat) (a+i)) c=aG (λi=>f (a+i)) c:=cB λi hi=>by
  unfold lX;rw[show decide ((a:Int)<=((a+i:Nat):Int))=true from kr,show decide (((a+i:Nat):Int)<((a+c:Nat):Int))=true from kr];simp
 have h3:aG (λi=>lX f a (a+c:Nat) (a+c+i)) d=0:=dD λi hi=>by
  unfold lX;rw[show decide (((a+c+i:Nat):Int)<((a+c:Nat):Int))=false from dP];simp
 rw[fN,fN,h1,h2,h3,fN f a c];omega
def nw (n:Nat):Nat:=(n+63)/64
def uR (g:Nat->Bool) (s:Nat):∀(k a:Nat),dV (λj=>g (s+j)) a k+s=dV g (s+a) k
 | 0,a=>by unfold dV;omega
 | k+1,a=>by
  unfold dV
  split
  ·omega
  ·rw[uR g s k (a+1)];rfl
def ax.grow {w w':World} (h:ax w) (c:Below w.heap.size w w'):ax w':=λi hi=>bA c (Nat.le_refl _) (h i hi)
open Go.Maps
def oW (rb cap b n:Nat) (f:Nat->Bool) (R:BL):Prop:=
 ∃cur,R= [(b,.cells #[.slice (some ⟨rb,0,none⟩) (nw n) cap,n] 366 (0,0)),(rb,.cells cur 33 (0,0))]/\nw n<=cap/\cap<=maxLen/\cur.size=cap/\
  (∀i,i<nw n->cur[i]?=some (.int .u64 (vw f i)))/\(1<=n/\n<=1048576)/\∀x,n<=x->f x=false
def cY (b n:Nat) (f:Nat->Bool) (R:BL):Prop:=∃rb cap,oW rb cap b n f R
section
variable {b n:Nat} {f:Nat->Bool} {R K:BL} {w w':World}
def oW.vec {rb cap:Nat} (h:oW rb cap b n f R):cY b n f R:=⟨rb,cap,h⟩
def oW.cells {rb cap:Nat} (h:oW rb cap b n f R) (hR:Has R w):w.cell? ⟨b,0,none⟩=some (.slice (some ⟨rb,0,none⟩) (nw n) cap)/\w.cell? ⟨b,1,none⟩=some (.int .i64 n)/\nw n<=cap/\(∀i,i<nw n->w.cell? ⟨rb,i,none⟩=some (.int .u64 (vw f i)))/\∀i,w.frozen? ⟨rb,i,none⟩=false:=by
 obtain⟨cur,rfl,h1,h2,h3,h4,h5,h6⟩:=h;have q:=hR.head;have q2:=hR.tail.head;exact⟨an q 0 _ rfl,an q 1 _ rfl,h1,λi hi=>an q2 i _ (h4 i hi),λi=>br q2 i⟩
def cY.cells (h:cY b n f R) (hR:Has R w):∃rb cap,w.cell? ⟨b,0,none⟩=some (.slice (some ⟨rb,0,none⟩) (nw n) cap)/\w.cell? ⟨b,1,none⟩=some (.int .i64 n)/\nw n<=cap/\∀i,i<nw n->w.cell? ⟨rb,i,none⟩=some (.int .u64 (vw f i)):=by
 obtain⟨rb,cap,cur,rfl,h1,h2,h3,h4,h5,h6⟩:=h;have q:=hR.head;have q2:=hR.tail.head;exact⟨rb,cap,an q 0 _ rfl,an q 1 _ rfl,h1,λi hi=>an q2 i _ (h4 i hi)⟩
def cY.ij (h:cY b n f R):1<=n/\n<=1048576:=by
 obtain⟨rb,cap,cur,rfl,h1,h2,h3,h4,h5,h6⟩:=h;exact h5
def cY.out (h:cY b n f R) {x:Nat} (hx:n<=x):f x=false:=by
 obtain⟨rb,cap,cur,rfl,h1,h2,h3,h4,h5,h6⟩:=h;exact h6 x hx
def cY.same (h:cY b n f R) {g:Nat->Bool} (hg:∀x,g x=f x):cY b n g R:=by
 have:g=f:=funext hg;rw[this];exact h
def yP (k:Nat) (hk:k<n) (hn:n<=1048576) (c1:w.cell? ⟨b,1,none⟩=some (.int .i64 n)):
  WR 331 #[Wz b,k] w Wy λw'=>w=w':=by
 have h1:decide ((k:Int)<0)=false:=dP;have h2:decide (n<=k)=false:=dP;go_enter func331,ntmps331;go_wp2;go_ret;exact⟨rfl,rfl⟩
def vchk_no (i:Int) (hi:i<0\/(n:Int)<=i) (hn:n<=1048576) (c1:w.cell? ⟨b,1,none⟩=some (.int .i64 n)):
  WR 331 #[Wz b,i] w (11:Int) λw'=>w=w':=by
 by_cases h:i<0
 ·go_enter func331,ntmps331;go_wp2;go_ret;exact⟨rfl,rfl⟩
 ·have h1:decide (i<0)=false:=decide_eq_false h;have h2:decide ((n:Int)<=i)=true:=kr;go_enter func331,ntmps331;go_wp2;go_ret;exact⟨rfl,rfl⟩
def oF (h:cY b n f R) (hR:Has R w):WR 284 #[Wz b] w n λw'=>w=w':=by
 obtain⟨rb,cap,c0,c1,hc,cs⟩:=h.cells hR;clear h hR cs hc;go_enter func284,ntmps284;go_wp2;go_ret;exact⟨rfl,rfl⟩
def bit_at (x j:Nat) (hx:x<18446744073709551616):bits BinOp.and IntKind.u64 ((x:Int)/2^j) 1=if x.testBit j then 1 else 0:=by
 rw[show (x:Int)/2^j=((x/2^j:Nat):Int) from by simp];have h:x/2^j<18446744073709551616:=Nat.lt_of_le_of_lt (Nat.div_le_self _ _) hx;have:=Go.u64_and_nat (x/2^j) 1 h (by decide);rw[show ((1:Nat):Int)=1 from rfl] at this;rw[this,Nat.and_one_is_mod,Nat.testBit_eq_decide_div_mod_eq];by_cases e:x/2^j%2=1
 ·simp[e]
 ·have:x/2^j%2=0:=by omega
  simp[this]
def lh (f:Nat->Bool) (i:Int):Bool:=decide (0<=i) && f i.toNat
def yR (i:Int) (h:cY b n f R) (hR:Has R w) (hi:i<0\/(n:Int)<=i):WR 307 #[Wz b,i] w false λw'=>w=w':=by
 obtain⟨rb,cap,c0,c1,hc,cs⟩:=h.cells hR;have H:=a_ (vchk_no (w:=w) i hi h.ij.2 c1);clear h hR cs hi;go_enter func307,ntmps307
 go_wp2_with (go_at_call 331;refine H.kq ?_;rintro w1 rfl)
 go_ret;exact⟨rfl,rfl⟩
def vtest_in (k:Nat) (h:cY b n f R) (hR:Has R w) (hk:k<n):WR 307 #[Wz b,k] w (.bool (f k)) λw'=>w=w':=by
 obtain⟨rb,cap,c0,c1,hc,cs⟩:=h.cells hR;have H:=a_ (yP (w:=w) k hk h.ij.2 c1);have hd:=h.ij;have ck:=cs (k/64) (by unfold nw;omega);have hx:=tC f (k/64);have hb:=bit_at (vw f (k/64)) (k%64) hx;rw[eR,show 64*(k/64)+k%64=k by omega,show decide (k%64<64)=true from kr,Bool.true_and] at hb;have hw:k/64<nw n:=by unfold nw;omega
 have e1:(k:Int)/64=((k/64:Nat):Int):=rfl;have e2:(k:Int)%64=((k%64:Nat):Int):=rfl;clear h hR cs;generalize vw f (k/64)=x at *;generalize nw n=m at *;generalize hq:k/64=q at *;generalize hr:k%64=r at *;have kz:r<64:=by omega
 have Bi:q<=1048576:=by omega
 have Hb:=a_ hb;clear hq hr hk hd hb;go_enter func307,ntmps307
 go_wp2_with (go_at_call 331;refine H.kq ?_;rintro w1 rfl)
 go_ret;refine⟨congrArg (λq=>Ending.returned (.bool q)) ?_,rfl⟩;rw[Hb.out]
 cases f k<;>rfl
def vtest_any (i:Int) (h:cY b n f R) (hR:Has R w):WR 307 #[Wz b,i] w (.bool (lh f i)) λw'=>w=w':=by
 unfold lh;by_cases h0:i<0
 ·rw[show decide (0<=i)=false from dP];exact yR i h hR (.inl h0)
 ·obtain⟨k,rfl⟩:=Int.eq_ofNat_of_zero_le (show 0<=i by omega);rw[show decide (0<=(k:Int))=true from kr,Int.toNat_natCast,Bool.true_and];by_cases hk:k<n
  ·exact vtest_in k h hR hk
  ·rw[h.out (by omega)];exact yR k h hR (.inr (by omega))
def oW.put {rb cap:Nat} (h:oW rb cap b n f R) (hR:At R w) {g:Nat->Bool} {i:Nat} (hi:i<nw n) (hg:∀j,j≠i->j<nw n->vw g j=vw f j) (ho:∀x,n<=x->g x=false):
  ∃R',oW rb cap b n g R'/\ag R R' w (w.setCell ⟨rb,i,none⟩ (.int .u64 (vw g i))):=by
 obtain⟨cur,rfl,h1,h2,h3,h4,h5,h6⟩:=h;refine⟨[(b,.cells #[.slice (some ⟨rb,0,none⟩) (nw n) cap,n] 366 (0,0)),(rb,.cells (cur.setIfInBounds i (.int .u64 (vw g i))) 33 (0,0))],⟨_,rfl,h1,h2,by simpa using h3,λj hj=>?_,h5,ho⟩,?_⟩
 ·by_cases e:i=j
  ·subst e;rw[Array.getElem?_setIfInBounds_self_of_lt (by omega)]
  ·rw[Array.getElem?_setIfInBounds_ne e,hg j (λa=>e a.symm) hj];exact h4 j hj
 ·have d:=(((ag.refl hR).perm (List.Perm.swap _ _ _)).set i (.int .u64 (vw g i))).perm (List.Perm.swap _ _ _);exact d
end
def made_zeros (n:Nat):madeCells (Value.int .u64 0).cells (n*1)=(List.replicate n (Value.int .u64 0)).toArray:=by
 apply Array.toList_inj.1;rw[Nat.mul_one];show (madeCells #[Value.int .u64 0] n).toList=_
 rw[toList_madeCells_one]
def setB_out {f:Nat->Bool} {n k:Nat} (hk:k<n) (h:∀x,n<=x->f x=false):∀x,n<=x->bj f k x=false:=λx hx=>by
 unfold bj;rw[cG];exact h x hx
def one_shl (r:Nat) (hr:r<64):IntKind.u64.wrap (2^r)=((2^r:Nat):Int):=by
 have h:2^r<=2^63:=Nat.pow_le_pow_right (by omega) (by omega);have e:((2:Int)^r)=((2^r:Nat):Int):=by simp
 rw[e,qc,Nat.mod_eq_of_lt (by omega)]
def BX {b n:Nat} {f:Nat->Bool} {R:BL} {w:World} (k:Nat) (h:cY b n f R) (hR:At R w) (hk:k<n):
  WR 301 #[Wz b,k] w Wy λw'=>∃R',cY b n (bj f k) R'/\ag R R' w w':=by
 obtain⟨rb,cap,hA⟩:=id h;obtain⟨c0,c1,hc,cs,fz⟩:=hA.cells hR.1;have H:=a_ (yP (w:=w) k hk h.ij.2 c1);have hd:=h.ij;have ck:=cs (k/64) (by unfold nw;omega);have hx:=tC f (k/64);have hP:Hid (∃R',cY b n (bj f k) R'/\ag R R' w (w.setCell ⟨rb,k/64,none⟩ (.int .u64 (vw (bj f k) (k/64))))):=a_ (by
  obtain⟨R',h1,h2⟩:=hA.put hR (g:=bj f k) (i:=k/64) (by unfold nw;omega) (λj hj _=>vw_set_ne f hj) (setB_out hk λx hx=>h.out hx);exact⟨R',h1.vec,h2⟩)
 have hfz:=fz (k/64);have IQ:=Go.u64_or_nat (vw f (k/64)) (2^(k%64)) hx (Nat.pow_lt_pow_right (by omega) (show k%64<64 by omega));rw[←vw_set] at IQ;have hs:=one_shl (k%64) (by omega);have hw:k/64<nw n:=by unfold nw;omega
 have e1:(k:Int)/64=((k/64:Nat):Int):=rfl;have e2:(k:Int)%64=((k%64:Nat):Int):=rfl;generalize vw (bj f k) (k/64)=y at *;clear h hR cs fz hA;generalize vw f (k/64)=x at *;generalize nw n=m at *;generalize hq:k/64=q at *;generalize hr:k%64=r at *;have kz:r<64:=by omega
 have Bi:q<=1048576:=by omega
 rw[←hs] at IQ;have Hor:=a_ IQ;clear hq hr hk hd IQ hs;go_enter func301,ntmps301
 go_wp2_with (go_at_call 331;refine H.kq ?_;rintro w1 rfl)
 go_region
 all_goals
  go_wp2;go_ret;exact⟨rfl,by
   obtain⟨R',h1,h2⟩:=hP.out;rw[Hor.out];exact⟨R',h1,h2.drew⟩⟩
def vec_no (n:Int) (w:World) (h:n<1\/1048576<n):
  WR 237 #[n] w (.tuple #[.pointer none,(5:Int)]) λw'=>w=w':=by
 by_cases h1:n<1
 ·go_enter func237,ntmps237;go_wp2
  go_ret2
  exact⟨rfl,rfl⟩
 ·have q1:decide (n<1)=false:=decide_eq_false h1;have q2:decide (1048576<n)=true:=kr;go_enter func237,ntmps237;go_wp2
  go_ret2
  exact⟨rfl,rfl⟩
def yt {n:Nat} (h:n<=1048576):nw n<=16384:=by unfold nw;omega
def wN (n:Nat) (w:World) (h1:1<=n) (h2:n<=1048576):
  WA 237 #[n] w λe w'=>∃b,e= .returned (.tuple #[Wz b,Wy])/\∃R,cY b n (λ_=>false) R/\ag [] R w w':=by
 obtain⟨i0,hi,hz0,vR,Ae⟩:=info_parts vi;have hle:=yt h2;have hq:((n:Int)+64-1)/64=((nw n:Nat):Int):=by unfold nw;omega
 have nP:∀W:World,(Instr.makeSlice 25 (.int .i64 (nw n:Int)) (.int .i64 (nw n:Int))).run prog W= .ok (.slice (some ⟨W.heap.size,0,none⟩) (nw n) (nw n)) (W.alloc (.cells (List.replicate (nw n) (Value.int .u64 0)).toArray 33)):=λW=>by
  have h:=run_make (P:=prog) W 25 33 i0 (.int .u64 0) underlying25 hi hz0 .i64 .i64 (nw n:Int) (nw n:Int) (by omega) (by omega) (by rw[Ae];omega) (by omega);rw[vR,Int.toNat_natCast,made_zeros] at h;exact h
 have hend:Hid (∃R,cY (w.heap.size+1) n (λ_=>false) R/\ag [] R w ((w.alloc (.cells (List.replicate (nw n) (Value.int .u64 0)).toArray 33)).alloc (.cells #[.slice (some ⟨w.heap.size,0,none⟩) (nw n) (nw n),n] 366))):=a_ (by
  have d1:=(ag.refl (At.nil (w:=w))).box (List.replicate (nw n) (Value.int .u64 0)).toArray 33;have d2:=d1.box #[.slice (some ⟨w.heap.size,0,none⟩) (nw n) (nw n),n] 366;rw[World.size_alloc] at d2;refine⟨_,⟨w.heap.size,nw n,(List.replicate (nw n) (Value.int .u64 0)).toArray,rfl,Nat.le_refl _,by unfold maxLen;omega,by simp,λi hi=>?_,⟨h1,h2⟩,λx _=>rfl⟩,d2⟩;rw[vw_none];simp[hi])
 have q1:decide ((n:Int)<1)=false:=dP;have q2:decide (1048576<(n:Int))=false:=dP;clear hi hz0 vR Ae;generalize nw n=m at *;clear hle;go_enter func237,ntmps237;go_wp2
 go_ret2
 exact⟨_,by first | rfl | (rw[World.size_alloc]),hend.out⟩
def nxt_word (f:Nat->Bool) (k a:Nat):dV (vw f k).testBit a (64-a)+64*k=dV f (64*k+a) (64-a):=by
 rw[←uR f (64*k) (64-a) a];congr 1;refine nxt_congr λj h1 h2=>?_
 rw[eR];simp[show j<64 by omega]
def nxt_over {f:Nat->Bool} {n M i:Nat} (hM:n<=M) (hi:i<=M) (h:∀x,n<=x->f x=false):(dV f i (M-i)<M/\dV f i (n-i)=dV f i (M-i)/\dV f i (M-i)<n)\/(dV f i (M-i)=M/\¬dV f i (n-i)<n):=by
 obtain⟨h1,h2,h3,h4⟩:=dM f (M-i) i;by_cases hlt:dV f i (M-i)<M
 ·have h5:=h4 (by omega);have h6:dV f i (M-i)<n:=by
   rcases Nat.lt_or_ge (dV f i (M-i)) n with h | hge
   ·exact h
   ·rw[h _ hge] at h5;cases h5
  exact .inl ⟨hlt,jR f _ _ _ h1 (by omega) h3 (.inr h5),h6⟩
 ·right;refine⟨by omega,λhc=>?_⟩;obtain⟨q1,q2,q3,q4⟩:=dM f (n-i) i;have h5:=q4 (by omega);rw[h3 _ q1 (by omega)] at h5
  cases h5
def ua (f:Nat->Bool) (n i:Nat):Value:=if dV f i (n-i)<n then .tuple #[(dV f i (n-i):Int),true] else .tuple #[Wy,false]
section
variable {b n:Nat} {f:Nat->Bool} {R K:BL} {w w':World}
def lN (i:Nat) (h:cY b n f R) (hR:Has R w) (hT:ax w) (hi:i<=1048577):
  WR 298 #[Wz b,i] w (ua f n i) λw'=>w=w':=by
 obtain⟨rb,cap,c0,c1,hc,cs⟩:=h.cells hR;have hd:=h.ij;have hM:n<=64*nw n:=by unfold nw;omega
 have Oh:=yt hd.2;have hout:∀x,n<=x->f x=false:=λx hx=>h.out hx
 clear h hR;by_cases hlt:i<n
 ·have LX:=nxt_over hM (show i<=64*nw n by omega) hout;obtain⟨DD,pD⟩:∃DD,ua f n i=DD:=⟨_,rfl⟩
  have HA:Hid ((dV f i (64*nw n-i)<64*nw n/\DD= .tuple #[(dV f i (64*nw n-i):Int),true])\/(dV f i (64*nw n-i)=64*nw n/\DD= .tuple #[Wy,false])):=a_ (by
   rw[←pD];unfold ua;rcases LX with⟨q1,q2,q3⟩ | ⟨q1,q2⟩
   ·left;rw[q2,b9 q3];exact⟨q1,rfl⟩
   ·right;rw[b_ q2];exact⟨q1,rfl⟩)
  rw[pD];obtain⟨Cs,HT⟩:=aO cs hT;have e1:(i:Int)/64=((i/64:Nat):Int):=rfl;have e2:(i:Int).tmod 64=((i%64:Nat):Int):=rfl;have d1:decide (n<=i)=false:=dP;have hinw:i/64<nw n:=by unfold nw;omega
  have qw:64*(i/64)+i%64=i:=by omega
  have hr:i%64<64:=by omega
  have Hi2:=a_ qw;clear LX hout pD hM hT cs qw;generalize hm:nw n=m at *;generalize LZ:i/64=q0 at *;generalize tO:i%64=r0 at *;clear hm LZ tO;go_enter func298,ntmps298;go_wp2
  go_loop [6,7] (λkv av=>∃k a:Nat,kv= .int .i64 k/\av= .int .i64 a/\k<=m/\a<64/\(k=m->a=0)/\dV f i (64*m-i)=dV f (64*k+a) (64*m-(64*k+a))) (λkv _=>m-(intOf kv).toNat)
  case atStart=>exact⟨q0,r0,rfl,rfl,by omega,hr,λe=>by omega,by rw[Hi2.out]⟩
  case round=>
   obtain⟨k,a,rfl,rfl,hk,ha,VB,hn⟩:=hrel;by_cases hkm:k<m
   ·have ck:=Cs k hkm;have RQ:=a_ (next_any (vw f k) (tC f k) a w HT);rw[clipN_of (Nat.le_of_lt ha)] at RQ;have hb:=dM (vw f k).testBit (64-a) a;have fZ:=nxt_word f k a;have hst:dV f i (64*m-i)=if dV (vw f k).testBit a (64-a)<64 then 64*k+dV (vw f k).testBit a (64-a) else dV f (64*(k+1)) (64*m-64*(k+1)):=by
     rw[hn,show 64*m-(64*k+a)=(64-a)+(64*m-64*(k+1)) by omega,nxt_add,←fZ,show 64*k+a+(64-a)=64*(k+1) by omega]
     split
     ·rw[iY];omega
     ·rw[cG]
    clear hn;generalize dV (vw f k).testBit a (64-a)=r at *;generalize vw f k=x at *;have VR:r<=64:=by omega
    have CP:=a_ hst;clear hst fZ hb;by_cases KN:r<64
    ·go_wp2_with (go_at_call 327;refine RQ.kq ?_;rintro w1 rfl)
     go_ret2
     have e:=CP.out;rw[b9 KN] at e;refine⟨?_,rfl⟩;rcases HA.out with⟨q1,q2⟩ | ⟨q1,q2⟩
     ·rw[q2,e];simp
     ·omega
    ·go_wp2_with (go_at_call 327;refine RQ.kq ?_;rintro w1 rfl)
     go_round
     case rel=>exact⟨k+1,0,by go_num,rfl,by omega,by omega,λ_=>rfl,by
      have e:=CP.out;rw[b_ KN] at e;exact e⟩
     case measure=>simp[intOf];omega
   ·have hkm2:k=m:=by omega
    subst hkm2;obtain rfl:=VB rfl;have Hn:=a_ hn;clear hn VB;have hdk:decide (k<k)=false:=dP;go_wp2
    go_ret2
    refine⟨?_,rfl⟩;rcases HA.out with⟨q1,q2⟩ | ⟨q1,q2⟩
    ·have e:=Hn.out;rw[show 64*k-(64*k+0)=0 by omega] at e;rw[show dV f (64*k+0) 0=64*k+0 from by unfold dV;rfl] at e;omega
    ·exact q2.symm▸rfl
 ·have d1:decide (n<=i)=true:=kr;have e:ua f n i= .tuple #[Wy,false]:=by
   unfold ua;rw[b_];have:=(dM f (n-i) i).1;omega
  rw[e];clear cs;go_enter func298,ntmps298;go_wp2
  go_ret2
  exact⟨rfl,rfl⟩
end
def Af (f:Nat->Bool) (k:Nat):Value:=if fT f k=0 then .tuple #[Wy,false] else .tuple #[((fT f k:Nat)-1:Int),true]
def lst_over {f:Nat->Bool} {n:Nat} (h:∀x,n<=x->f x=false) (k:Nat):fT f k=fT f (min k n):=by
 rcases Nat.le_total k n with a | a
 ·rw[Nat.min_eq_left a]
 ·rw[Nat.min_eq_right a];obtain⟨c,rfl⟩:=Nat.exists_eq_add_of_le a;rw[re,yj (λi _=>h _ (by omega)),b9 rfl]
section
variable {b n:Nat} {f:Nat->Bool} {R K:BL} {w w':World}
def vj (p:Nat) (h:cY b n f R) (hR:Has R w) (hp:0<p) (hp2:p<=1048577):
  WR 315 #[Wz b,p] w (Af f p) λw'=>w=w':=by
 obtain⟨rb,cap,c0,c1,hc,cs⟩:=h.cells hR;have hd:=h.ij;have Oh:=yt hd.2;obtain⟨DD,pD⟩:∃DD,Af f p=DD:=⟨_,rfl⟩
 have LX:=lst_over (λx hx=>h.out hx) p;unfold Af at pD;rw[LX] at pD;rw[show Af f p=DD from by unfold Af;rw[LX];exact pD];obtain⟨HA,Cs⟩:=aO pD cs;have kP:min (p:Int) n=((min p n:Nat):Int):=by omega
 have Ox:1<=min p n:=by omega
 have Bi:min p n<=1048576:=by omega
 have qz:(min p n-1)/64<nw n:=by unfold nw;omega
 have e1:((min p n:Nat)-1:Int)/64=(((min p n-1)/64:Nat):Int):=by omega
 have hpos:¬(p:Int)<=0:=by omega
 clear LX pD h hR cs;generalize hm:nw n=m at *;generalize hq:min p n=q at *;have hst:64*((q-1)/64)<q/\q<=64*((q-1)/64+1):=by omega
 generalize (q-1)/64=k0 at *;clear hm hq;go_enter func315,ntmps315;go_wp2
 go_loop [6] (λkv=>∃k:Nat,kv= .int .i64 ((k:Int)-1)/\k<=k0+1/\fT f q=fT f (min q (64*k))) (λkv=>((intOf kv)+1).toNat)
 case atStart=>exact⟨k0+1,by go_num,Nat.le_refl _,by rw[Nat.min_eq_left hst.2]⟩
 case round=>
  obtain⟨k,rfl,hk,hn⟩:=hrel;rcases Nat.eq_zero_or_pos k with rfl | CX
  ·rw[Nat.mul_zero,Nat.min_zero] at hn;have Hn:=a_ hn;clear hn;go_wp2
   go_ret2
   refine⟨?_,rfl⟩;have e:=HA.out;rw[Hn.out,show fT f 0=0 from rfl,b9 rfl] at e;rw[←e];rfl
  ·obtain⟨j,rfl⟩:∃j,k=j+1:=⟨k-1,by omega⟩
   have e3:((j+1:Nat):Int)-1=(j:Int):=by omega
   rw[e3];have ck:=Cs j (by omega);have HL:=a_ (last_any (vw f j) (tC f j) ((q:Int)-64*j) w);have bu:da ((q:Int)-64*j)=min (q-64*j) 64:=by unfold da;omega
   rw[bu] at HL;have fZ:fT (vw f j).testBit (min (q-64*j) 64)=fT (λi=>f (64*j+i)) (min (q-64*j) 64):=pI λi hi=>by
    rw[eR];simp[show i<64 by omega]
   have OD:fT f q=if fT (vw f j).testBit (min (q-64*j) 64)=0 then fT f (min q (64*j)) else 64*j+fT (vw f j).testBit (min (q-64*j) 64):=by
    rw[fZ,hn,show min q (64*(j+1))=64*j+min (q-64*j) 64 by omega,re,show min q (64*j)=64*j by omega]
   have VR:=vZ (vw f j).testBit (min (q-64*j) 64);clear hn fZ e3;generalize fT (vw f j).testBit (min (q-64*j) 64)=r at *;generalize vw f j=x at *;have KN:r<=64:=by omega
   have CP:=a_ OD;have hjb:j<=16384:=by omega
   have hjm:j<m:=by omega
   clear OD VR bu;by_cases tO:r=0
   ·subst tO
    go_wp2_with (go_at_call 335;refine HL.kq ?_;rintro w1 rfl)
    go_round
    case rel=>exact⟨j,rfl,by omega,by have e:=CP.out;simpa using e⟩
    case measure=>simp[intOf]
   ·have Bo:1<=r:=by omega
    go_wp2_with (go_at_call 335;refine HL.kq ?_;rintro w1 rfl)
    go_ret2
    refine⟨?_,rfl⟩;have e:=HA.out;have e2:=CP.out;rw[b_ tO] at e2;rw[show (λx=>f x)=f from rfl,e2,cG] at e;rw[←e];exact congrArg (λz=>Ending.returned (.tuple #[.int .i64 z,.bool true])) (by omega)
end
def Calls.iD {P:Program} {f:FuncId} {args:Array Value} {w:World} {v:Value} (h:Calls P f args w λe w'=>e= .returned v/\w=w'):Calls P f args w λe w'=>e= .returned v/\w'=w:=h.mono λ_ _ ⟨a,b⟩=>⟨a,b.symm⟩
def rU (a b:Nat):Nat:=if a<b then (b-1)/64+1 else a/64
section
variable {b n:Nat} {f:Nat->Bool} {R K:BL} {w w':World}
def rS {rb cap:Nat} (I:Nat->World->Prop) (F:FuncId) (caps:Array Value) (hF:∀args w,(callFunc F args).run prog w= .ok (.enter F args) w) (a p:Nat) (ha:a<=n) (hp:p<=2097152) (hn:1<=n/\n<=1048576) (hcap:nw n<=cap)
  (hc:∀i W,I i W->W.cell? ⟨b,0,none⟩=some (.slice (some ⟨rb,0,none⟩) (nw n) cap)/\W.cell? ⟨b,1,none⟩=some (.int .i64 n))
  (hg:∀i W W',I i W->Below W.heap.size W W'->I i W')
  (hs:∀i W,a/64<=i->i<rU a (min p n)->i<nw n->I i W->Calls prog F (#[.pointer (some ⟨rb,i,none⟩),.int .u64 (FL a (min p n:Nat) i)]++caps) W λe W'=>e= .returned (.tuple #[])/\I (i+1) W')
  (h:I (a/64) w):
  WR 317 #[Wz b,a,p,.func (.func F) #[] caps] w (.tuple #[]) λw'=>I (rU a (min p n)) w':=by
 have Oh:=yt hn.2;obtain⟨c0,c1⟩:=hc _ _ h;have kP:min (p:Int) n=((min p n:Nat):Int):=by omega
 have hmax:max (a:Int) 0=(a:Int):=by omega
 have Bg:min p n<=n:=Nat.min_le_right _ _;have NT:a<min p n->rU a (min p n)=(min p n-1)/64+1/\(min p n-1)/64<nw n/\a/64<=(min p n-1)/64:=λhlt=>by
  unfold rU nw;rw[b9 hlt];exact⟨rfl,by omega,by omega⟩
 have Qe:¬a<min p n->rU a (min p n)=a/64:=λhlt=>by
  unfold rU;rw[b_ hlt]
 have e0:(a:Int)/64=((a/64:Nat):Int):=rfl;have hab:a/64<=16384:=by omega
 obtain⟨Hc,Hg,Hs,H,Uv,Uw⟩:=uB hc hg hs h NT Qe;clear hc hg hs h NT Qe;generalize hm:nw n=m at *;generalize hq:min p n=q at *;generalize hj:a/64=i0 at *;generalize rU a q=i1 at *;clear hm hq hj;go_enter func317,ntmps317;go_wp2
 go_region
 all_goals go_wp2
 have H2:=a_ (Hg _ _ _ H (ay w));clear H
 go_loopw [8] (λiv wr=>∃i:Nat,iv= .int .i64 i/\i0<=i/\i<=i1/\I i wr) (λiv _=>i1-(intOf iv).toNat)
 case atStart=>
  refine⟨i0,by first | rfl | rw[e0],Nat.le_refl _,?_,H2⟩;by_cases hlt:a<q
  ·have:=Uv hlt;omega
  ·have:=Uw hlt;omega
 case round=>
  obtain⟨i,rfl,Kw,IJ,hI⟩:=hrel;obtain⟨c0,c1⟩:=Hc _ _ hI;have HI:=a_ hI;clear hI;by_cases hlt:a<q
  ·obtain⟨h1,h2,h3⟩:=Uv hlt;have e1:((q:Int)-1)/64=(((q-1)/64:Nat):Int):=by omega
   generalize (q-1)/64=z at *;have hz:z<=16384:=by omega
   by_cases hiz:i<=z
   ·have him:i<m:=by omega
    have hii:i<i1:=by omega
    have s1:=eH (64*(i:Int));have s2:=eH ((a:Int)-64*i);have s3:=eH ((q:Int)-64*i);have hS:=λW hW=>Hs i W Kw hii him hW
    unfold FL at hS;have HS:=a_ hS;clear hS h1
    go_wp2_with (fail)
    refine wp_region_still_tail 16 (by kernel_rfl) (by kernel_rfl) ?_;simp only[List.take_succ_cons,List.take_zero,List.drop_succ_cons,List.drop_zero];have FU:=a_ (Hg _ _ _ HI (ay _));unfold World.drew at FU;generalize ({wr with drawn:=wr.drawn+1}:World)=W2 at *;clear c0 c1;obtain⟨c0,c1⟩:=Hc _ _ FU
    repeat still_step
    still_call (Calls.iD (rz _ _ _))
    refine wpStill_nil ?_
    go_wp2_with (refine (HS _ FU).kq ?_;rintro w5 h5;have H5:=a_ h5;clear h5)
    go_roundw
    case rel=>exact⟨i+1,by go_num,by omega,by omega,H5⟩
    case measure=>simp[intOf];omega
   ·have hgt:¬(i:Int)<=z:=by omega
    obtain rfl:i=z+1:=by omega
    have h1:=a_ h1;go_wp2
    go_end0
    exact⟨rfl,HI⟩
  ·have he:=Uw hlt;have Qe:i=i1:=by omega
   subst Qe;go_wp2
   go_end0
   exact⟨rfl,HI⟩
end
def gK (f g:Nat->Bool) (i:Nat):Nat->Bool:=λx=>if x/64<i then g x else f x
def oG (f g:Nat->Bool) (i j:Nat):vw (gK f g i) j=if j<i then vw g j else vw f j:=by
 split
 ·next h=>exact tB λx hx=>by unfold gK;rw[iY]
 ·next h=>exact tB λx hx=>by unfold gK;rw[cG]
def part_next (f g:Nat->Bool) (i j:Nat) (h:j≠i):vw (gK f g (i+1)) j=vw (gK f g i) j:=by
 rw[oG,oG];by_cases h1:j<i
 ·rw[b9 h1,iY]
 ·rw[b_ h1,cG]
section
variable {b n nb rb i:Nat} {f:Nat->Bool} {R K:BL} {w w':World}
def fill1_any (x y:Nat) (z:Int) (hx:x<18446744073709551616) (hy:y<18446744073709551616) (c:w.cell? ⟨nb,0,none⟩=some (.int .i64 z)) (fz:w.frozen? ⟨nb,0,none⟩=false) (cx:w.cell? ⟨rb,i,none⟩=some (.int .u64 x)) (fx:w.frozen? ⟨rb,i,none⟩=false) (hne:nb≠rb):
  WR 328 #[.pointer (some ⟨rb,i,none⟩),.int .u64 y,Wz nb] w (.tuple #[]) λw'=>∃(z':Int) (W2:World),Below w.heap.size w W2/\w'=(W2.setCell ⟨nb,0,none⟩ (.int .i64 z')).setCell ⟨rb,i,none⟩ (.int .u64 ((x ||| y:Nat):Int)):=by
 have IQ:=Go.u64_or_nat x y hx hy;have hne2:rb≠nb:=λe=>hne e.symm
 have hz:=Go.u64_andNot_nat y x hy hx;have hlt:y &&& (18446744073709551615-x)<18446744073709551616:=Nat.lt_of_le_of_lt Nat.and_le_left hy;have HC:=a_ (λW=>Calls.iD (pv (y &&& (18446744073709551615-x)) hlt 0 64 W));go_enter func328,ntmps328
 go_wp2_with (fail)
 refine wp_region_still_tail 8 (by kernel_rfl) (by kernel_rfl) ?_;simp only[List.take_succ_cons,List.take_zero,List.drop_succ_cons,List.drop_zero];have c':w.drew.cell? ⟨nb,0,none⟩=some (.int .i64 z):=c;have Nu:w.drew.frozen? ⟨nb,0,none⟩=false:=fz;have Nn:w.drew.cell? ⟨rb,i,none⟩=some (.int .u64 x):=cx;have Sj:w.drew.frozen? ⟨rb,i,none⟩=false:=fx;have HB:=a_ (ay w);clear c fz cx fx;unfold World.drew at c' Nu Nn Sj HB;generalize ({w with drawn:=w.drawn+1}:World)=W2 at *
 repeat still_step
 still_call (HC _)
 repeat still_step
 refine wpStill_nil ?_;go_wp2
 go_end0
 exact⟨rfl,_,W2,HB,rfl⟩
def wipe1_any (x y:Nat) (z:Int) (hx:x<18446744073709551616) (hy:y<18446744073709551616) (c:w.cell? ⟨nb,0,none⟩=some (.int .i64 z)) (fz:w.frozen? ⟨nb,0,none⟩=false) (cx:w.cell? ⟨rb,i,none⟩=some (.int .u64 x)) (fx:w.frozen? ⟨rb,i,none⟩=false) (hne:nb≠rb):
  WR 318 #[.pointer (some ⟨rb,i,none⟩),.int .u64 y,Wz nb] w (.tuple #[]) λw'=>∃(z':Int) (W2:World),Below w.heap.size w W2/\w'=(W2.setCell ⟨nb,0,none⟩ (.int .i64 z')).setCell ⟨rb,i,none⟩ (.int .u64 ((x &&& (18446744073709551615-y):Nat):Int)):=by
 have IQ:=Go.u64_andNot_nat x y hx hy;have hne2:rb≠nb:=λe=>hne e.symm
 have hz:=Go.u64_and_nat y x hy hx;have hlt:y &&& x<18446744073709551616:=Nat.lt_of_le_of_lt Nat.and_le_left hy;have HC:=a_ (λW=>Calls.iD (pv (y &&& x) hlt 0 64 W));go_enter func318,ntmps318
 go_wp2_with (fail)
 refine wp_region_still_tail 8 (by kernel_rfl) (by kernel_rfl) ?_;simp only[List.take_succ_cons,List.take_zero,List.drop_succ_cons,List.drop_zero];have c':w.drew.cell? ⟨nb,0,none⟩=some (.int .i64 z):=c;have Nu:w.drew.frozen? ⟨nb,0,none⟩=false:=fz;have Nn:w.drew.cell? ⟨rb,i,none⟩=some (.int .u64 x):=cx;have Sj:w.drew.frozen? ⟨rb,i,none⟩=false:=fx;have HB:=a_ (ay w);clear c fz cx fx;unfold World.drew at c' Nu Nn Sj HB;generalize ({w with drawn:=w.drawn+1}:World)=W2 at *
 repeat still_step
 still_call (HC _)
 repeat still_step
 refine wpStill_nil ?_;go_wp2
 go_end0
 exact⟨rfl,_,W2,HB,rfl⟩
def count1_any (x y z:Nat) (hx:x<18446744073709551616) (hy:y<18446744073709551616) (hz0:z<=2097152) (c:w.cell? ⟨nb,0,none⟩=some (.int .i64 z)) (fz:w.frozen? ⟨nb,0,none⟩=false) (cx:w.cell? ⟨rb,i,none⟩=some (.int .u64 x)):
  WR 340 #[.pointer (some ⟨rb,i,none⟩),.int .u64 y,Wz nb] w (.tuple #[]) λw'=>∃(W2:World),Below w.heap.size w W2/\w'=W2.setCell ⟨nb,0,none⟩ (.int .i64 ((z+aG (y &&& x).testBit 64:Nat):Int)):=by
 have hz:=Go.u64_and_nat y x hy hx;have hlt:y &&& x<18446744073709551616:=Nat.lt_of_le_of_lt Nat.and_le_left hy;have hC:=λW=>Calls.iD (pv (y &&& x) hlt 0 64 W)
 have bu:=bE (y &&& x).testBit 64;rw[←cntN_all] at bu ⊢;rw[show da 0=0 from rfl,show da 64=64 from rfl] at hC;have s1:IntKind.i64.wrap ((z:Int)+(Ck (y &&& x) 0 64:Nat))=((z+Ck (y &&& x) 0 64:Nat):Int):=by rw[IntWalk.i64_in _ (by omega)];omega
 generalize Ck (y &&& x) 0 64=q at *;obtain⟨HC,S1⟩:=aO hC s1;clear hC s1;go_enter func340,ntmps340
 go_wp2_with (fail)
 refine wp_region_still_tail 8 (by kernel_rfl) (by kernel_rfl) ?_;simp only[List.take_succ_cons,List.take_zero,List.drop_succ_cons,List.drop_zero];have c':w.drew.cell? ⟨nb,0,none⟩=some (.int .i64 z):=c;have Nu:w.drew.frozen? ⟨nb,0,none⟩=false:=fz;have Nn:w.drew.cell? ⟨rb,i,none⟩=some (.int .u64 x):=cx;have HB:=a_ (ay w);clear c fz cx;unfold World.drew at c' Nu Nn HB;generalize ({w with drawn:=w.drawn+1}:World)=W2 at *
 repeat still_step
 still_call (HC _)
 repeat still_step
 refine wpStill_nil ?_;go_wp2
 go_end0
 exact⟨rfl,W2,HB,by simp⟩
end
def sU (f g:Nat->Bool) (a:Nat) (h:∀x,x<a->g x=f x):∀x,f x=gK f g (a/64) x:=λx=>by
 unfold gK
 split
 ·exact (h x (by omega)).symm
 ·rfl
def uT {f g:Nat->Bool} {a p n:Nat} (hp:p<=n) (h:∀x,g x≠f x->a<=x/\x<p):∀x,g x=gK f g (rU a p) x:=λx=>by
 unfold gK
 split
 ·rfl
 ·next hx=>
  rcases Classical.em (g x=f x) with e | e
  ·exact e
  ·obtain⟨h1,h2⟩:=h x e;unfold rU at hx;rw[iY] at hx;omega
def mF (f:Nat->Bool) (a p:Nat):∀x,ix f a p x≠f x->a<=x/\x<p:=λx h=>by
 unfold ix at h;rcases Classical.em (a<=x/\x<p) with e | e
 ·exact e
 ·exfalso
  apply h;have:(decide ((a:Int)<=(x:Int)) && decide ((x:Int)<(p:Int)))=false:=by simp;omega
  rw[this,Bool.or_false]
def mQ (f:Nat->Bool) (a p:Nat):∀x,iH f a p x≠f x->a<=x/\x<p:=λx h=>by
 unfold iH at h;rcases Classical.em (a<=x/\x<p) with e | e
 ·exact e
 ·exfalso
  apply h;have:(decide ((a:Int)<=(x:Int)) && decide ((x:Int)<(p:Int)))=false:=by simp;omega
  rw[this];simp
section
variable {b n:Nat} {f:Nat->Bool} {R K:BL} {w w':World}
def oW.apart {rb cap nb:Nat} {o:Obj} (h:oW rb cap b n f R) (hR:At ((nb,o)::R) w):nb≠rb:=by
 obtain⟨cur,rfl, -⟩:=h;have:=hR.2;simp only[List.map_cons,List.nodup_cons,List.mem_cons] at this;intro e;exact this.1 (.inr (.inl e))
def sZ {rb cap nb i:Nat} {z z':Int} {g:Nat->Bool} {R0 Rv:BL} {w0 W W2 W':World} (hv:oW rb cap b n (gK f g i) Rv) (hd:ag R0 ((nb,WD #[z] 3)::Rv) w0 W)
  (hi:i<nw n) (ho:∀x,n<=x->g x=false) (hf:∀x,n<=x->f x=false) (hb:Below W.heap.size W W2) (e:W'=(W2.setCell ⟨nb,0,none⟩ (.int .i64 z')).setCell ⟨rb,i,none⟩ (.int .u64 (vw g i))):
  ∃(z:Int) (Rv:BL),oW rb cap b n (gK f g (i+1)) Rv/\ag R0 ((nb,WD #[z] 3)::Rv) w0 W':=by
 have h1:ag R0 ((nb,.cells #[z'] 3 (0,0))::Rv) w0 (W2.setCell ⟨nb,0,none⟩ (.int .i64 z')):=(hd.grow hb).set 0 z';have h2:=h1.perm (R':=Rv++ [(nb,.cells #[z'] 3 (0,0))]) aF;obtain⟨R',k1,k2⟩:=hv.put h2.at_.left (g:=gK f g (i+1)) hi (λj hj _=>part_next f g i j hj) (λx hx=>by
  unfold gK
  split
  ·exact ho x hx
  ·exact hf x hx)
 have e2:vw (gK f g (i+1)) i=vw g i:=by rw[oG,iY]
 rw[e2,←e] at k2;exact⟨z',R',k1,(ag.step h2 k2).perm aF⟩
def nf (R0:BL) (w0:World) (rb cap b n nb:Nat) (f g:Nat->Bool) (i:Nat) (W:World):Prop:=
 ∃(z:Int) (Rv:BL),oW rb cap b n (gK f g i) Rv/\ag R0 ((nb,WD #[z] 3)::Rv) w0 W
def nf.cells {R0:BL} {w0:World} {rb cap nb i:Nat} {g:Nat->Bool} (h:nf R0 w0 rb cap b n nb f g i w):w.cell? ⟨b,0,none⟩=some (.slice (some ⟨rb,0,none⟩) (nw n) cap)/\w.cell? ⟨b,1,none⟩=some (.int .i64 n):=by
 obtain⟨z,Rv,h1,h2⟩:=h;obtain⟨c0,c1, -⟩:=h1.cells h2.has.tail;exact⟨c0,c1⟩
def nf.grow {R0:BL} {w0:World} {rb cap nb i:Nat} {g:Nat->Bool} (h:nf R0 w0 rb cap b n nb f g i w) (c:Below w.heap.size w w'):nf R0 w0 rb cap b n nb f g i w':=by
 obtain⟨z,Rv,h1,h2⟩:=h;exact⟨z,Rv,h1,h2.grow c⟩
def enter_fill (args:Array Value) (w:World):(callFunc 328 args).run prog w= .ok (.enter 328 args) w:=by kernel_rfl
def enter_wipe (args:Array Value) (w:World):(callFunc 318 args).run prog w= .ok (.enter 318 args) w:=by kernel_rfl
def enter_count (args:Array Value) (w:World):(callFunc 340 args).run prog w= .ok (.enter 340 args) w:=by kernel_rfl
def vfill_any (a p:Nat) (ha:a<=n) (hp:p<=2097152) (h:cY b n f R) (hR:At R w):
  WA 299 #[Wz b,a,p] w λe w'=>∃z:Int,e= .returned z/\∃R',cY b n (ix f a (min p n:Nat)) R'/\ag R R' w w':=by
 obtain⟨rb,cap,hA⟩:=id h;have hd:=h.ij;have hf:∀x,n<=x->f x=false:=λx hx=>h.out hx
 have Bg:min p n<=n:=Nat.min_le_right _ _;have hg:∀x,n<=x->ix f a (min p n:Nat) x=false:=λx hx=>by
  rcases Classical.em (ix f a (min p n:Nat) x=f x) with e | e
  ·rw[e];exact hf x hx
  ·have:=mF f a (min p n) x e;omega
 have sj:=sU f (ix f a (min p n:Nat)) a (λx hx=>by
  rcases Classical.em (ix f a (min p n:Nat) x=f x) with e | e
  ·exact e
  ·have:=mF f a (min p n) x e;omega)
 have hlast:=uT (f:=f) (g:=ix f a (min p n:Nat)) Bg (mF f a (min p n));have hcap:nw n<=cap:=(hA.cells hR.1).2.2.1;have h0:nf R w rb cap b n w.heap.size f (ix f a (min p n:Nat)) (a/64) (w.alloc (.cells #[Wy] 3)):=by
  refine⟨0,R,?_,(ag.refl hR).box _ _⟩;have e:gK f (ix f a (min p n:Nat)) (a/64)=f:=funext λx=>(sj x).symm
  rw[e];exact hA
 have HE:=a_ (rS (b:=b) (n:=n) (w:=w.alloc (.cells #[Wy] 3)) (rb:=rb) (cap:=cap) (nf R w rb cap b n w.heap.size f (ix f a (min p n:Nat))) 328 #[.pointer (some ⟨w.heap.size,0,none⟩)] enter_fill a p ha hp hd hcap
  (λi W hI=>hI.cells) (λi W W' hI c=>hI.grow c) (λi W h1 h2 h3 hI=>by
   obtain⟨z,Rv,k1,k2⟩:=hI;obtain⟨c0,c1, -,cs,fz⟩:=k1.cells k2.has.tail;have q:=k2.has.head;have cx:=cs i h3;rw[oG,b_ (Nat.lt_irrefl i)] at cx;refine (fill1_any (vw f i) _ z (tC f i) (wg _ _ _) (an q 0 _ rfl) (br q 0) cx (fz i) (k1.apart k2.at_)).mono ?_;rintro e W' ⟨he,z',W2,hb,hw⟩;rw[←vw_fill] at hw;exact⟨he,sZ k1 k2 h3 hg hf hb hw⟩) h0)
 have HL:=a_ hlast;clear h0 hlast sj hg hf h hA hcap hR;go_enter func299,ntmps299
 go_wp2_with (go_at_call 317;refine HE.kq ?_;rintro w1 hI;obtain⟨z,Rv,k1,k2⟩:=hI;have q:=k2.has.head;have c0:=an q 0 _ rfl;have K1:=a_ k1;have K2:=a_ k2.tail;clear k1 k2 q)
 go_ret;refine⟨z,rfl,Rv,?_,K2⟩;have e:=funext HL;have k:=K1.out;rw[←e] at k;exact k.vec
end
section
variable {b n:Nat} {f:Nat->Bool} {R K:BL} {w w':World}
def vk (a p:Nat) (ha:a<=n) (hp:p<=2097152) (h:cY b n f R) (hR:At R w):
  WA 285 #[Wz b,a,p] w λe w'=>∃z:Int,e= .returned z/\∃R',cY b n (iH f a (min p n:Nat)) R'/\ag R R' w w':=by
 obtain⟨rb,cap,hA⟩:=id h;have hd:=h.ij;have hf:∀x,n<=x->f x=false:=λx hx=>h.out hx
 have Bg:min p n<=n:=Nat.min_le_right _ _;have hg:∀x,n<=x->iH f a (min p n:Nat) x=false:=λx hx=>by
  rcases Classical.em (iH f a (min p n:Nat) x=f x) with e | e
  ·rw[e];exact hf x hx
  ·have:=mQ f a (min p n) x e;omega
 have sj:=sU f (iH f a (min p n:Nat)) a (λx hx=>by
  rcases Classical.em (iH f a (min p n:Nat) x=f x) with e | e
  ·exact e
  ·have:=mQ f a (min p n) x e;omega)
 have hlast:=uT (f:=f) (g:=iH f a (min p n:Nat)) Bg (mQ f a (min p n));have hcap:nw n<=cap:=(hA.cells hR.1).2.2.1;have h0:nf R w rb cap b n w.heap.size f (iH f a (min p n:Nat)) (a/64) (w.alloc (.cells #[Wy] 3)):=by
  refine⟨0,R,?_,(ag.refl hR).box _ _⟩;have e:gK f (iH f a (min p n:Nat)) (a/64)=f:=funext λx=>(sj x).symm
  rw[e];exact hA
 have HE:=a_ (rS (b:=b) (n:=n) (w:=w.alloc (.cells #[Wy] 3)) (rb:=rb) (cap:=cap) (nf R w rb cap b n w.heap.size f (iH f a (min p n:Nat))) 318 #[.pointer (some ⟨w.heap.size,0,none⟩)] enter_wipe a p ha hp hd hcap
  (λi W hI=>hI.cells) (λi W W' hI c=>hI.grow c) (λi W h1 h2 h3 hI=>by
   obtain⟨z,Rv,k1,k2⟩:=hI;obtain⟨c0,c1, -,cs,fz⟩:=k1.cells k2.has.tail;have q:=k2.has.head;have cx:=cs i h3;rw[oG,b_ (Nat.lt_irrefl i)] at cx;refine (wipe1_any (vw f i) _ z (tC f i) (wg _ _ _) (an q 0 _ rfl) (br q 0) cx (fz i) (k1.apart k2.at_)).mono ?_;rintro e W' ⟨he,z',W2,hb,hw⟩;rw[←vw_wipe] at hw;exact⟨he,sZ k1 k2 h3 hg hf hb hw⟩) h0)
 have HL:=a_ hlast;clear h0 hlast sj hg hf h hA hcap hR;go_enter func285,ntmps285
 go_wp2_with (go_at_call 317;refine HE.kq ?_;rintro w1 hI;obtain⟨z,Rv,k1,k2⟩:=hI;have q:=k2.has.head;have c0:=an q 0 _ rfl;have K1:=a_ k1;have K2:=a_ k2.tail;clear k1 k2 q)
 go_ret;refine⟨z,rfl,Rv,?_,K2⟩;have e:=funext HL;have k:=K1.out;rw[←e] at k;exact k.vec
def zD (R0:BL) (w0:World) (b n nb:Nat) (f g:Nat->Bool) (i:Nat) (W:World):Prop:=
 ag R0 ((nb,WD #[(aG g (64*i):Nat)] 3)::R0) w0 W
def cnt_le_of {g:Nat->Bool} {n:Nat} (h:∀x,n<=x->g x=false) (k:Nat):aG g k<=n:=by
 rcases Nat.le_total k n with a | a
 ·exact Nat.le_trans (bE g k) a
 ·obtain⟨c,rfl⟩:=Nat.exists_eq_add_of_le a;rw[fN,dD (f:=λi=>g (n+i)) λi _=>h _ (by omega)];exact bE g n
def tA (a p:Nat) (ha:a<=n) (hp:p<=2097152) (h:cY b n f R) (hR:At R w):
  WR 330 #[Wz b,a,p] w (aG (lX f a (min p n:Nat)) n:Nat) λw'=>Below w.heap.size w w':=by
 obtain⟨rb,cap,hA⟩:=id h;have hd:=h.ij;have hf:∀x,n<=x->f x=false:=λx hx=>h.out hx
 obtain⟨g,hg⟩:∃g,lX f a (min p n:Nat)=g:=⟨_,rfl⟩
 have Bg:min p n<=n:=Nat.min_le_right _ _;have Ep:∀x,n<=x->g x=false:=λx hx=>by
  rw[←hg];unfold lX;rw[hf x hx,Bool.false_and]
 have hlo:∀x,x<a->g x=false:=λx hx=>by
  rw[←hg];unfold lX;rw[show decide ((a:Int)<=(x:Int))=false from dP];simp
 have xY:∀x,min p n<=x->g x=false:=λx hx=>by
  rw[←hg];unfold lX;rw[show decide ((x:Int)<((min p n:Nat):Int))=false from dP];simp
 have hcap:nw n<=cap:=(hA.cells hR.1).2.2.1;have h0:zD R w b n w.heap.size f g (a/64) (w.alloc (.cells #[Wy] 3)):=by
  have:=(ag.refl hR).box #[Wy] 3;unfold zD;rw[dD (f:=g) (k:=64*(a/64)) λi hi=>hlo i (by omega)];exact this
 have HE:=a_ (rS (b:=b) (n:=n) (w:=w.alloc (.cells #[Wy] 3)) (rb:=rb) (cap:=cap) (zD R w b n w.heap.size f g) 340 #[.pointer (some ⟨w.heap.size,0,none⟩)] enter_count a p ha hp hd hcap
  (λi W hI=>⟨(hA.cells (ag.has hI).tail).1,(hA.cells (ag.has hI).tail).2.1⟩) (λi W W' hI c=>ag.grow hI c) (λi W h1 h2 h3 hI=>by
   obtain⟨c0,c1, -,cs,fz⟩:=hA.cells (ag.has hI).tail;have q:=(ag.has hI).head;have cx:=cs i h3;have hle:=cnt_le_of Ep (64*i);refine (count1_any (vw f i) _ (aG g (64*i)) (tC f i) (wg a (min p n:Nat) i) (by omega) (an q 0 _ rfl) (br q 0) cx).mono ?_;rintro e W' ⟨he,W2,hb,hw⟩;rw[←vw_run,hg,←cnt_words] at hw;rw[hw];exact⟨he,(ag.grow hI hb).set 0 _⟩) h0)
 have hend:aG g (64*rU a (min p n))=aG g n:=by
  unfold rU;by_cases hlt:a<min p n
  ·rw[b9 hlt];have e:∀k,min p n<=k->aG g k=aG g (min p n):=λk hk=>by
    obtain⟨c,rfl⟩:=Nat.exists_eq_add_of_le hk;rw[fN,dD (f:=λi=>g (min p n+i)) λi _=>xY _ (by omega)];rfl
   rw[e _ (by omega),e _ Bg]
  ·rw[b_ hlt,dD λi hi=>hlo i (by omega),dD λi hi=>by
    rcases Nat.lt_or_ge i a with h | h
    ·exact hlo i h
    ·exact xY i (by omega)]
 have HN:=a_ hend;have hold:=hR.1;have HR:=a_ hR;clear h0 hend xY hlo Ep hf h hA hcap hR hold;rw[hg];clear hg;go_enter func330,ntmps330
 go_wp2_with (go_at_call 317;refine HE.kq ?_;rintro w1 hI;have q:=(ag.has hI).head;have c0:=an q 0 _ rfl;rw[HN.out] at c0;have K1:=a_ hI;clear hI q)
 go_ret;exact⟨rfl,(K1.quiet HR.1 (ag.has K1).tail)⟩
def clone_u {rb:Nat} {zs:List Value} {off:Nat} (cap:Nat) (hz:∀j u,zs[j]?=some u->w.cell? ⟨rb,off+j,none⟩=some u) (h1:∀u∈zs,u.oneCell'=true) (hm:zs.length<=1000000):
  WA 187 #[.slice (some ⟨rb,off,none⟩) zs.length cap] w λe w'=>∃al iV,e= .returned (.slice al zs.length iV)/\∃R,Rz 33 1 zs.length zs al iV R/\ag [] R w w':=by
 obtain⟨i1,hj,sB,oQ,sC⟩:=info_parts vi;have q22:∀(w:World) (a:Option Addr) (n c n' c':Nat),(binOp .eql 25 (.slice a n c) (.slice none n' c')).run prog w= .ok (.bool a.isNone) w:=λw a n c n' c'=>Lib.run_eql_slice_nil w _ _ a n c n' c' underlying25
 have hB:=(ag.refl (At.nil (w:=w))).box #[] 33;have tO:Rz 33 1 0 [] (some ⟨w.heap.size,0,none⟩) 0 [(w.heap.size,.cells #[] 33 (0,0))]:= .inr ⟨w.heap.size,#[],rfl,Nat.zero_le _,Nat.le_refl _,by unfold maxLen;omega,rfl,rfl,rfl,rfl⟩;obtain⟨Dy,iV,w5,R',hrun,hr,hN⟩:=tO.RY hB.at_ hj sB oQ sC rfl (by decide) underlying25 (news:=zs) (m:=zs.length) (by simp) (a:=some ⟨rb,off,none⟩) cap (λh0=>⟨rb,off,rfl,λj u hu=>bA (au w _) (Nat.le_refl _) (hz j u hu)⟩) h1 (by unfold maxLen;omega) (by omega);rw[Nat.zero_add] at hrun hr;obtain⟨HR,Hr⟩:=aO hrun hr;have HN:=a_ (ag.step hB hN);clear hrun hr hN hB tO hz;go_enter func187,ntmps187
 go_wp2_with (at_builtin;refine cP _ rfl (.tmp 5) (.tmp 6) 25 rfl _ _ _ _ rfl rfl HR ?_)
 go_ret;exact⟨_,_,rfl,_,Hr,by simpa using HN.out⟩
def vec_of_row {zs:List Value} {al:Option Addr} {cap:Nat} {R':BL} (hr:Rz 33 1 (nw n) zs al cap R') (hz:∀i,i<nw n->zs[i]?=some (.int .u64 (vw f i))) (hd:1<=n/\n<=1048576) (hf:∀x,n<=x->f x=false) (b':Nat):
  cY b' n f ((b',WD #[.slice al (nw n) cap,n] 366)::R'):=by
 rcases hr with⟨rfl,h2,rfl,rfl,rfl⟩ | ⟨rb,cur,rfl,h2,h3,h4,h5,h6,h7,rfl⟩
 ·unfold nw at h2;omega
 ·refine⟨rb,cap,cur,rfl,h3,h4,by simpa using h5,λi hi=>?_,hd,hf⟩;have h:=hz i hi;rw[←h6,Nat.mul_one,List.getElem?_take_of_lt hi] at h
  simpa using h
def vcopy_any (h:cY b n f R) (hR:Has R w):
  WA 329 #[Wz b] w λe w'=>∃b',e= .returned (Wz b')/\∃R',cY b' n f R'/\ag [] R' w w':=by
 obtain⟨rb,cap,hA⟩:=id h;obtain⟨c0,c1,hcap,cs,fz⟩:=hA.cells hR;have hd:=h.ij;have hf:∀x,n<=x->f x=false:=λx hx=>h.out hx
 have hle:=yt hd.2;obtain⟨zs,hzs⟩:∃zs,(List.range (nw n)).map (λi=>Value.int .u64 (vw f i))=zs:=⟨_,rfl⟩
 have hlen:zs.length=nw n:=by rw[←hzs];simp
 have Gw:∀j u,zs[j]?=some u->j<nw n/\u= .int .u64 (vw f j):=λj u hu=>by
  have hj:j<nw n:=by rw[←hlen];exact (List.getElem?_eq_some_iff.1 hu).1
  rw[←hzs] at hu;simp[hj] at hu;exact⟨hj,hu.symm⟩
 have hone:∀u∈zs,u.oneCell'=true:=λu hu=>by
  rw[←hzs,List.mem_map] at hu;obtain⟨i, -,rfl⟩:=hu;rfl
 have bu:=λW (hW:Below w.heap.size w W)=>clone_u (w:=W) (rb:=rb) (zs:=zs) (off:=0) cap (λj u hu=>by
  obtain⟨hj,rfl⟩:=Gw j u hu;rw[Nat.zero_add];exact bA hW (Nat.le_refl _) (cs j hj)) hone (by omega)
 rw[hlen] at bu;have IH:∀i,i<nw n->zs[i]?=some (.int .u64 (vw f i)):=λi hi=>by
  rw[←hzs];simp[hi]
 obtain⟨HC,HG,HF⟩:=dF bu IH hf;have HW:=a_ (ay w);have Sc:w.drew.cell? ⟨b,0,none⟩=some (.slice (some ⟨rb,0,none⟩) (nw n) cap):=c0;have LG:w.drew.cell? ⟨b,1,none⟩=some (.int .i64 n):=c1;clear bu Gw hone hzs cs fz hA h hR hf IH;generalize hm:nw n=m at *;obtain⟨Hm,MR⟩:=aO hm hlen;clear hm hlen;go_enter func329,ntmps329;go_wp2
 go_region_with (go_at_call 187;refine (HC _ HW).mono ?_;rintro e w1 ⟨al,iV,rfl,R',hr,hN⟩;have d1:=bA hN.below (Nat.le_refl _) LG;have Hr:=a_ hr;have HN:=a_ hN;clear hr hN)
 all_goals
  go_wp2;go_ret;refine⟨_,rfl,_,?_,(by
   have d:=((ag.refl (At.nil (w:=w))).grow HW).bh HN;rw[List.append_nil] at d;exact d.box _ _)⟩
  have hm:=Hm.out;subst hm;exact vec_of_row Hr HG hd HF _
end
def gL (E:Nat->Nat):Nat->Bool:=λa=>decide (E a≠0)
open Classical in
noncomputable def Cn (E:Nat->Nat):Nat->Bool:=λx=>decide (∃a,E a≠0/\a+E a=x+1)
open Classical in
noncomputable def dI (E:Nat->Nat):Nat->Bool:=λx=>decide (∃a,a<=x/\x<a+E a)
structure bS (E:Nat->Nat) (N:Nat):Prop where
 fits:∀a,E a≠0->a+E a<=N
 apart:∀a x,E a≠0->a<x->x<a+E a->E x=0
def dR {E:Nat->Nat} {a:Nat}:gL E a=true↔E a≠0:=by unfold gL;simp
def td {E:Nat->Nat} {a:Nat}:gL E a=false↔E a=0:=by unfold gL;simp
def jG {E:Nat->Nat} {x:Nat}:Cn E x=true↔∃a,E a≠0/\a+E a=x+1:=by unfold Cn;simp
def fR {E:Nat->Nat} {x:Nat}:dI E x=true↔∃a,a<=x/\x<a+E a:=by unfold dI;simp
def lu {b:Bool} {p:Prop} (h:b=true↔p) (hp:¬p):b=false:=by
 cases b
 ·rfl
 ·exact absurd (h.1 rfl) hp
section
variable {E:Nat->Nat} {N:Nat}
def bS.out (h:bS E N) {x:Nat} (hx:N<=x):E x=0:=by
 rcases Classical.em (E x=0) with e | e
 ·exact e
 ·have:=h.fits x e;omega
def bS.st_out (h:bS E N):∀x,N<=x->gL E x=false:=λx hx=>td.2 (h.out hx)
def bS.en_out (h:bS E N):∀x,N<=x->Cn E x=false:=λx hx=>lu jG fun⟨a,ha,e⟩=>by
 have:=h.fits a ha;omega
def bS.vW (h:bS E N):∀x,N<=x->dI E x=false:=λx hx=>lu fR fun⟨a,h1,h2⟩=>by
 have:=h.fits a (by omega);omega
def bS.one (h:bS E N) {a b x:Nat} (ha:a<=x/\x<a+E a) (hb:b<=x/\x<b+E b):a=b:=by
 rcases Nat.lt_trichotomy a b with e | e | e
 ·have:=h.apart a b (by omega) e (by omega);omega
 ·exact e
 ·have:=h.apart b a (by omega) e (by omega);omega
def bS.end_ (h:bS E N) {s:Nat} (hs:E s≠0):dV (Cn E) s (N-s)=s+E s-1:=by
 have hf:=h.fits s hs;refine jR _ _ _ _ (by omega) (by omega) (λj h1 h2=>lu jG fun⟨a,ha,e⟩=>?_) (.inr (jG.2 ⟨s,hs,by omega⟩));rcases Nat.lt_trichotomy a s with q | q | q
 ·have:=h.apart a s ha q (by omega);omega
 ·subst q;omega
 ·have:=h.apart s a hs q (by omega);omega
def eG (E:Nat->Nat) (s n:Nat):Nat->Nat:=λa=>if a=s then n else E a
def addE_ok (h:bS E N) {s n:Nat} (hn:1<=n) (hf:s+n<=N) (dm:∀a,E a≠0->a+E a<=s\/s+n<=a):bS (eG E s n) N:=by
 refine⟨λa ha=>?_,λa x ha h1 h2=>?_⟩
 ·unfold eG at ha ⊢
  split
  ·next e=>rw[e];exact hf
  ·next e=>rw[b_ e] at ha;exact h.fits a ha
 ·unfold eG at *;by_cases e:a=s
  ·subst e;rw[b9 rfl] at h2;rw[cG];rcases Classical.em (E x=0) with q | q
   ·exact q
   ·have:=dm x q;omega
  ·rw[b_ e] at ha h2;by_cases e2:x=s
   ·subst e2;have:=dm a ha;omega
   ·rw[b_ e2];exact h.apart a x ha h1 h2
def AE {s n:Nat} (hn:1<=n):∀x,gL (eG E s n) x=bj (gL E) s x:=λx=>by
 unfold gL eG bj;by_cases e:x=s
 ·simp[e];omega
 ·simp[e]
def addE_en {s n:Nat} (hn:1<=n) (h0:E s=0):∀x,Cn (eG E s n) x=bj (Cn E) (s+n-1) x:=λx=>by
 rw[Bool.eq_iff_iff,jG];unfold bj;constructor
 ·rintro⟨a,ha,e⟩;unfold eG at ha e;by_cases q:a=s
  ·rw[b9 q] at e;rw[iY]
  ·rw[b_ q] at ha e
   split
   ·rfl
   ·exact jG.2 ⟨a,ha,e⟩
 ·intro hx;by_cases q:x=s+n-1
  ·exact⟨s,by unfold eG;simp;omega,by unfold eG;simp;omega⟩
  ·rw[b_ q] at hx;obtain⟨a,ha,e⟩:=jG.1 hx;have:a≠s:=λe2=>ha (e2▸h0)
   exact⟨a,by unfold eG;rwa [b_ this],by unfold eG;rwa [b_ this]⟩
def bQ (E:Nat->Nat) (N:Nat):Nat:=aG (gL E) N
def gu {f:Nat->Bool} {s:Nat} (h:f s=false):∀k,aG (bj f s) k=aG f k+if s<k then 1 else 0
 | 0=>by simp[aG]
 | k+1=>by
  rw[show aG (bj f s) (k+1)=aG (bj f s) k+if bj f s k then 1 else 0 from rfl,show aG f (k+1)=aG f k+if f k then 1 else 0 from rfl,gu h k];unfold bj;by_cases e:k=s
  ·subst e;simp[h]
  ·by_cases q:s<k
   ·simp[e,q,show s<k+1 by omega];omega
   ·simp[e,q,show ¬s<k+1 by omega]
def rL {s n:Nat} (hn:1<=n) (h0:E s=0) (hs:s<N):bQ (eG E s n) N=bQ E N+1:=by
 unfold bQ;rw[show gL (eG E s n)=bj (gL E) s from funext (AE hn),gu (td.2 h0),b9 hs]
def qW (E:Nat->Nat) (N:Nat):bQ E N<=N:=bE _ _
def wo:Nat->Nat:=λ_=>0
def ET (N:Nat):bS wo N:=⟨λa h=>absurd rfl h,λa x h=>absurd rfl h⟩
def Ai:gL wo=λ_=>false:=funext λx=>td.2 rfl
def ES:Cn wo=λ_=>false:=funext λx=>lu jG fun⟨a,h,_⟩=>h rfl
def wq (N:Nat):bQ wo N=0:=by
 unfold bQ;rw[Ai];exact dD λ_ _=>rfl
def xE (h:bS E N) (a:Nat):(fT (gL E) (a+1)=0/\∀s,s<=a->E s=0)\/∃s,fT (gL E) (a+1)=s+1/\s<=a/\E s≠0/\∀x,s<x->x<=a->E x=0:=by
 rcases yk (gL E) (a+1) with⟨h1,h2⟩ | ⟨h1,h2,h3,h4⟩
 ·exact .inl ⟨h1,λs hs=>td.1 (h2 s (by omega))⟩
 ·exact .inr ⟨fT (gL E) (a+1)-1,by omega,by omega,dR.1 h3,λx hx jl=>td.1 (h4 x (by omega) (by omega))⟩
end
def dg (m N:Nat) (E:Nat->Nat) (R:BL):Prop:=
 ∃bs be R1 R2,R=(m,.cells #[Wz bs,Wz be,(bQ E N:Nat)] 319 (0,0))::(R1++R2)/\cY bs N (gL E) R1/\cY be N (Cn E) R2/\bS E N
section
variable {m N:Nat} {E:Nat->Nat} {R K:BL} {w w':World}
def dg.ok (h:dg m N E R):bS E N:=by
 obtain⟨bs,be,R1,R2,rfl,h1,h2,h3⟩:=h;exact h3
def dg.ij (h:dg m N E R):1<=N/\N<=1048576:=by
 obtain⟨bs,be,R1,R2,rfl,h1,h2,h3⟩:=h;exact h1.ij
def dg.parts (h:dg m N E R) (hR:Has R w):∃bs be R1 R2,w.cell? ⟨m,0,none⟩=some (.pointer (some ⟨bs,0,none⟩))/\w.cell? ⟨m,1,none⟩=some (.pointer (some ⟨be,0,none⟩))/\cY bs N (gL E) R1/\cY be N (Cn E) R2/\Has R1 w/\Has R2 w:=by
 obtain⟨bs,be,R1,R2,rfl,h1,h2,h3⟩:=h;have q:=hR.head;exact⟨bs,be,R1,R2,an q 0 _ rfl,an q 1 _ rfl,h1,h2,hR.tail.left,hR.tail.right⟩
def fD (h:dg m N E R) (hR:Has R w):WR 255 #[Wz m] w false λw'=>w=w':=by
 obtain⟨bs,be,R1,R2,c0,c1, -⟩:=h.parts hR;clear h hR;go_enter func255,ntmps255;go_wp2;go_ret;exact⟨rfl,rfl⟩
def eJ (h:dg m N E R) (hR:Has R w):WR 238 #[Wz m] w N λw'=>w=w':=by
 obtain⟨bs,be,R1,R2,c0,c1,v1,v2,h1,h2⟩:=h.parts hR;have HN:=a_ (fD h hR);have HL:=a_ (oF v1 h1);clear h hR v1 v2 h1 h2;go_enter func238,ntmps238
 go_wp2_with (first | (go_at_call 255;refine HN.kq ?_;rintro w1 rfl) | (go_at_call 284;refine HL.kq ?_;rintro w1 rfl))
 go_ret;exact⟨rfl,rfl⟩
def lz (s:Nat) (h:dg m N E R) (hR:Has R w) (hT:ax w) (hs:E s≠0):WR 257 #[Wz m,s] w (E s:Nat) λw'=>w=w':=by
 obtain⟨bs,be,R1,R2,c0,c1,v1,v2,h1,h2⟩:=h.parts hR;have hf:=h.ok.fits s hs;have hd:=h.ij;have hn:=lN s v2 h2 hT (by omega);unfold ua at hn;rw[h.ok.end_ hs,iY] at hn;have e1:((s+E s-1:Nat):Int)=(s:Int)+(E s:Nat)-1:=by omega
 rw[e1] at hn;generalize hz:E s=z at *;have HN:=a_ hn;have q1:(z:Int)<=1048576:=by omega
 have q2:(s:Int)<=1048576:=by omega
 have q3:(1:Int)<=z:=by omega
 clear h hR v1 v2 h1 h2 hn e1 hf hd hs;go_enter func257,ntmps257
 go_wp2_with (go_at_call 298;refine HN.kq ?_;rintro w1 rfl)
 go_ret;exact⟨congrArg (λq=>Ending.returned (.int .i64 q)) (by omega),rfl⟩
def py (a s:Nat) (h:dg m N E R) (hR:Has R w) (hT:ax w) (hs:s<=a/\a<s+E s):
  WR 280 #[Wz m,a] w (.tuple #[s,(E s:Nat),true]) λw'=>w=w':=by
 obtain⟨bs,be,R1,R2,c0,c1,v1,v2,h1,h2⟩:=h.parts hR;have hf:=h.ok.fits s (by omega);have hd:=h.ij;have HN:=a_ (fD h hR);have HW:=a_ (eJ h hR);have HS:=a_ (lz s h hR hT (by omega));have hl:=vj (w:=w) (a+1) v1 h1 (by omega) (by omega);have Od:fT (gL E) (a+1)=s+1:=by
  rcases xE h.ok a with⟨q1,q2⟩ | ⟨t,q1,q2,q3,q4⟩
  ·have:=q2 s hs.1;omega
  ·rcases Nat.lt_trichotomy s t with e | e | e
   ·have:=h.ok.apart s t (by omega) e (by omega);omega
   ·rw[q1,e]
   ·have:=q4 s e hs.1;omega
 unfold Af at hl;rw[Od,cG,show (((s+1:Nat):Int)-1)=(s:Int) from by omega,show ((a+1:Nat):Int)=(a:Int)+1 from by omega] at hl;have HL:=a_ hl;have q1:(a:Int)<=1048576:=by omega
 have q2:(s:Int)<=1048576:=by omega
 have hsz:=hs.2;have hlt:¬N<=a:=by omega
 have gR:decide (N<=a)=false:=decide_eq_false hlt;generalize hz:E s=z at *;have q3:(z:Int)<=1048576:=by omega
 have q4:¬(s:Int)+z<=a:=by omega
 clear h hR v1 v2 h1 h2 hl Od hf hd hs;go_enter func280,ntmps280
 go_wp2_with (first | (go_at_call 255;refine HN.kq ?_;rintro w1 rfl) | (go_at_call 238;refine HW.kq ?_;rintro w1 rfl) | (go_at_call 315;refine HL.kq ?_;rintro w1 rfl) | (go_at_call 257;refine HS.kq ?_;rintro w1 rfl))
 go_ret3
 exact⟨rfl,rfl⟩
def rT (a:Nat) (h:dg m N E R) (hR:Has R w) (hT:ax w) (hs:∀s,s<=a->s+E s<=a) (ha:a<=2097152):
  WR 280 #[Wz m,a] w (.tuple #[Wy,Wy,false]) λw'=>w=w':=by
 obtain⟨bs,be,R1,R2,c0,c1,v1,v2,h1,h2⟩:=h.parts hR;have hd:=h.ij;have HN:=a_ (fD h hR);have HW:=a_ (eJ h hR);by_cases hlt:N<=a
 ·have gR:decide (N<=a)=true:=decide_eq_true hlt;clear h hR v1 v2 h1 h2 hd hs;go_enter func280,ntmps280
  go_wp2_with (first | (go_at_call 255;refine HN.kq ?_;rintro w1 rfl) | (go_at_call 238;refine HW.kq ?_;rintro w1 rfl))
  go_ret3
  exact⟨rfl,rfl⟩
 ·have gR:decide (N<=a)=false:=decide_eq_false hlt;have hl:=vj (w:=w) (a+1) v1 h1 (by omega) (by omega);rw[show ((a+1:Nat):Int)=(a:Int)+1 from by omega] at hl;unfold Af at hl;have q1:(a:Int)<=1048576:=by omega
  rcases xE h.ok a with⟨p1,p2⟩ | ⟨t,p1,p2,p3,p4⟩
  ·rw[p1,b9 rfl] at hl;have HL:=a_ hl;clear h hR v1 v2 h1 h2 hd hs hl p1 p2;go_enter func280,ntmps280
   go_wp2_with (first | (go_at_call 255;refine HN.kq ?_;rintro w1 rfl) | (go_at_call 238;refine HW.kq ?_;rintro w1 rfl) | (go_at_call 315;refine HL.kq ?_;rintro w1 rfl))
   go_ret3
   exact⟨rfl,rfl⟩
  ·rw[p1,cG,show (((t+1:Nat):Int)-1)=(t:Int) from by omega] at hl;have HL:=a_ hl;have HS:=a_ (lz t h hR hT p3);have hle:=hs t p2;generalize hz:E t=z at *;have q3:(z:Int)<=1048576:=by omega
   have q4:(t:Int)+z<=a:=by omega
   have q5:(t:Int)<=1048576:=by omega
   clear h hR v1 v2 h1 h2 hd hs hl p1 p2 p4;go_enter func280,ntmps280
   go_wp2_with (first | (go_at_call 255;refine HN.kq ?_;rintro w1 rfl) | (go_at_call 238;refine HW.kq ?_;rintro w1 rfl) | (go_at_call 315;refine HL.kq ?_;rintro w1 rfl) | (go_at_call 257;refine HS.kq ?_;rintro w1 rfl))
   go_ret3
   exact⟨rfl,rfl⟩
def Cp (E:Nat->Nat) (N a:Nat):Value:=if dV (gL E) a (N-a)<N then .tuple #[(dV (gL E) a (N-a):Int),(E (dV (gL E) a (N-a)):Nat),true] else .tuple #[Wy,Wy,false]
def pz (a:Nat) (h:dg m N E R) (hR:Has R w) (hT:ax w) (ha:a<=1048577):
  WR 249 #[Wz m,a] w (Cp E N a) λw'=>w=w':=by
 obtain⟨bs,be,R1,R2,c0,c1,v1,v2,h1,h2⟩:=h.parts hR;have HN:=a_ (fD h hR);have hx:=lN a v1 h1 hT ha;unfold ua at hx;unfold Cp;by_cases hlt:dV (gL E) a (N-a)<N
 ·rw[b9 hlt] at hx ⊢;have hs:E (dV (gL E) a (N-a))≠0:=dR.1 ((dM (gL E) (N-a) a).2.2.2 (by have:=(dM (gL E) (N-a) a).1;omega));have HS:=a_ (lz _ h hR hT hs);have HX:=a_ hx;generalize dV (gL E) a (N-a)=r at *;clear h hR v1 v2 h1 h2 hx hs;generalize E r=z at *;go_enter func249,ntmps249
  go_wp2_with (first | (go_at_call 255;refine HN.kq ?_;rintro w1 rfl) | (go_at_call 298;refine HX.kq ?_;rintro w1 rfl) | (go_at_call 257;refine HS.kq ?_;rintro w1 rfl))
  go_ret3
  exact⟨rfl,rfl⟩
 ·rw[b_ hlt] at hx ⊢;have HX:=a_ hx;clear h hR v1 v2 h1 h2 hx hlt;go_enter func249,ntmps249
  go_wp2_with (first | (go_at_call 255;refine HN.kq ?_;rintro w1 rfl) | (go_at_call 298;refine HX.kq ?_;rintro w1 rfl))
  go_ret3
  exact⟨rfl,rfl⟩
end
section
variable {m N:Nat} {E:Nat->Nat} {R K:BL} {w w':World}
def ext_no (n:Int) (w:World) (h:n<1\/1048576<n):
  WR 156 #[n] w (.tuple #[.pointer none,(5:Int)]) λw'=>w=w':=by
 have H:=a_ (vec_no n w h);clear h;go_enter func156,ntmps156
 go_wp2_with (go_at_call 237;refine H.kq ?_;rintro w1 rfl)
 go_ret2
 exact⟨rfl,rfl⟩
def nF (N:Nat) (w:World) (h1:1<=N) (h2:N<=1048576):
  WA 156 #[N] w λe w'=>∃m,e= .returned (.tuple #[Wz m,Wy])/\∃R,dg m N wo R/\ag [] R w w':=by
 have H1:=a_ (wN N w h1 h2);have H2:=a_ (λW=>wN N W h1 h2);clear h1 h2;go_enter func156,ntmps156
 go_wp2_with (first | (go_at_call 237;refine H1.mono ?_;clear H1;rintro e w1 ⟨bs,rfl,R1,v1,d1⟩;have V1:=a_ v1;have D1:=a_ d1;clear v1 d1) | (go_at_call 237;refine (H2 _).mono ?_;rintro e w2 ⟨be,rfl,R2,v2,d2⟩;have V2:=a_ v2;have D2:=a_ d2;clear v2 d2))
 go_ret2
 have d:=((D1.bh D2).perm (R':=R1++R2) aF).box #[Wz bs,Wz be,Wy] 319;refine⟨_,rfl,_,?_,d⟩;exact⟨bs,be,R1,R2,by rw[wq];rfl,by rw[Ai];exact V1,by rw[ES];exact V2,ET N⟩
def AQ (s n:Nat) (h:dg m N E R) (hR:At R w) (hT:ax w) (hn:1<=n) (hf:s+n<=N) (dm:∀a,E a≠0->a+E a<=s\/s+n<=a):
  WR 252 #[Wz m,s,n] w Wy λw'=>∃R',dg m N (eG E s n) R'/\ag R R' w w':=by
 have hd:=h.ij;have hok:=addE_ok h.ok hn hf dm;have h0:E s=0:=by
  rcases Classical.em (E s=0) with e | e
  ·exact e
  ·have:=dm s e;omega
 have HN:=a_ (fD h hR.1);have HW:=a_ (eJ h hR.1);have HF:=a_ (rT s h hR.1 hT (λa ha=>by
  rcases Classical.em (E a=0) with e | e
  ·omega
  ·have:=dm a e;omega) (by omega))
 have hx:=pz s h hR.1 hT (by omega);have CZ:dV (gL E) s (N-s)<N->s+n<=dV (gL E) s (N-s):=λhlt=>by
  obtain⟨p1,p2,p3,p4⟩:=dM (gL E) (N-s) s;have he:=dR.1 (p4 (by omega));have:=dm _ he;omega
 have vK:=rL (N:=N) hn h0 (by omega);have bu:=qW E N;obtain⟨bs,be,R1,R2,NH,v1,v2,KH⟩:=id h;have hst:cY bs N (bj (gL E) s)=cY bs N (gL (eG E s n)):=by rw[show gL (eG E s n)=bj (gL E) s from funext (AE hn)]
 have Vv:cY be N (bj (Cn E) (s+n-1))=cY be N (Cn (eG E s n)):=by rw[show Cn (eG E s n)=bj (Cn E) (s+n-1) from funext (addE_en hn h0)]
 have d0:=ag.refl hR;subst NH;have q:=hR.1.head;obtain⟨c0,c1, -⟩:=qN q;have a1:=hR.tail.left;have Dl:=a_ (BX s v1 a1 (by omega));have D0:=a_ d0;have Lu:=a_ (λW (hW:At R2 W)=>BX (s+n-1) v2 hW (by omega));obtain⟨HOK,oS,Ri,HC⟩:=qx hok hst Vv vK;have g1:¬(n:Int)<1:=by omega
 have g2:¬(s:Int)<0:=by omega
 have g3:decide (N<=s)=false:=dP;have g4:decide ((N:Int)-s<n)=false:=dP;have g5:(N:Int)<=1048576:=by omega
 have g6:(s:Int)<=1048576:=by omega
 have g7:(n:Int)<=1048576:=by omega
 have g8:(1:Int)<=n:=by omega
 have e1:((s+n-1:Nat):Int)=(s:Int)+n-1:=by omega
 rw[e1] at Lu;have gc:(bQ E N:Int)<=1048576:=by omega
 have NF:=hd.1;have hsN:(s:Int)<N:=by omega
 clear d0 hok hst Vv vK hR a1 q dm hT h v1 v2 KH h0 hd hf e1;unfold Cp at hx;obtain⟨r,z,b,hx,g9⟩:∃(r z:Int) (b:Bool),(WR 249 #[Wz m,s] w (.tuple #[r,z,b]) λw'=>w=w')/\(b=true->decide (r<(s:Int)+n)=false):=by
  by_cases hlt:dV (gL E) s (N-s)<N
  ·rw[b9 hlt] at hx;have hge:=CZ hlt;exact⟨_,_,_,hx,λ_=>dP⟩
  ·rw[b_ hlt] at hx;exact⟨_,_,_,hx,λh=>by cases h⟩
 have HX:=a_ hx;clear hx CZ;generalize bQ E N=c at *
 cases b
 case' true=>have g9:=g9 rfl
 all_goals
  go_enter func252,ntmps252
  go_wp2_with (first | (go_at_call 255;refine HN.kq ?_;rintro w1 rfl) | (go_at_call 238;refine HW.kq ?_;rintro w1 rfl) | (go_at_call 280;refine HF.kq ?_;rintro w1 rfl) | (go_at_call 249;refine HX.kq ?_;rintro w1 rfl))
  refine Dl.mono ?_;clear Dl;rintro e w1 ⟨rfl,Dv,Lc,d1⟩;have D1:=a_ ((D0.perm (R':=R1++((m,.cells #[Wz bs,Wz be,(c:Nat)] 319 (0,0))::R2)) aF).step d1);have V1:=a_ Lc;clear Lc d1 D0 c0 c1;have q:=D1.has.right.head;have c1:=an q 1 _ rfl;clear q
  go_wp2_with (go_at_call 301;refine (Lu _ D1.at_.right.tail).kq ?_;rintro w2 ⟨Ge,Ld,d2⟩;have D2:=a_ ((D1.perm (R':=R2++(Dv++ [(m,.cells #[Wz bs,Wz be,(c:Nat)] 319 (0,0))])) aF).step d2);have V2:=a_ Ld;clear Ld d2;have q:=D2.has.right.right.head;have c2:=an q 2 _ rfl;have f2:=br q 2;clear q)
  go_ret;have D3:=(D2.perm (R':=(m,.cells #[Wz bs,Wz be,(c:Nat)] 319 (0,0))::(Dv++Ge)) aF).set 2 ((c:Int)+1:Int);refine⟨rfl,_,⟨bs,be,Dv,Ge,?_,by rw[←oS.out];exact V1,by rw[←Ri.out];exact V2,HOK⟩,D3⟩;rw[HC.out];rfl
end
def yS {f:Nat->Bool} {N:Nat} (h:∀x,N<=x->f x=false):∀x,(λ_=>false:Nat->Bool) x=iH f (0:Nat) (min N N:Nat) x:=λx=>by
 unfold iH;by_cases hx:x<N
 ·rw[show decide (((0:Nat):Int)<=(x:Int))=true from kr,show decide ((x:Int)<((min N N:Nat):Int))=true from kr];simp
 ·rw[h x (by omega)];rfl
section
variable {m N:Nat} {E:Nat->Nat} {R K:BL} {w w':World}
def enone_c {bs:Nat} (c0:w.cell? ⟨m,0,none⟩=some (.pointer (some ⟨bs,0,none⟩))):WR 255 #[Wz m] w false λw'=>w=w':=by
 go_enter func255,ntmps255;go_wp2;go_ret;exact⟨rfl,rfl⟩
def ewords_c {bs:Nat} {f:Nat->Bool} {R1:BL} (c0:w.cell? ⟨m,0,none⟩=some (.pointer (some ⟨bs,0,none⟩))) (v1:cY bs N f R1) (h1:Has R1 w):WR 238 #[Wz m] w N λw'=>w=w':=by
 have HN:=a_ (enone_c c0);have HL:=a_ (oF v1 h1);clear v1 h1;go_enter func238,ntmps238
 go_wp2_with (first | (go_at_call 255;refine HN.kq ?_;rintro w1 rfl) | (go_at_call 284;refine HL.kq ?_;rintro w1 rfl))
 go_ret;exact⟨rfl,rfl⟩
def ewipe_any (h:dg m N E R) (hR:At R w):
  WR 240 #[Wz m] w (.tuple #[]) λw'=>∃R',dg m N wo R'/\ag R R' w w':=by
 have hd:=h.ij;have hok:=h.ok;have HN:=a_ (fD h hR.1);have HW:=a_ (λW (hW:Has R W)=>Calls.iD (eJ h hW));obtain⟨bs,be,R1,R2,NH,v1,v2,KH⟩:=id h;have D0:=a_ (ag.refl hR);have H1:=a_ (λW (hW:At R1 W)=>vk 0 N (Nat.zero_le _) (by omega) v1 hW);have H2:=a_ (λW (hW:At R2 W)=>vk 0 N (Nat.zero_le _) (by omega) v2 hW);subst NH;have q:=hR.1.head;have c0:w.drew.cell? ⟨m,0,none⟩=some (.pointer (some ⟨bs,0,none⟩)):=an q 0 _ rfl;have Dl:=a_ (yS hok.st_out);have Fx:=a_ (yS hok.en_out);have HE:=a_ (λ(Dv Ge:BL) (Lc:cY bs N (λ_=>false) Dv) (Ld:cY be N (λ_=>false) Ge)=>(show dg m N wo ((m,.cells #[Wz bs,Wz be,Wy] 319 (0,0))::(Dv++Ge)) from⟨bs,be,Dv,Ge,by rw[wq];rfl,by rw[Ai];exact Lc,by rw[ES];exact Ld,ET N⟩));generalize bQ E N=c at *;clear h hR hok KH v1 v2 hd q;go_enter func240,ntmps240
 go_wp2_with (go_at_call 255;refine HN.kq ?_;rintro w1 rfl)
 refine wp_region_still_tail 6 (by kernel_rfl) (by kernel_rfl) ?_;simp only[List.take_succ_cons,List.take_zero,List.drop_succ_cons,List.drop_zero];have D1:=a_ (D0.grow (ay w));unfold World.drew at D1 c0;have D0w:=D0;generalize ({w with drawn:=w.drawn+1}:World)=W1 at *
 repeat still_step
 still_call (HW _ D1.has)
 refine wpStill_nil ?_
 go_wp2_with (go_at_call 285;refine (H1 _ (D1.at_.tail.left)).mono ?_;clear H1;rintro e w2 ⟨z,rfl,Dv,Lc,d1⟩;have V1:=a_ (Lc.same Dl);have D2:=a_ ((D1.perm (R':=R1++((m,.cells #[Wz bs,Wz be,(c:Nat)] 319 (0,0))::R2)) aF).step d1);clear Lc d1)
 refine wp_region_still_tail 6 (by kernel_rfl) (by kernel_rfl) ?_;simp only[List.take_succ_cons,List.take_zero,List.drop_succ_cons,List.drop_zero];have D3:=a_ (D2.grow (ay w2));unfold World.drew at D3;clear c0;generalize ({w2 with drawn:=w2.drawn+1}:World)=W3 at *;have q:=D3.has.right.head;obtain⟨c0,c1, -⟩:=qN q;clear q
 repeat still_step
 still_call (Calls.iD (ewords_c c0 V1 D3.has.left))
 refine wpStill_nil ?_
 go_wp2_with (go_at_call 285;refine (H2 _ (D3.at_.right.tail)).mono ?_;clear H2;rintro e w4 ⟨z2,rfl,Ge,Ld,d2⟩;have V2:=a_ (Ld.same Fx);have D4:=a_ ((D3.perm (R':=R2++((m,.cells #[Wz bs,Wz be,(c:Nat)] 319 (0,0))::Dv)) aF).step d2);clear Ld d2;have q:=D4.has.right.head;have c2:=an q 2 _ rfl;have f2:=br q 2;clear q)
 go_end0
 have D5:=(D4.perm (R':=(m,.cells #[Wz bs,Wz be,(c:Nat)] 319 (0,0))::(Dv++Ge)) aF).set 2 Wy;exact⟨rfl,_,HE Dv Ge V1 V2,D5⟩
def elive_zero (a:Nat) (h:dg m N E R) (hR:Has R w) (hT:ax w) (ha:a<=N) (he:∀s,E s≠0->s+E s<=a):
  WR 250 #[Wz m,a,N] w Wy λw'=>w=w':=by
 have hd:=h.ij;have HN:=a_ (fD h hR);have HW:=a_ (eJ h hR);have HF:=a_ (rT a h hR hT (λs hs=>by
  rcases Classical.em (E s=0) with e | e
  ·omega
  ·exact he s e) (by omega))
 have hx:=pz a h hR hT (by omega);have hnone:¬dV (gL E) a (N-a)<N:=λhlt=>by
  obtain⟨p1,p2,p3,p4⟩:=dM (gL E) (N-a) a;have hs:=dR.1 (p4 (by omega));have:=he _ hs;omega
 unfold Cp at hx;rw[b_ hnone] at hx;have HX:=a_ hx;have g1:max (a:Int) 0=a:=by omega
 have g2:min (N:Int) N=N:=by omega
 clear h hR hT hx hnone he;go_enter func250,ntmps250
 go_wp2_with (first | (go_at_call 255;refine HN.kq ?_;rintro w1 rfl) | (go_at_call 238;refine HW.kq ?_;rintro w1 rfl) | (go_at_call 280;refine HF.kq ?_;rintro w1 rfl) | (go_at_call 249;refine HX.kq ?_;rintro w1 rfl))
 go_loop [7,13] (λnv bv=>nv= .int .i64 0/\bv= .bool false) (λ_ _=>0)
 case atStart=>exact⟨rfl,rfl⟩
 case round=>
  obtain⟨rfl,rfl⟩:=hrel;go_wp2;go_ret;exact⟨rfl,rfl⟩
end
def iq (z:Nat):Prop:=∃k,k<=10/\z=2^k
def iq.le {z:Nat} (h:iq z):1<=z/\z<=1024:=by
 obtain⟨k,hk,rfl⟩:=h;have h1:=Nat.two_pow_pos k;have h2:2^k<=2^10:=Nat.pow_le_pow_right (by omega) hk;omega
def power_blk {z:Nat} (h:iq z) (w:World):WR 263 #[z] w true λw'=>w=w':=by
 have hz:=h.le;obtain⟨k,hk,rfl⟩:=h;have:=gj ((2^k:Nat):Int) (by omega) w;rw[sX k (by omega)] at this;exact this
def gY (n z:Nat):Nat:=(n+z-1)/z
def JV (f:Nat->Bool) (z k:Nat):List Int:=(List.range k).map λi=>((aG f (i*z):Nat):Int)
def ahL_snoc (f:Nat->Bool) (z k:Nat):JV f z (k+1)=JV f z k++ [((aG f (k*z):Nat):Int)]:=by simp[JV,List.range_succ]
def uG (l:List Int) (v:Int):mJ (l++ [v])=mJ l++ [.int .i64 v]:=by simp[mJ]
def vA (f:Nat->Bool) (z k i:Nat) (hi:i<k):(mJ (JV f z k))[i]?=some (.int .i64 (aG f (i*z):Nat)):=by
 simp[mJ,JV,hi]
def zI (b n z:Nat) (f:Nat->Bool) (R:BL):Prop:=
 ∃vb Rv al cap Ra,R=(b,.cells #[Wz vb,.slice al (gY n z) cap,z,(aG f n:Nat)] 396 (0,0))::(Rv++Ra)/\cY vb n f Rv/\
  Rz 3 1 (gY n z) (mJ (JV f z (gY n z))) al cap Ra/\iq z
def min_run (f:Nat->Bool) (n i z:Nat) (hi:i*z<n):aG f (i*z)+aG (lX f (i*z:Nat) (min (i*z+z) n:Nat)) n=aG f (min ((i+1)*z) n):=by
 rw[AN f _ _ _ (by omega) (Nat.min_le_right _ _),show (i+1)*z=i*z+z from Nat.succ_mul i z];have:=cT f (show i*z<=min (i*z+z) n by omega);omega
def fU {n z i:Nat} (hz:1<=z):i<gY n z↔i*z<n:=by
 unfold gY;rw[Nat.lt_iff_add_one_le,Nat.le_div_iff_mul_le (by omega),Nat.add_mul,Nat.one_mul];omega
section
variable {b n z:Nat} {f:Nat->Bool} {R K:BL} {w w':World}
def rank_new {v:Nat} {Rv:BL} (h:cY v n f Rv) (hR:At Rv w) (hz:iq z):
  WA 300 #[Wz v,z] w λe w'=>∃b,e= .returned (.tuple #[Wz b,Wy])/\∃R,zI b n z f R/\ag [] R w w':=by
 have hd:=h.ij;have vS:=hz.le;have HL:=a_ (λW (hW:At Rv W)=>oF (w:=W) h hW.1);have HC:=a_ (vcopy_any h hR.1);have HP:=a_ (power_blk hz w);obtain⟨HR,HV,HZ⟩:=dF hR h hz;have g1:((n:Int)==0)=false:=by simp;omega
 have g2:(z:Int)<=1024:=by omega
 have g3:(1:Int)<=z:=by omega
 have g4:(n:Int)<=1048576:=by omega
 have g5:decide ((1024:Int)<z)=false:=dP;clear h hR hz;go_enter func300,ntmps300
 go_wp2_with (first | (go_at_call 284;refine (HL _ HR).kq ?_;rintro w1 rfl) | (go_at_call 263;refine HP.kq ?_;rintro w1 rfl) | (go_at_call 329;refine HC.mono ?_;rintro e w1 ⟨vb,rfl,R1,v1,d1⟩;have V1:=a_ v1;have D1:=a_ d1;clear v1 d1))
 have D2:=a_ (D1.box #[Wz vb,.slice none 0 0,z,Wy] 396);obtain⟨xb,Md⟩:∃xb,w1.heap.size=xb:=⟨_,rfl⟩
 rw[Md] at D2;simp only[Md];generalize w1.alloc (.cells #[Wz vb,.slice none 0 0,z,Wy] 396)=w2 at *;clear HP HC D1 Md
 go_loopw [7] (λfv wr=>∃(k:Nat) (al:Option Addr) (cap:Nat) (Ra:BL),fv= .int .i64 (k*z:Nat)/\k<=gY n z/\Rz 3 1 k (mJ (JV f z k)) al cap Ra/\ag [] ((xb,.cells #[Wz vb,.slice al k cap,z,(aG f (min (k*z) n):Nat)] 396 (0,0))::(R1++Ra)) w wr) (λfv _=>n+z-(intOf fv).toNat)
 case atStart=>
  refine⟨0,none,0,[],by simp,Nat.zero_le _,Rw.nil _ _ _,?_⟩;have:=D2.out;rw[List.append_nil,Nat.zero_mul,Nat.zero_min];exact this
 case round=>
  clear D2;obtain⟨k,al,cap,Ra,rfl,hk,hr,hD⟩:=hrel;obtain⟨HD,Hr⟩:=aO hD hr;have Sz:At Rv wr:=HR.grow hD.below;have TL:=a_ (HL wr Sz);have q:=hD.has.head;have c1:wr.cell? ⟨xb,1,none⟩=some (.slice al k cap):=an q 1 _ rfl;have c3:wr.cell? ⟨xb,3,none⟩=some (.int .i64 (aG f (min (k*z) n):Nat)):=an q 3 _ rfl;have HRw:=a_ Sz;have hmr:=λh=>min_run f n k z h
  have Ky:(k+1)*z=k*z+z:=Nat.succ_mul k z;have tL:=@fU n z k (by omega);have hkp:k<=k*z:=Nat.le_mul_of_pos_right k (by omega);have kP:¬k*z<n->min (k*z) n=n:=λh=>by omega
  have Lu:=a_ (λW (hW:At Rv W) (hle:k*z<=n)=>tA (w:=W) (k*z) (k*z+z) hle (by omega) HV hW);have Hs:=a_ (ahL_snoc f z k);rw[Ky] at hmr;have Ey:k*z<n->min (k*z) n=k*z:=λh=>by omega
  have Ux:=a_ Ky;clear hD hr q Sz Ky;generalize hp:k*z=p at *;by_cases hlt:p<n
  ·have hmr:=hmr hlt;have uC:=Ey hlt;rw[uC] at c3 HD;generalize ks:aG f p=c0 at *;have ks:=a_ ks;have Um:=a_ (λW hW=>Lu W hW (by omega));rw[show ((p+z:Nat):Int)=(p:Int)+z from by omega] at Um;generalize hc1:aG (lX f (p:Nat) (min (p+z) n:Nat)) n=cc at *;have bu:c0<=n/\cc<=n:=⟨by rw[←ks.out];have:=bE f p;omega,by rw[←hc1];exact bE _ _⟩
   have vN:k<=1048576:=by omega
   obtain⟨Hmr,Hhp⟩:=aO hmr hp;have Hkb:=a_ (tL.2 hlt);have s1:(p:Int)<=1048576:=by omega
   have s2:(c0:Int)<=1048576:=by omega
   have s3:(cc:Int)<=1048576:=by omega
   clear hmr uC kP Ey Lu tL hp hc1
   go_wp2_with (go_at_call 284;refine TL.kq ?_;rintro w1 rfl)
   obtain⟨j1,hj,sB,oQ,sC⟩:=info_parts fP;have qU:=a_ (HD.drew);refine aP (S:=λW=>W.cell? ⟨xb,1,none⟩=some (.slice al k cap)/\W.cell? ⟨xb,3,none⟩=some (.int .i64 c0)) (by kernel_rfl) ⟨c1,c3⟩ (λhHeld=>?_);generalize wr.drew=W1 at *;refine aR 0 ?_;refine aR 1 ?_;refine aR 2 ?_;refine aR 3 ?_;refine aR 4 ?_;refine aR 5 ?_;refine aR 6 ?_;refine aR 7 ?_;refine aR 8 ?_;simp only[aI];have HB:=a_ (qU.box #[c0] 3);obtain⟨wU,eO,w5,AA,hrun,kz,hN⟩:=Hr.LD (K:=(xb,.cells #[Wz vb,.slice al k cap,z,c0] 396 (0,0))::R1) (qU.perm (R':=Ra++((xb,.cells #[Wz vb,.slice al k cap,z,c0] 396 (0,0))::R1)) aF) hj sB oQ sC rfl (by decide) underlying58 #[.int .i64 c0] rfl (by intro u hu;simp only[List.mem_cons,List.not_mem_nil,or_false] at hu;rw[hu];rfl) (by unfold maxLen;omega) (by omega);obtain⟨et,Az,HN⟩:=dF hrun kz hN;clear hrun kz hN;refine jS 9 (λK hK=>?_);go_simp;refine hK _ _ (by have q:=HB.has.tail.head;exact⟨an q 1 _ rfl,an q 3 _ rfl⟩) (λhHeld=>?_);clear hK K
   try simp only[aI]
   refine jS 10 (λK hK=>?_);refine km _ (by rfl) (.tmp 40) (.tmp 45) 58 58 _ (by rfl) (by rfl) _ _ (by rfl) (by rfl) _ w5 et ?_;refine hK _ _ (by have q:=HN.has.right.head;exact⟨an q 1 _ rfl,an q 3 _ rfl⟩) (λhHeld=>?_);clear hK K
   try simp only[aI]
   refine aR 11 ?_;refine aR 12 ?_;simp only[aI];have q5:=HN.has.right.head;have b1:=an q5 1 _ rfl;have f1:=br q5 1;clear q5;refine sD 13 (λK hK=>?_);go_simp;refine hK _ _ ?_;clear hK K
   try simp only[aI]
   have Ju:=a_ ((HN.perm (R':=(xb,.cells #[Wz vb,.slice al k cap,z,c0] 396 (0,0))::(R1++AA)) aF).set 1 (.slice wU (k+1) eO));clear b1 f1 HN et hHeld qU HB c1 c3 HD;generalize w5.setCell ⟨xb,1,none⟩ (.slice wU (k+1) eO)=w6 at *;have q:=Ju.has.head;have c3:w6.cell? ⟨xb,3,none⟩=some (.int .i64 c0):=an q 3 _ rfl;clear q;have JC:=a_ (HR.grow Ju.below);have s4:=eH ((c0:Int)+cc);have s5:=eH ((p:Int)+z)
   go_wp2_with (fail)
   have Rb:=a_ (Ju.drew);replace JC:=a_ (JC.grow (ay _));refine aP (S:=λW=>W.cell? ⟨xb,3,none⟩=some (.int .i64 c0)) (by kernel_rfl) c3 (λhHeld=>?_);generalize w6.drew=W1 at *;refine aR 0 ?_;refine aR 1 ?_;refine aR 2 ?_;refine aR 3 ?_;refine aR 4 ?_;refine aR 5 ?_;refine aR 6 ?_;refine aR 7 ?_;refine aR 8 ?_;simp only[aI];refine jS 9 (λK hK=>?_);go_simp
   go_at_call 330
   (with_reducible refine (Um.out _ JC.out).mono ?_)
   rintro e w7 ⟨rfl,hb⟩;have GY:=a_ (Rb.grow hb);clear hb;refine hK _ _ (an GY.has.head 3 _ rfl) (λhHeld=>?_);clear hK K
   try simp only[aI]
   have q5:=GY.has.head;have b3:=an q5 3 _ rfl;have f3:=br q5 3;clear q5;refine aR 10 ?_;refine aR 11 ?_;refine aR 12 ?_;simp only[aI];refine sD 13 (λK hK=>?_);go_simp;refine hK _ _ ?_;clear hK K
   try simp only[aI]
   have Pv:=a_ (GY.set 3 ((c0:Int)+cc:Int));clear b3 f3 hHeld GY s4
   go_wp2_with (fail)
   go_roundw
   case rel=>
    refine⟨k+1,wU,eO,AA,?_,Hkb,by have:=Az.out;rw[Hs.out,uG];exact this,?_⟩
    ·rw[Ux.out]
     go_num
    ·have:=Pv.out;rw[Ux.out,←Hmr.out];exact this
   case measure=>simp[intOf];omega
  ·have uC:=kP hlt;rw[uC] at HD;have wZ:k=gY n z:=by
    have:=tL.1;rcases Nat.lt_or_ge k (gY n z) with a | a
    ·exact absurd (this a) hlt
    ·omega
   subst wZ;clear hmr uC kP Ey Lu tL hp c1 c3
   go_wp2_with (go_at_call 284;refine TL.kq ?_;rintro w1 rfl)
   go_ret2
   exact⟨_,rfl,_,⟨vb,R1,al,cap,Ra,rfl,V1,Hr,HZ⟩,HD⟩
def rones_any (h:zI b n z f R) (hR:Has R w):WR 302 #[Wz b] w (aG f n:Nat) λw'=>w=w':=by
 obtain⟨vb,Rv,al,cap,Ra,rfl,hv,hr,hz⟩:=h;have c3:=an hR.head 3 _ rfl;clear hv hr hz hR;go_enter func302,ntmps302;go_wp2;go_ret;exact⟨rfl,rfl⟩
end
def search_any (p:Nat->Bool) (n:Nat) (St:World->Prop) (F:FuncId) (caps:Array Value) (hF:∀args w,(callFunc F args).run prog w= .ok (.enter F args) w) (hp:∀a b,a<=b->p a=true->p b=true) (hn:n<=1048576)
  (hs:∀i W,i<n->St W->Calls prog F (#[.int .i64 i]++caps) W λe W'=>e= .returned (.bool (p i))/\St W') (w:World) (h:St w):
  WR 140 #[n,.func (.func F) #[] caps] w (dV p 0 n:Int) λw'=>St w':=by
 obtain⟨HS,HP,H⟩:=dF hs hp h;clear hs hp h;go_enter func140,ntmps140;go_wp2
 go_loopw [5,6] (λiv jv wr=>∃i j:Nat,iv= .int .i64 i/\jv= .int .i64 j/\i<=j/\j<=n/\(∀x,x<i->p x=false)/\(j<n->p j=true)/\St wr) (λiv jv _=>(intOf jv).toNat-(intOf iv).toNat)
 case atStart=>exact⟨0,n,rfl,rfl,Nat.zero_le _,Nat.le_refl _,λx hx=>by omega,λh=>by omega,H⟩
 case round=>
  obtain⟨i,j,rfl,rfl,hij,hj,h1,h2,Vk⟩:=hrel;obtain⟨H1,H2,Ug⟩:=dF h1 h2 Vk;clear h1 h2 Vk H;by_cases hlt:i<j
  ·have hm:(i+j)/2<j/\i<=(i+j)/2:=by omega
   have HC:=a_ (HS ((i+j)/2) wr (by omega) Ug);have e1:((i:Int)+j)/2=(((i+j)/2:Nat):Int):=by omega
   generalize (i+j)/2=m at *;obtain⟨q,hq⟩:∃q,p m=q:=⟨_,rfl⟩
   rw[hq] at HC;have HQ:=a_ hq;have b1:(i:Int)<=1048576:=by omega
   have b2:(j:Int)<=1048576:=by omega
   clear hq
   cases q
   ·go_wp2_with (refine HC.kq ?_;rintro w5 h5;have H5:=a_ h5;clear h5)
    go_roundw
    case rel=>exact⟨m+1,j,by go_num,rfl,by omega,hj,(λx hx=>by
     cases jl:p x
     ·rfl
     ·have:=HP x m (by omega) jl;rw[HQ.out] at this
      cases this),H2,H5⟩
    case measure=>simp[intOf];omega
   ·go_wp2_with (refine HC.kq ?_;rintro w5 h5;have H5:=a_ h5;clear h5)
    go_roundw
    case rel=>exact⟨i,m,rfl,rfl,hm.2,by omega,H1,λ_=>HQ,H5⟩
    case measure=>simp[intOf];omega
  ·obtain rfl:i=j:=by omega
   go_wp2;go_ret;refine⟨congrArg (λ(q:Nat)=>Ending.returned (.int .i64 q)) ?_,Ug.out⟩;refine (jR p n 0 i (Nat.zero_le _) (by omega) (λx _ hx=>H1 x hx) ?_).symm;rcases Nat.lt_or_ge i n with a | a
   ·exact .inr (H2 a)
   ·exact .inl (by omega)
def qR (f:Nat->Bool) (n k:Nat):Nat:=dV (λx=>decide (k<aG f (x+1))) 0 n
section
variable {b n z:Nat} {f:Nat->Bool} {R K:BL} {w w':World}
def Rw.cellAt {R:BL} {al:Option Addr} {cap k:Nat} {xs:List Value} {ty:TypeId} {sz:Nat} (r:Rz ty sz k xs al cap R) (hk:0<k*sz):∃rb,al=some ⟨rb,0,none⟩/\k<=cap/\∀(w:World) j v,Has R w->xs[j]?=some v->w.cell? ⟨rb,j,none⟩=some v:=by
 rcases r with⟨rfl,rfl,rfl,rfl,rfl⟩ | ⟨rb,cur,rfl,h2,h3,h4,h5,h6,h7,rfl⟩
 ·simp at hk
 ·refine⟨rb,rfl,h3,λw j v hR hj=>an hR.head j v ?_⟩;have hlt:j<k*sz:=by
   rw[←h7];exact (List.getElem?_eq_some_iff.1 hj).1
  rw[←h6,List.getElem?_take_of_lt hlt] at hj
  simpa using hj
def before_any (i:Nat) (h:zI b n z f R) (hR:At R w) (hi:i<=2097152):
  WR 308 #[Wz b,i] w (aG f (min i n):Nat) λw'=>Below w.heap.size w w':=by
 obtain⟨vb,Rv,al,cap,Ra,CT,hv,hr,hz⟩:=id h;have hd:=hv.ij;have vS:=hz.le;subst CT;have q:=hR.1.head;obtain⟨c0,c1,c2,c3, -⟩:=jD q;rcases Nat.eq_zero_or_pos i with rfl | hpos
 ·rw[Nat.zero_min,show aG f 0=0 from rfl];clear h hv hr hz hR q;go_enter func308,ntmps308;go_wp2;go_ret;exact⟨rfl,Below.refl _ _⟩
 ·have HL:=a_ (oF (w:=w) hv hR.tail.left.1);have gp:decide ((i:Int)<=0)=false:=dP;have gp2:(0:Int)<i:=by omega
  by_cases hlt:n<=i
  ·rw[Nat.min_eq_right hlt];have g1:decide (n<=i)=true:=decide_eq_true hlt;clear h hv hr hz hR q;go_enter func308,ntmps308
   go_wp2_with (go_at_call 284;refine HL.kq ?_;rintro w1 rfl)
   go_ret;exact⟨rfl,Below.refl _ _⟩
  ·have g1:decide (n<=i)=false:=decide_eq_false hlt;have Gs:=Nat.div_add_mod i z;have hml:=Nat.mod_lt i (show 0<z by omega);have Qs:i/z*z<=i:=Nat.div_mul_le_self i z;have qz:i/z<gY n z:=(fU (by omega)).2 (by omega);have kP:min i n=i:=by omega
   have Vs:=AN f (i/z*z) i n Qs (by omega);have IN:=cT f Qs;have hV:=tA (w:=w.drew) (i/z*z) i (by omega) hi hv (hR.tail.left.grow (ay w));rw[kP,Vs] at hV;rw[kP];obtain⟨rb,ha,LU,hcell⟩:=hr.cellAt (by rw[Nat.mul_one];exact Nat.lt_of_le_of_lt (Nat.zero_le _) qz);have r0:=hcell w.drew (i/z) _ (hR.1.tail.right.grow (ay w)) (vA f z (gY n z) (i/z) qz);subst ha;have e1:(i:Int)/z=((i/z:Nat):Int):=rfl;obtain⟨m0,zZ⟩:∃m0,i/z*z=m0:=⟨_,rfl⟩
   have e2:(m0:Int)=((i/z:Nat):Int)*z:=by rw[←zZ];simp
   rw[zZ] at hV Qs IN;rw[e2] at hV;have s1:=eH (((i/z:Nat):Int)*z) (by rw[←e2];omega);rw[zZ] at r0;have bu:=bE f i;have KM:i/z<=1048576:=by have:=Nat.div_le_self i z;omega
   have s2:IntKind.i64.wrap (((aG f m0:Nat):Int)+((aG f i-aG f m0:Nat):Int))=((aG f i:Nat):Int):=by rw[IntWalk.i64_in _ (by omega)];omega
   generalize aG f i-aG f m0=cc at *;generalize aG f m0=c at *;generalize aG f i=res at *;generalize i/z=q0 at *;generalize gY n z=m at *;obtain⟨HV,S2⟩:=aO hV s2;have z0:¬(z:Int)=0:=by omega
   have z1:(1:Int)<=z:=by omega
   have z2:(z:Int)<=1024:=by omega
   have q1:(q0:Int)<=1048576:=by omega
   clear h hv hr hz hR q hV s2 e2 zZ Vs IN hcell Gs hml Qs kP bu;go_enter func308,ntmps308
   go_wp2_with (go_at_call 284;refine HL.kq ?_;rintro w1 rfl)
   have Sc:w.drew.cell? ⟨b,0,none⟩=some (.pointer (some ⟨vb,0,none⟩)):=c0;have LG:w.drew.cell? ⟨b,1,none⟩=some (.slice (some ⟨rb,0,none⟩) m cap):=c1;have Sd:w.drew.cell? ⟨b,2,none⟩=some (.int .i64 z):=c2;refine aP (S:=λW=>W.cell? ⟨b,0,none⟩=some (.pointer (some ⟨vb,0,none⟩))/\W.cell? ⟨b,1,none⟩=some (.slice (some ⟨rb,0,none⟩) m cap)/\W.cell? ⟨b,2,none⟩=some (.int .i64 z)/\W.cell? ⟨rb,q0,none⟩=some (.int .i64 c)) (by kernel_rfl) ⟨Sc,LG,Sd,r0⟩ (λhHeld=>?_);have HB:=a_ (ay w);clear c0 c1 c2;generalize w.drew=W1 at *;refine aR 0 ?_;refine aR 1 ?_;refine aR 2 ?_;refine aR 3 ?_;refine aR 4 ?_;refine aR 5 ?_;refine aR 6 ?_;refine aR 7 ?_;refine aR 8 ?_;refine aR 9 ?_;refine aR 10 ?_;refine aR 11 ?_;refine aR 12 ?_;refine aR 13 ?_;refine aR 14 ?_;refine aR 15 ?_;refine aR 16 ?_;refine aR 17 ?_;simp only[aI];refine jS 18 (λK hK=>?_);go_simp
   go_at_call 330
   (with_reducible refine HV.out.mono ?_)
   rintro e w7 ⟨rfl,hb⟩;have HB7:=a_ (seq HB hb);refine hK _ _ ⟨bA hb (Nat.le_refl _) Sc,bA hb (Nat.le_refl _) LG,bA hb (Nat.le_refl _) Sd,bA hb (Nat.le_refl _) r0⟩ (λhHeld=>?_);clear hK K
   try simp only[aI]
   refine aR 19 ?_;simp only[aI];refine sD 20 (λK hK=>?_);go_simp;refine hK _ _ ?_;clear hK K
   try simp only[aI]
   go_wp2;go_ret;refine⟨congrArg (λq=>Ending.returned (.int .i64 q)) ?_,HB7.out⟩;exact S2
end
def fM (n:Nat) (w:World):Below w.heap.size w (w.drewN n):=⟨rfl,rfl,rfl,Nat.le_refl _,λ_ _=>rfl⟩
def bM (f:Nat->Bool) (x:Nat):aG f (x+1)=aG f x+if f x then 1 else 0:=rfl
def pk_eq {f:Nat->Bool} {n k x:Nat} (hx:f x=true) (hc:aG f x=k) (hn:x<n):qR f n k=x:=by
 unfold qR;refine jR _ _ _ _ (Nat.zero_le _) (by omega) (λj _ hj=>decide_eq_false ?_) (.inr (decide_eq_true ?_))
 ·have:=cT f (show j+1<=x by omega);omega
 ·rw[bM,hx,hc];simp
def rq {f:Nat->Bool} {n k:Nat} (h:k<aG f n):qR f n k<n/\f (qR f n k)=true/\aG f (qR f n k)=k:=by
 obtain⟨p1,p2,p3,p4⟩:=dM (λx=>decide (k<aG f (x+1))) n 0;rw[show dV (λx=>decide (k<aG f (x+1))) 0 n=qR f n k from rfl] at *;have hn:0<n:=by
  rcases Nat.eq_zero_or_pos n with rfl | a
  ·rw[show aG f 0=0 from rfl] at h;omega
  ·exact a
 have hlt:qR f n k<n:=by
  rcases Nat.lt_or_ge (qR f n k) n with a | a
  ·exact a
  ·have:=p3 (n-1) (Nat.zero_le _) (by omega);have:=of_decide_eq_false this;rw[show n-1+1=n by omega] at this;omega
 have h4:=of_decide_eq_true (p4 (by omega));have hle:aG f (qR f n k)<=k:=by
  rcases Nat.eq_zero_or_pos (qR f n k) with e | e
  ·rw[e,show aG f 0=0 from rfl];exact Nat.zero_le _
  ·have:=of_decide_eq_false (p3 (qR f n k-1) (Nat.zero_le _) (by omega));rw[show qR f n k-1+1=qR f n k by omega] at this;omega
 rw[bM] at h4
 cases hf:f (qR f n k)
 ·rw[hf] at h4;simp at h4;omega
 ·rw[hf] at h4;simp at h4;exact⟨hlt,rfl,by omega⟩
def By {f:Nat->Bool} {n a:Nat} (ha:a<=n) (h:aG f a<aG f n):dV f a (n-a)<n/\f (dV f a (n-a))=true/\aG f (dV f a (n-a))=aG f a:=by
 obtain⟨p1,p2,p3,p4⟩:=dM f (n-a) a;have yg:∀j,a<=j->j<=dV f a (n-a)->aG f j=aG f a:=λj h1 h2=>by
  obtain⟨c,rfl⟩:=Nat.exists_eq_add_of_le h1;rw[fN,dD (f:=λi=>f (a+i)) λi hi=>p3 _ (by omega) (by omega)];rfl
 have hlt:dV f a (n-a)<n:=by
  rcases Nat.lt_or_ge (dV f a (n-a)) n with q | q
  ·exact q
  ·have:=yg n ha (by omega);omega
 exact⟨hlt,p4 (by omega),yg _ p1 (Nat.le_refl _)⟩
def wj {n z:Nat} (hz:1<=z):gY n z<=n:=by
 rcases Nat.lt_or_ge n (gY n z) with h | h
 ·have h1:=(fU hz).1 h;have:=Nat.le_mul_of_pos_right n (show 0<z by omega);omega
 ·exact h
section
variable {b n z Bx Bk k:Nat} {f:Nat->Bool} {R K:BL} {w w':World}
def enter_pick (args:Array Value) (w:World):(callFunc 343 args).run prog w= .ok (.enter 343 args) w:=by kernel_rfl
def pick1_any (i:Nat) (h:zI b n z f R) (hR:Has R w) (hx:w.cell? ⟨Bx,0,none⟩=some (.pointer (some ⟨b,0,none⟩))) (hk:w.cell? ⟨Bk,0,none⟩=some (.int .i64 k)) (hi:i<gY n z) (hn:0<gY n z) (hm:gY n z<=2097152):
  WR 343 #[i,Wz Bx,Wz Bk] w (.bool (decide (k<aG f (i*z)))) λw'=>Below w.heap.size w w':=by
 obtain⟨vb,Rv,al,cap,Ra,CT,hv,hr,hz⟩:=id h;obtain⟨rb,ha,LU,hcell⟩:=hr.cellAt (by omega);subst CT;subst ha;have q:=hR.head;have c1:=an q 1 _ rfl;have r0:=hcell w i _ hR.tail.right (vA f z (gY n z) i hi);have hb:=ay w;generalize aG f (i*z)=c at *;generalize gY n z=m at *;have hI:(i:Int)<m:=by omega
 have Gk:(0:Int)<=i:=by omega
 have hI3:((i:Int)).toNat=i:=by omega
 clear h hv hr hz hR q hcell;go_enter func343,ntmps343;go_wp2
 go_quiet (fail)
 go_wp2;go_ret;exact⟨rfl,fM _ w⟩
def pick_any (h:zI b n z f R) (hR:Has R w) (hT:ax w) (hk:k<aG f n):
  WR 341 #[Wz b,k] w (.tuple #[(qR f n k:Nat),true]) λw'=>Below w.heap.size w w':=by
 obtain⟨vb,Rv,al,cap,Ra,CT,hv,hr,hz⟩:=id h;have hd:=hv.ij;have vS:=hz.le;have bu:=bE f n;have hnb:0<gY n z:=(fU (by omega)).2 (by omega);have VI:gY n z<=2097152:=by unfold gY;have:=Nat.div_le_self (n+z-1) z;omega
 obtain⟨rb,ha,LU,hcell⟩:=hr.cellAt (by omega);obtain⟨w2,hw2⟩:∃w2,(w.alloc (.cells #[Wz b] 372)).alloc (.cells #[k] 3)=w2:=⟨_,rfl⟩
 have nJ:Below w.heap.size w w2:=by rw[←hw2];exact seq (au w _) (au _ _)
 have jl:w2.cell? ⟨w.heap.size,0,none⟩=some (.pointer (some ⟨b,0,none⟩)):=by
  rw[←hw2];exact bA (au _ _) (Nat.le_refl _) (an (heap_alloc_new w _) 0 _ rfl)
 have wZ:w2.cell? ⟨w.heap.size+1,0,none⟩=some (.int .i64 k):=by
  rw[←hw2];have:=heap_alloc_new (w.alloc (.cells #[Wz b] 372)) (.cells #[k] 3);rw[World.size_alloc] at this;exact an this 0 _ rfl
 obtain⟨r,tO⟩:∃r,dV (λi=>decide (k<aG f (i*z))) 0 (gY n z)=r:=⟨_,rfl⟩
 have hsp:=dM (λi=>decide (k<aG f (i*z))) (gY n z) 0;rw[tO] at hsp;obtain⟨p1,p2,p3,p4⟩:=hsp;have Bo:1<=r:=by
  rcases Nat.eq_zero_or_pos r with e | e
  ·rw[e] at p4;have:=of_decide_eq_true (p4 (by omega));rw[Nat.zero_mul,show aG f 0=0 from rfl] at this;omega
  ·exact e
 obtain⟨q,rfl⟩:∃q,r=q+1:=⟨r-1,by omega⟩
 have hq:=of_decide_eq_false (p3 q (Nat.zero_le _) (by omega));have qz:q*z<n:=(fU (by omega)).1 (by omega);obtain⟨x1,x2,x3⟩:=By (f:=f) (n:=n) (a:=q*z) (by omega) (by omega);have HS:=a_ (search_any (λi=>decide (k<aG f (i*z))) (gY n z) (λW=>Below w2.heap.size w2 W) 343 #[.pointer (some ⟨w.heap.size,0,none⟩),.pointer (some ⟨w.heap.size+1,0,none⟩)] enter_pick (λa c hac hpa=>decide_eq_true (Nat.lt_of_lt_of_le (of_decide_eq_true hpa) (cT f (Nat.mul_le_mul_right z hac)))) (by have:=wj (n:=n) (z:=z) (by omega);omega)
  (λi W hi hW=>(pick1_any i h ((hR.grow nJ).grow hW) (bA hW (Nat.le_refl _) jl) (bA hW (Nat.le_refl _) wZ) hi hnb VI).mono λe W' ⟨he,hb⟩=>⟨he,seq hW hb⟩))
 subst CT;subst ha;have FG:Has ((b,.cells #[Wz vb,.slice (some ⟨rb,0,none⟩) (gY n z) cap,z,(aG f n:Nat)] 396 (0,0))::(Rv++Ra)) w2:=hR.grow nJ;have c1:w2.cell? ⟨b,1,none⟩=some (.slice (some ⟨rb,0,none⟩) (gY n z) cap):=an FG.head 1 _ rfl;have c3:w2.cell? ⟨b,3,none⟩=some (.int .i64 (aG f n:Nat)):=an FG.head 3 _ rfl;have g0:decide (k<0)=false:=dP;have g1:decide (aG f n<=k)=false:=dP;have hqm:q<gY n z:=by omega
 have HC:=a_ (λW (hW:Below w2.heap.size w2 W)=>(show W.cell? ⟨b,0,none⟩=some (.pointer (some ⟨vb,0,none⟩))/\W.cell? ⟨b,1,none⟩=some (.slice (some ⟨rb,0,none⟩) (gY n z) cap)/\W.cell? ⟨b,2,none⟩=some (.int .i64 z)/\W.cell? ⟨rb,q,none⟩=some (.int .i64 (aG f (q*z):Nat))/\W.cell? ⟨w.heap.size,0,none⟩=some (.pointer (some ⟨b,0,none⟩))/\W.cell? ⟨w.heap.size+1,0,none⟩=some (.int .i64 k) from
  ⟨an (FG.grow hW).head 0 _ rfl,an (FG.grow hW).head 1 _ rfl,an (FG.grow hW).head 2 _ rfl,hcell W q _ (FG.grow hW).tail.right (vA f z (gY n z) q hqm),bA hW (Nat.le_refl _) jl,bA hW (Nat.le_refl _) wZ⟩))
 have HV:=a_ (λW (hW:Below w2.heap.size w2 W) i hi=>lN (w:=W) i hv (FG.grow hW).tail.left ((hT.grow nJ).grow hW) hi);have HX:=a_ (show dV f (q*z) (n-q*z)<n/\f (dV f (q*z) (n-q*z))=true/\aG f (dV f (q*z) (n-q*z))=aG f (q*z) from⟨x1,x2,x3⟩);obtain⟨HK,jB,HQ⟩:=dF hk nJ hq;have uz:(aG f n:Int)<=1048576:=by omega
 have hkn:(k:Int)<=1048576:=by omega
 rw[tO,show ((q+1:Nat):Int)=(q:Int)+1 from by omega] at HS;generalize vK:aG f n=on at *;have Hon:=a_ vK;have hw2':=a_ hw2;have hqb:(q:Int)<=1048576:=by have:=wj (n:=n) (z:=z) (by omega);omega
 clear h hR hT hv hr hz hcell p1 p2 p3 p4 tO Bo qz x1 x2 x3 hq vK nJ FG hnb VI hk;go_enter func341,ntmps341;go_wp2
 go_quiet (fail)
 have Dh:=a_ (fM nq w2);generalize w2.drewN nq=w3 at *;obtain⟨d0,d1,d2,d3,d4,d5⟩:=HC _ Dh;have Fv:=a_ (show ∀W,Below w2.heap.size w2 W->∀m,WA 298 #[Wz vb,((q:Int)*z:Int)] (W.drewN m) λe w'=>e= .returned (.tuple #[(dV f (q*z) (n-q*z):Nat),true])/\w'=W.drewN m from λW hW m=>by
  have hv:=HV (W.drewN m) (seq hW (fM m W)) (q*z) (by have:=HX.1;have:=(dM f (n-q*z) (q*z)).1;omega);unfold ua at hv;rw[b9 HX.out.1,show ((q*z:Nat):Int)=(q:Int)*z from by simp] at hv;exact Calls.iD hv)
 have s1:IntKind.i64.wrap ((q:Int)*z)=(q:Int)*z:=IntWalk.i64_in _ (by
  have h1:=HX.1;have h2:=(dM f (n-q*z) (q*z)).1;have e:((q*z:Nat):Int)=(q:Int)*z:=by simp
  rw[←e];omega)
 clear jl wZ c1 c3 hw2
 go_wp2_with (go_at_call 140;refine (HS _ Dh).kq ?_;rintro w4 h4;have H4:=a_ h4;clear d0 d1 d2 d3 d4 d5 HS;obtain⟨d0,d1,d2,d3,d4,d5⟩:=HC _ h4;clear h4)
 have Lp:=a_ (Fv _ H4)
 go_quiet ((go_at_call 298;exact Calls.quiet_of_same (Lp _)))
 have H5:=a_ (seq H4 (fM nq w4));generalize w4.drewN nq=w5 at *;clear d0 d1 d2 d3 d4 d5;obtain⟨d0,d1,d2,d3,d4,d5⟩:=HC _ H5;have Ox:(q:Int)<gY n z:=by omega
 have Bi:(0:Int)<=q:=by omega
 have Qr:((q:Int)).toNat=q:=by omega
 have LP:=HX.2.2;have uF:=HX.1;generalize jI:dV f (q*z) (n-q*z)=a0 at *;generalize ks:aG f (q*z)=c0 at *;have Ml:=a_ (show f a0=true/\aG f a0=c0/\c0<=k from⟨HX.2.1,LP,by have:=HQ.out;omega⟩);have HVn:=a_ (λi hi=>HV w5 H5 i hi);clear LP jI ks HX Fv Lp;go_wp2
 go_loop [7,9] (λav nv=>∃a c:Nat,av= .int .i64 a/\nv= .int .i64 c/\a<n/\f a=true/\aG f a=c/\c<=k) (λ_ nv=>k-(intOf nv).toNat)
 case atStart=>exact⟨a0,c0,rfl,rfl,uF,Ml.1,Ml.2.1,Ml.2.2⟩
 case round=>
  obtain⟨a,c,rfl,rfl,ha,SI,Vp,hck⟩:=hrel;obtain⟨Rn,QU⟩:=aO SI Vp;have wX:(a:Int)<=1048576:=by omega
  clear SI Vp;by_cases hlt:c<k
  ·have zy:=By (f:=f) (n:=n) (a:=a+1) (by omega) (by rw[bM,Rn.out,QU.out,Hon.out,b9 rfl];have:=HK.out;omega);have hv:=HVn (a+1) (by omega);unfold ua at hv;rw[b9 zy.1,show ((a+1:Nat):Int)=(a:Int)+1 from by omega] at hv;generalize dV f (a+1) (n-(a+1))=a1 at *;obtain⟨y1,y2,y3⟩:=zy;rw[bM,Rn.out,QU.out,b9 rfl] at y3;have HV1:=a_ hv;have HY:=a_ (And.intro y2 y3);clear hv y2 y3
   go_wp2_with (go_at_call 298;refine HV1.kq ?_;rintro w7 rfl)
   go_round
   case rel=>exact⟨a1,c+1,rfl,by go_num,y1,HY.1,HY.2,by omega⟩
   case measure=>simp[intOf];omega
  ·go_wp2
   go_ret2
   refine⟨congrArg (λ(x:Nat)=>Ending.returned (.tuple #[.int .i64 x,.bool true])) ?_,seq jB H5⟩;exact (pk_eq Rn (by rw[QU.out];omega) ha).symm
end
def oV (b e_:Nat) (l:List Int) (lost:Bool) (R:BL):Prop:=
 ∃(hi:Nat) (al:Option Addr) (cap:Nat) (Ra:BL),R=(b,.cells #[.slice al l.length cap,e_,hi,lost] 368 (0,0))::Ra/\Rz 3 1 l.length (mJ l) al cap Ra/\(1<=e_/\e_<=4096)/\l.length<=e_/\hi<=4096
section
variable {b e_:Nat} {l:List Int} {lost:Bool} {R K:BL} {w w':World}
def stk_new (n:Nat) (w:World) (h1:1<=n) (h2:n<=4096):
  WA 239 #[n] w λe w'=>∃b,e= .returned (.tuple #[Wz b,Wy])/\∃R,oV b n [] false R/\ag [] R w w':=by
 have g1:decide ((n:Int)<1)=false:=dP;have g2:decide ((4096:Int)<n)=false:=dP;have HD:=a_ ((ag.refl (At.nil (w:=w))).box #[.slice none 0 0,n,Wy,false] 368);go_enter func239,ntmps239;go_wp2
 go_ret2
 exact⟨_,rfl,_,⟨0,none,0,[],rfl,Rw.nil _ _ _,⟨h1,h2⟩,Nat.zero_le _,by omega⟩,HD⟩
def BO (h:oV b e_ l lost R) (hR:Has R w):WR 338 #[Wz b] w (l.length:Nat) λw'=>w=w':=by
 obtain⟨hi,al,cap,Ra,rfl,h1,h2,h3,h4⟩:=h;have c0:w.cell? ⟨b,0,none⟩=some (.slice al l.length cap):=an hR.head 0 _ rfl;clear h1 hR;generalize l.length=n at *;go_enter func338,ntmps338;go_wp2;go_ret;exact⟨rfl,rfl⟩
def stk_lost (h:oV b e_ l lost R) (hR:Has R w):WR 288 #[Wz b] w lost λw'=>w=w':=by
 obtain⟨hi,al,cap,Ra,rfl,h1,h2,h3,h4⟩:=h;have c0:w.cell? ⟨b,3,none⟩=some (.bool lost):=an hR.head 3 _ rfl;clear h1 hR;go_enter func288,ntmps288;go_wp2;go_ret;exact⟨rfl,rfl⟩
def stk_found (h:oV b e_ l lost R) (hR:At R w):WR 289 #[Wz b] w (.tuple #[]) λw'=>∃R',oV b e_ l false R'/\ag R R' w w':=by
 obtain⟨hi,al,cap,Ra,rfl,h1,h2,h3,h4⟩:=h;have c0:w.cell? ⟨b,3,none⟩=some (.bool lost):=an hR.1.head 3 _ rfl;have f0:=br hR.1.head 3;have HD:=a_ ((ag.refl hR).set 3 false);have H1:=a_ h1;clear h1 hR;go_enter func289,ntmps289;go_wp2
 go_end0
 exact⟨rfl,_,⟨hi,al,cap,Ra,rfl,H1,h2,h3,h4⟩,HD⟩
def Rw.cut {k cap:Nat} {xs:List Value} {al:Option Addr} {R:BL} {ty:TypeId} (r:Rz ty 1 k xs al cap R) {j:Nat} (hj:j<=k):Rz ty 1 j (xs.take j) al cap R:=by
 rcases r with⟨rfl,rfl,rfl,rfl,rfl⟩ | ⟨b,cur,rfl,h2,h3,h4,h5,h6,h7,rfl⟩
 ·obtain rfl:j=0:=by omega
  exact Rw.nil _ _ _
 ·refine .inr ⟨b,cur,rfl,h2,by omega,h4,h5,?_,?_,rfl⟩
  ·rw[←h6,List.take_take];congr 1;omega
  ·rw[List.length_take,h7];omega
def stk_pop_none (h:oV b e_ [] lost R) (hR:Has R w):WR 322 #[Wz b] w (.tuple #[Wy,false]) λw'=>w=w':=by
 have HL:=a_ (BO h hR);clear h hR;go_enter func322,ntmps322
 go_wp2_with (go_at_call 338;refine HL.kq ?_;rintro w1 rfl)
 go_ret2
 exact⟨rfl,rfl⟩
def stk_pop (v:Int) (h:oV b e_ (l++ [v]) lost R) (hR:At R w):WR 322 #[Wz b] w (.tuple #[v,true]) λw'=>∃R',oV b e_ l lost R'/\ag R R' w w':=by
 have hL:=BO h hR.1;obtain⟨hi,al,cap,Ra,rfl,h1,h2,h3,h4⟩:=h;obtain⟨rb,ha,LU,hcell⟩:=h1.cellAt (by simp);subst ha;have Gy:(l++ [v]).length=l.length+1:=by simp
 have cv:=hcell w l.length (.int .i64 v) hR.1.tail (by simp[mJ]);have hcut:=h1.cut (j:=l.length) (by omega);rw[show (mJ (l++ [v])).take l.length=mJ l from by simp[mJ]] at hcut;have c0:w.cell? ⟨b,0,none⟩=some (.slice (some ⟨rb,0,none⟩) (l++ [v]).length cap):=an hR.1.head 0 _ rfl;have f0:=br hR.1.head 0;have HD:=a_ ((ag.refl hR).set 0 (.slice (some ⟨rb,0,none⟩) l.length cap));have HC:=a_ hcut;clear h1 hR hcell hcut;rw[Gy] at h3 LU c0 hL;have hn:l.length<=4096:=by omega
 obtain⟨n,KB⟩:∃n,l.length=n:=⟨_,rfl⟩
 have Ln:=a_ KB;rw[show ((l.length+1:Nat):Int)=(l.length:Int)+1 from by omega] at hL;have HL:=a_ hL;clear hL;simp only[KB] at HL c0 cv hn LU;have h3:=a_ h3;clear Gy KB;go_enter func322,ntmps322
 go_wp2_with (go_at_call 338;refine HL.kq ?_;rintro w1 rfl)
 go_ret2
 have e:=Ln.out;subst e;exact⟨rfl,_,⟨hi,some ⟨rb,0,none⟩,cap,Ra,rfl,HC,h2,by have:=h3.out;omega,h4⟩,HD⟩
end
def om (e_:Nat) (l:List Int) (a:Int):List Int:=if l.length<e_ then l++ [a] else l
def uX (e_:Nat) (l:List Int) (lost:Bool):Bool:=if l.length<e_ then lost else true
section
variable {b e_:Nat} {l:List Int} {lost:Bool} {R K:BL} {w w':World}
def stk_push (a:Int) (h:oV b e_ l lost R) (hR:At R w):WA 321 #[Wz b,a] w λe w'=>∃q:Bool,e= .returned q/\∃R',oV b e_ (om e_ l a) (uX e_ l lost) R'/\ag R R' w w':=by
 obtain⟨hi,al,cap,Ra,rfl,h1,h2,h3,h4⟩:=h;obtain⟨j1,hj,sB,oQ,sC⟩:=info_parts fP;have c0:w.cell? ⟨b,0,none⟩=some (.slice al l.length cap):=an hR.1.head 0 _ rfl;have c1:w.cell? ⟨b,1,none⟩=some (.int .i64 e_):=an hR.1.head 1 _ rfl;have H1:=a_ h1;have HD:=a_ (ag.refl hR);unfold om uX;by_cases hlt:l.length<e_
 ·rw[b9 hlt,b9 hlt];have g1:decide (e_<=l.length)=false:=dP;have hn:l.length<4096:=by omega
  generalize hl:l.length=n at *;have Hl:=a_ hl;clear h1 hR hl;go_enter func321,ntmps321;go_wp2
  go_quiet (fail)
  have qU:=a_ (HD.grow (fM nq w));generalize w.drewN nq=w1 at *;have d0:w1.cell? ⟨b,0,none⟩=some (.slice al n cap):=an qU.has.head 0 _ rfl;clear c0 c1;obtain⟨wU,eO,w5,AA,hrun,kz,hN⟩:=H1.LD (K:= [(b,.cells #[.slice al n cap,e_,hi,lost] 368 (0,0))]) (qU.perm (R':=Ra++ [(b,.cells #[.slice al n cap,e_,hi,lost] 368 (0,0))]) aF) hj sB oQ sC rfl (by decide) underlying58 #[.int .i64 a] rfl (by intro u hu;simp only[List.mem_cons,List.not_mem_nil,or_false] at hu;rw[hu];rfl) (by unfold maxLen;omega) (by omega);obtain⟨et,Az,HN⟩:=dF hrun kz hN;have q5:=hN.has.right.head;have b0:=an q5 0 _ rfl;have f0:=br q5 0;clear hrun kz hN q5
  go_wp2_with (at_builtin;refine cP _ rfl (.tmp 24) (.tmp 26) 58 rfl _ _ _ _ rfl rfl et ?_)
  have Rb:Hid (ag _ ((b,WD #[.slice wU (n+1) eO,e_,hi,lost] 368)::AA) w _):=a_ ((HN.perm (R':=(b,WD #[.slice al n cap,e_,hi,lost] 368)::AA) aF).set 0 (.slice wU (n+1) eO));clear d0 f0 b0 HN et qU;generalize w5.setCell ⟨b,0,none⟩ (.slice wU (n+1) eO)=w6 at *;have GY:=a_ (Rb.drew);refine wp_region_still_tail 11 (by kernel_rfl) (by kernel_rfl) ?_;simp only[List.take_succ_cons,List.take_zero,List.drop_succ_cons,List.drop_zero];unfold World.drew at GY;generalize ({w6 with drawn:=w6.drawn+1}:World)=w7 at *;have q7:=GY.has.head;have d0:w7.cell? ⟨b,0,none⟩=some (.slice wU (n+1) eO):=an q7 0 _ rfl;have d2:w7.cell? ⟨b,2,none⟩=some (.int .i64 hi):=an q7 2 _ rfl;have f2:=br q7 2;clear q7;have em:max (hi:Int) ((n:Int)+1)=((max hi (n+1):Nat):Int):=by omega
  have hm:max hi (n+1)<=4096:=by omega
  have Em:=a_ em;generalize max hi (n+1)=mx at *;clear em
  repeat still_step
  refine wpStill_nil ?_;go_wp2;go_ret;have hl:=Hl.out;subst hl;have Pv:=GY.set 2 (max (hi:Int) ((l.length:Int)+1):Int);rw[Em.out] at Pv ⊢;exact⟨true,rfl,_,⟨mx,wU,eO,AA,by rw[List.length_append];rfl,by have:=Az.out;rw[uG,List.length_append];exact this,h2,by rw[List.length_append];exact hlt,hm⟩,Pv⟩
 ·rw[b_ hlt,b_ hlt];have g1:decide (e_<=l.length)=true:=kr;have Hll:=a_ h3;generalize hl:l.length=n at *;have Hl:=a_ hl;have HF:=a_ (λq=>HD.grow (fM q w));clear h1 hR hl;go_enter func321,ntmps321;go_wp2
  go_quiet (fail)
  have qU:=a_ (HF nq);generalize w.drewN nq=w1 at *;have f3:=br qU.has.head 3;have d3:w1.cell? ⟨b,3,none⟩=some (.bool lost):=an qU.has.head 3 _ rfl;clear c0 c1;go_wp2;go_ret;have hl:=Hl.out;subst hl;exact⟨false,rfl,_,⟨hi,al,cap,Ra,rfl,H1,h2,Hll,h4⟩,qU.set 3 true⟩
end
structure nd {α:Type} (J:List α->BL->World->Prop):Prop where
 has:∀s K W,J s K W->Has K W
 obj:∀s K W,J s K W->∀o,J s ((W.heap.size,o)::K) (W.alloc o)
 turn:∀s K W q o,J s ((q,o)::K) W->∀o',J s ((q,o')::K) (W.putObj q o')
 tail:∀s K W x,J s (x::K) W->J s K W
 perm:∀s K K' W,J s K W->K.Perm K'->J s K' W
 grow:∀s K W W',J s K W->Below W.heap.size W W'->J s K W'
 tz:∀s K W,J s K W->ax W
def JR {α:Type} (P:Program) (g:Nat) (lb:Array Value) (Co:α->Array Value) (Jp:List α) (K0:BL):Prop:=
 ∀(l:Nat) (J Jx:List α->BL->World->Prop) (K:BL) (W:World),(∀x∈K0,x∈K)->nd J->nd Jx->
  (∀pre x post K' W1,Jp=pre++x::post->(∀x∈K,x∈K')->J pre K' W1->YieldAt Fence.wide 1 P l (Co x) W1 λe W'=>
   (e= .returned true/\J (pre++ [x]) K' W')\/(e= .returned false/\Jx (pre++ [x]) K' W'))->
  J [] K W->
  CallsIn Fence.wide 2 P g (#[.func (.yield l) #[] #[]]++lb) W λe W'=>(∃v,e= .returned v)/\(J Jp K W'\/∃pre,pre<+:Jp/\Jx pre K W')
def round_wide {n m:Nat} {l l':Nat} {P:Program} {f:FuncId} {tmps:Array Value} {assign body:Code} {w:World} {R:Ending->World->Prop} (h:RoundIn Fence.wide n P l f tmps assign body w R):RoundIn (Fence.wide.inRound l') m P l f tmps assign body w R:=
 ⟨h.1,λc cs hroom=>h.2 c cs (room_wide _)⟩
def round_wideI {n m:Nat} {l l':Nat} {P:Program} {f:FuncId} {tmps:Array Value} {assign body:Code} {w:World} {R:Ending->World->Prop} (h:RoundIn (Fence.wide.inRound l') n P l f tmps assign body w R):RoundIn Fence.wide m P l f tmps assign body w R:=
 ⟨h.1,λc cs hroom=>h.2 c cs (room_wide _)⟩
def ownP {α:Type} (I:List α->BL->World->Prop) (Ix:Code->List α->BL->World->Prop) (xs:List α) (K:BL):Exit->Act->World->Prop
 | .normal,_,W'=>I xs K W'
 | .ret,_,W'=>Ix .ret xs K W'
 | .exit id,_,W'=>Ix (.exit id) xs K W'
 | .goto t,_,W'=>Ix (.goto t) xs K W'
 | .panic _,_,_=>False
 | .outgrown,_,_=>False
def dC {P:Program} {α:Type} {n:Nat} {g:Operand} {ps:Array Tmp} {assign body:Code} {Q:Exit->Act->World->Prop} {a:Act} {w:World}
  {gf:Nat} {lb:Array Value} (hg:a.eval g= .func (.func gf) #[] lb) (eg:∀args w,(callFunc gf args).run P w= .ok (.enter gf args) w)
  {Co:α->Array Value} {Jp:List α} {K0:BL} (hseq:JR P gf lb Co Jp K0) (Bh:∀x,(Co x).size=ps.size)
  (K:BL) (hK:∀x∈K0,x∈K) (I:List α->BL->World->Prop) (Ix:Code->List α->BL->World->Prop) (hI:nd I) (zr:∀c,nd (Ix c)) (h0:I [] K w) (a₁:α->Act)
  (hassign:∀(l:Nat) (x:α) (W:World) (K:Act->World->Prop),K (a₁ x) W->
   assign.wpIn (Fence.wide.inRound l) 0 P (Exit.then K (λ_ _ _=>False)) {tmps:=(ps.zip (Co x)).foldl (λt (p,v)=>t.setIfInBounds p v) a.tmps,defers:= []} W)
  (hbody:∀(l:Nat) (pre:List α) (x:α) (post:List α) (K':BL) (W:World),Jp=pre++x::post->(∀x∈K,x∈K')->I pre K' W->body.wpIn (Fence.wide.inRound l) 0 P (ownP I Ix (pre++ [x]) K') (a₁ x) W)
  (xU:∀(D:Nat) (W:World),I Jp ((D,.deferred (some []))::K) W->Q .normal {a with defers:={target:= .collected D,args:= #[]}::a.defers} W)
  (hstop:∀(D:Nat) (c:Code) (pre:List α) (W:World),pre<+:Jp->Ix c pre ((D,.deferred (some []))::K) W->c.wpIn Fence.wide n P Q {a with defers:={target:= .collected D,args:= #[]}::a.defers} W):
  (Code.rangeFunc g ps assign body).wpIn Fence.wide n P Q a w:=by
 refine wpIn_rangeFunc ?_;intro fn hfn;rw[show Fence.wide.round=none from rfl];obtain⟨rec,vQ⟩:∃rec:LoopState->Option Code->Loop,rec=λst pe=>{state:=st,pending:=pe,fn,tmps:=a.tmps,params:=ps,assign,body,defers:=w.heap.size}:=⟨_,rfl⟩
 obtain⟨W1,NM⟩:∃W1,(w.alloc (.deferred (some []))).alloc (.loop (rec .ready none))=W1:=⟨_,rfl⟩
 have hI1:I [] ((w.heap.size+1,.loop (rec .ready none))::(w.heap.size,.deferred (some []))::K) W1:=by
  have:=hI.obj _ _ _ (hI.obj _ _ _ h0 (.deferred (some []))) (.loop (rec .ready none));rw[World.size_alloc,NM] at this;exact this
 refine⟨w.heap.size+1,[{target:= .collected w.heap.size,args:= #[]}],W1,{target:= .fn (.func gf) lb,args:= #[.func (.yield (w.heap.size+1)) #[] #[]]},W1,gf,
  #[.func (.yield (w.heap.size+1)) #[] #[]]++lb,W1,?_,?_,?_,?_,?_,?_⟩
 ·rw[←NM,vQ];exact run_enterLoop_outer _ _ _ _ _
 ·simp only[resolve,hg];simp[go_sem]
 ·intro f' hf';exact trivial
 ·simp[invoke,go_sem,eg]
 ·intro h
  cases h
 ·generalize hD:w.heap.size=D at *;clear NM h0;have hJ:∀(I:List α->BL->World->Prop) (st:LoopState) (pe:Option Code),nd I->nd (λpre K W=>I pre ((D+1,.loop (rec st pe))::K) W):=λI st pe h=>
   ⟨λs K W hj=>(h.has _ _ _ hj).tail,λs K W hj o=>h.perm _ _ _ _ (h.obj _ _ _ hj o) (List.Perm.swap _ _ _),
    λs K W q o hj o'=>h.perm _ _ _ _ (h.turn _ _ _ _ _ (h.perm _ _ _ _ hj (List.Perm.swap _ _ _)) o') (List.Perm.swap _ _ _),
    λs K W x hj=>h.tail _ _ _ _ (h.perm _ _ _ _ hj (List.Perm.swap _ _ _)),λs K K' W hj p=>h.perm _ _ _ _ hj (List.Perm.cons _ p),λs K W W' hj c=>h.grow _ _ _ _ hj c,λs K W hj=>h.tz _ _ _ hj⟩
  have FF:nd (λpre K W=>∃c,Ix c pre ((D+1,.loop (rec .done (some c)))::K) W):=
   ⟨λs K W ⟨c,hj⟩=>(hJ (Ix c) .done (some c) (zr c)).has _ _ _ hj,λs K W ⟨c,hj⟩ o=>⟨c,(hJ (Ix c) .done (some c) (zr c)).obj _ _ _ hj o⟩,
    λs K W q o ⟨c,hj⟩ o'=>⟨c,(hJ (Ix c) .done (some c) (zr c)).turn _ _ _ _ _ hj o'⟩,λs K W x ⟨c,hj⟩=>⟨c,(hJ (Ix c) .done (some c) (zr c)).tail _ _ _ _ hj⟩,
    λs K K' W ⟨c,hj⟩ p=>⟨c,(hJ (Ix c) .done (some c) (zr c)).perm _ _ _ _ hj p⟩,λs K W W' ⟨c,hj⟩ b=>⟨c,(hJ (Ix c) .done (some c) (zr c)).grow _ _ _ _ hj b⟩,λs K W ⟨c,hj⟩=>(hJ (Ix c) .done (some c) (zr c)).tz _ _ _ hj⟩
  refine callsIn_wide.2 (callsIn_wide (n:=2) |>.1 ((hseq (D+1) (λpre K W=>I pre ((D+1,.loop (rec .ready none))::K) W) (λpre K W=>∃c,Ix c pre ((D+1,.loop (rec .done (some c)))::K) W)
   ((D,.deferred (some []))::K) W1 (λx hx=>List.mem_cons_of_mem _ (hK x hx)) (hJ I .ready none hI) FF ?_ hI1).mono ?_))
  ·rintro pre x post K' W gz hsub hi;have hl:=(hI.has _ _ _ hi).head;have hy:=run_yield (P:=P) (args:=Co x) hl (by rw[vQ];exact Bh x);rw[vQ] at hy;refine⟨fn,_,assign,body,hy,round_wideI (l':=D+1) (n:=0) (roundIn_of_wpIn hfn (hassign _ x W _ ?_))⟩;clear hy;refine⟨_,run_beginRound hl (by rw[vQ]),?_⟩;refine wpIn_mono (hbody _ pre x post _ _ gz (λy hy=>List.mem_cons_of_mem _ (hsub y (List.mem_cons_of_mem _ hy))) (hI.turn _ _ _ _ _ hi (.loop {rec .ready none with state:= .busy}))) ?_;have fin:∀(jump:Option Code) (W3:World),W3.heap[D+1]?=some (.loop {rec .ready none with state:= .busy})->
     (Instr.endRound (D+1) jump).run P W3= .ok (.bool jump.isNone) (W3.putObj (D+1) (.loop (rec (if jump.isNone then .ready else .done) jump))):=λjump W3 hl3=>by
    have:=run_endRound (P:=P) jump hl3;rw[vQ] at this ⊢;exact this
   rintro e a3 W3 hp
   cases e with
   | normal=>exact⟨_,_,fin none W3 (hI.has _ _ _ hp).head,.inl ⟨rfl,hI.turn _ _ _ _ _ hp _⟩⟩
   | ret=>exact⟨_,_,fin (some .ret) W3 ((zr _).has _ _ _ hp).head,.inr ⟨rfl,.ret,(zr _).turn _ _ _ _ _ hp _⟩⟩
   | exit id=>exact⟨_,_,fin (some (.exit id)) W3 ((zr _).has _ _ _ hp).head,.inr ⟨rfl,.exit id,(zr _).turn _ _ _ _ _ hp _⟩⟩
   | goto t=>exact⟨_,_,fin (some (.goto t)) W3 ((zr _).has _ _ _ hp).head,.inr ⟨rfl,.goto t,(zr _).turn _ _ _ _ _ hp _⟩⟩
   | panic ch=>exact hp.elim
   | outgrown=>exact hp.elim
  ·rintro e W2 ⟨⟨v,rfl⟩,(hi | ⟨pre,hSp,c,hi⟩)⟩
   ·have hl:=(hI.has _ _ _ hi).head;exact⟨none,_,by have:=run_endLoop (P:=P) hl (by rw[vQ];simp);rw[vQ] at this;exact this,xU _ _ (hI.tail _ _ _ _ (hI.turn _ _ _ _ _ hi _))⟩
   ·have hl:=((zr c).has _ _ _ hi).head;exact⟨some c,_,by have:=run_endLoop (P:=P) hl (by rw[vQ];simp);rw[vQ] at this;exact this,hstop _ c pre _ hSp ((zr c).tail _ _ _ _ ((zr c).turn _ _ _ _ _ hi _))⟩
section
attribute [local go_sem] Oper.semAt_some
def cN (f:Nat->Bool) (n:Nat):List Nat:=(List.range n).filter f
def mN {f:Nat->Bool} {x:Nat} (h:f x=true):cN f (x+1)=cN f x++ [x]:=by
 unfold cN;rw[List.range_succ,List.filter_append];simp[h]
def qC {f:Nat->Bool} {x:Nat} (h:f x=false):cN f (x+1)=cN f x:=by
 unfold cN;rw[List.range_succ,List.filter_append];simp[h]
def sP {f:Nat->Bool} {a b:Nat} (hab:a<=b) (h:∀j,a<=j->j<b->f j=false):cN f b=cN f a:=by
 obtain⟨c,rfl⟩:=Nat.exists_eq_add_of_le hab;clear hab
 induction c with
 | zero=>rfl
 | succ c ih=>
  rw[←Nat.add_assoc,qC (h _ (by omega) (by omega))];exact ih λj h1 h2=>h j h1 (by omega)
def ones_split {f:Nat->Bool} {x n:Nat} (h:f x=true) (hx:x<n):∃post,cN f n=cN f x++x::post:=by
 obtain⟨c,rfl⟩:=Nat.exists_eq_add_of_lt hx;clear hx
 induction c with
 | zero=>exact⟨[],mN h⟩
 | succ c ih=>
  obtain⟨post,e⟩:=ih
  cases hf:f (x+c+1)
  ·exact⟨post,by rw[show x+(c+1)+1=x+c+1+1 from rfl,qC hf,e]⟩
  ·exact⟨post++ [x+c+1],by rw[show x+(c+1)+1=x+c+1+1 from rfl,mN hf,e];simp⟩
def fold_one (p:Tmp) (v:Value) (t:Array Value):((#[p]:Array Tmp).zip #[v]).foldl (λt (p,v)=>t.setIfInBounds p v) t=t.setIfInBounds p v:=by simp
def eK (p q:Tmp) (v u:Value) (t:Array Value):((#[p,q]:Array Tmp).zip #[v,u]).foldl (λt (p,v)=>t.setIfInBounds p v) t=(t.setIfInBounds p v).setIfInBounds q u:=by simp
def Aj (x:Nat):Array Value:= #[.int .i64 x]
section
variable {b n Bn:Nat} {f:Nat->Bool} {R:BL} {w:World} {T:TypeId}
def yr (h:cY b n f R) (a:Nat) (ha:a<=n):
  ∃(i:Nat) (q:Bool),(∀W,Has R W->ax W->WR 298 #[Wz b,a] W (.tuple #[i,q]) λw'=>W=w')/\
   ((q=true/\a<=i/\i<n/\f i=true/\cN f i=cN f a)\/(q=false/\cN f n=cN f a)):=by
 have hd:=h.ij;have hn:=λW hW hT=>lN (w:=W) a h hW hT (by omega)
 unfold ua at hn;obtain⟨p1,p2,p3,p4⟩:=dM f (n-a) a;by_cases hlt:dV f a (n-a)<n
 ·simp only[b9 hlt] at hn;exact⟨_,_,hn,.inl ⟨rfl,p1,hlt,p4 (by omega),sP p1 p3⟩⟩
 ·simp only[b_ hlt] at hn;exact⟨0,_,hn,.inr ⟨rfl,sP ha λj h1 h2=>p3 j h1 (by omega)⟩⟩
def Tm (n:Nat) (iv bv:Value):Nat:=match bv with | .bool true=>n-(intOf iv).toNat+1 | _=>0
def ones_seq (h:cY b n f R):
  JR prog 303 #[.pointer (some ⟨Bn,0,none⟩)] Aj (cN f n) ((Bn,.cells #[Wz b] T (0,0))::R):=by
 intro l J Jx K W hK hJ FF hY h0;have hd:=h.ij;have NI:∀pre wr,J pre K wr->Has ((Bn,.cells #[Wz b] T (0,0))::R) wr/\ax wr:=λpre wr hj=>⟨(hJ.has _ _ _ hj).sub hK,hJ.tz _ _ _ hj⟩
 refine callsIn_of_wp func303 rfl trivial ?_ rfl;simp only[ntmps303,List.size_toArray,List.length_cons,List.length_nil,Nat.reduceAdd,Nat.reduceSub,Array.replicate_succ,Array.replicate_zero,List.push_toArray,List.append_toArray,List.nil_append,List.cons_append];have c0:=an (NI _ _ h0).1.head 0 _ rfl;obtain⟨i0,q0,Qn,ha0⟩:=yr h 0 (Nat.zero_le _);have Mv:=a_ (Qn W (NI _ _ h0).1.tail (NI _ _ h0).2);obtain⟨Ty,ug,H0,H,HY⟩:=Es ha0 NI h0 h hY;have hn:n<=1048576:=hd.2;clear Qn ha0 NI h0 h hY hJ FF hd hK
 gi_wp2_with (refine⟨trivial,?_⟩;gi_at_call 298;refine (callsIn_wide.2 Mv).mono ?_;rintro e w' ⟨rfl,rfl⟩)
 gi_loopw [3,4] (λiv bv wr=>(∃i:Nat,iv= .int .i64 i/\bv= .bool true/\i<n/\f i=true/\J (cN f i) K wr)\/((∃i:Nat,iv= .int .i64 i)/\bv= .bool false/\J (cN f n) K wr)) (λiv bv _=>Tm n iv bv)
 case atStart=>
  rcases Ty.out with⟨rfl,h1,h2,h3,h4⟩ | ⟨rfl,h1⟩
  ·exact .inl ⟨i0,rfl,rfl,h2,h3,by rw[h4];exact H0⟩
  ·exact .inr ⟨⟨i0,rfl⟩,rfl,by rw[h1];exact H0⟩
 case round=>
  clear c0 Ty H0 Mv;rcases hrel with⟨i,rfl,rfl,hi,hf,hj⟩ | ⟨⟨i,rfl⟩,rfl,hj⟩
  ·obtain⟨post,hpost⟩:=ones_split hf hi;obtain⟨fn,tmps,assign,body,hy,hR⟩:=HY _ _ _ K wr hpost (λx hx=>hx) hj;have c0:=an (ug _ _ hj).1.head 0 _ rfl;dsimp only[Aj] at hy;have HPO:=a_ hpost;have qw:(i:Int)<=1048576:=by omega
   clear hj hpost;obtain⟨i1,q1,CY,uy⟩:=yr H (i+1) (by omega);rw[show ((i+1:Nat):Int)=(i:Int)+1 from by omega,mN hf] at *;obtain⟨TP,Fu⟩:=aO CY uy;clear CY uy
   gi_wp2
   refine hR.mono ?_;rintro e W' (⟨rfl,NB⟩ | ⟨rfl,NC⟩)
   ·have HJ:=a_ NB;have hk:=ug _ _ NB;have c1:=an hk.1.head 0 _ rfl;have zF:=a_ (TP W' hk.1.tail hk.2);clear NB hk TP c0
    gi_wp2_with (refine⟨trivial,?_⟩;gi_at_call 298;refine (callsIn_wide.2 zF).mono ?_;rintro e w' ⟨rfl,rfl⟩)
    go_roundw
    case rel=>
     rcases Fu.out with⟨rfl,h1,h2,h3,h4⟩ | ⟨rfl,h1⟩
     ·exact .inl ⟨i1,rfl,rfl,h2,h3,by rw[h4];exact HJ⟩
     ·exact .inr ⟨⟨i1,rfl⟩,rfl,by rw[h1];exact HJ⟩
    case measure=>
     rcases Fu.out with⟨rfl,h1,h2,h3,h4⟩ | ⟨rfl,h1⟩
     ·simp[Tm,intOf];omega
     ·simp[Tm]
   ·have HJ:=a_ NC;clear NC
    gi_wp2
    go_end0
    exact⟨⟨_,rfl⟩,.inr ⟨_,⟨post,by rw[HPO.out];simp⟩,HJ⟩⟩
  ·have HJ:=a_ hj;clear hj
   gi_wp2
   refine⟨λ_ h=>(by cases h),?_⟩
   gi_wp2
   go_end0
   exact⟨⟨_,rfl⟩,.inl HJ⟩
end
end
open Classical in
noncomputable def aW (P:Nat->Prop) (n:Nat):Nat:=aG (λi=>decide (P i)) n
section
variable {P Q K:Nat->Prop} {n m c:Nat}
def aQ (P:Nat->Prop) (n:Nat):(P n->aW P (n+1)=aW P n+1)/\(¬P n->aW P (n+1)=aW P n):=by
 unfold aW;constructor
 ·intro h;rw[bM];simp[h]
 ·intro h;rw[bM];simp[h]
def bR:∀ {n:Nat},(∀i,i<n->P i->Q i)->aW P n<=aW Q n
 | 0,_=>Nat.le_refl _
 | n+1,h=>by
  have ih:=bR (n:=n) λi hi=>h i (by omega)
  by_cases hp:P n
  ·rw[(aQ P n).1 hp,(aQ Q n).1 (h n (by omega) hp)];omega
  ·rw[(aQ P n).2 hp];by_cases hq:Q n
   ·rw[(aQ Q n).1 hq];omega
   ·rw[(aQ Q n).2 hq];omega
def iu (h:∀i,i<n->(P i↔Q i)):aW P n=aW Q n:=Nat.le_antisymm (bR λi hi=>(h i hi).1) (bR λi hi=>(h i hi).2)
def jF (P Q:Nat->Prop):∀n,aW (λi=>P i\/Q i) n<=aW P n+aW Q n
 | 0=>Nat.le_refl _
 | n+1=>by
  have ih:=jF P Q n;by_cases hp:P n
  ·rw[(aQ P n).1 hp,(aQ (λi=>P i\/Q i) n).1 (.inl hp)];have:aW Q n<=aW Q (n+1):=cT _ (Nat.le_succ n);omega
  ·by_cases hq:Q n
   ·rw[(aQ P n).2 hp,(aQ Q n).1 hq,(aQ (λi=>P i\/Q i) n).1 (.inr hq)];omega
   ·rw[(aQ P n).2 hp,(aQ Q n).2 hq,(aQ (λi=>P i\/Q i) n).2 (λh=>h.elim hp hq)];exact ih
def pd (h:∀i,P i->Q i->False):∀n,aW (λi=>P i\/Q i) n=aW P n+aW Q n
 | 0=>rfl
 | n+1=>by
  have ih:=pd h n;by_cases hp:P n
  ·rw[(aQ P n).1 hp,(aQ Q n).2 (h n hp),(aQ (λi=>P i\/Q i) n).1 (.inl hp)];omega
  ·by_cases hq:Q n
   ·rw[(aQ P n).2 hp,(aQ Q n).1 hq,(aQ (λi=>P i\/Q i) n).1 (.inr hq)];omega
   ·rw[(aQ P n).2 hp,(aQ Q n).2 hq,(aQ (λi=>P i\/Q i) n).2 (λh=>h.elim hp hq)];exact ih
def je (h:∀i,i<n->¬P i):aW P n=0:=dD λi hi=>by simp[h i hi]
def kE {a:Nat}:∀ {n:Nat},(∀i,i<n->P i->i=a)->aW P n<=1
 | 0,_=>by unfold aW aG;omega
 | n+1,h=>by
  by_cases hp:P n
  ·rw[(aQ P n).1 hp,je λi hi hq=>?_]
   ·omega
   ·have h1:=h i (by omega) hq;have h2:=h n (by omega) hp;omega
  ·rw[(aQ P n).2 hp];exact kE λi hi=>h i (by omega)
def ly {f:Nat->Bool} (h:∀i,i<n->(f i=true↔P i)):aG f n=aW P n:=cB λi hi=>by
 have e:=h i hi;by_cases q:P i
 ·simp[q,e.2 q]
 ·cases hq:f i with
  | false=>simp[q]
  | true=>exact absurd (e.1 hq) q
def cntP_le (P:Nat->Prop) (n:Nat):aW P n<=n:=bE _ n
def mB (P Q:Nat->Prop) (n:Nat):aW P n=aW (λi=>P i/\Q i) n+aW (λi=>P i/\¬Q i) n:=by
 rw[←pd (λi h1 h2=>h2.2 h1.2)];exact iu λi _=>⟨λh=>(Classical.em (Q i)).elim (λq=> .inl ⟨h,q⟩) λq=> .inr ⟨h,q⟩,λh=>h.elim (·.1) (·.1)⟩
def eI (a c:Nat):∀n,aW (λi=>a<=i/\i<a+c) n<=c
 | 0=>Nat.zero_le _
 | n+1=>by
  by_cases h:a<=n/\n<a+c
  ·rw[(aQ _ n).1 h];have h2:aW (λi=>a<=i/\i<a+c) n<=n-a:=by
    have e:aW (λi=>a<=i/\i<a+c) n=aW (λi=>a<=i/\i<a+(n-a)) n:=iu λi hi=>by omega
    rw[e];exact eI a (n-a) n
   omega
  ·rw[(aQ _ n).2 h];exact eI a c n
def gF (a:Nat):∀(c n:Nat),a+c<=n->c<=aW (λi=>a<=i/\i<a+c) n
 | 0,_,_=>Nat.zero_le _
 | c+1,n,h=>by
  have h1:=gF a c (a+c) (Nat.le_refl _);have h2:aW (λi=>a<=i/\i<a+(c+1)) (a+c+1)=aW (λi=>a<=i/\i<a+(c+1)) (a+c)+1:=(aQ (λi=>a<=i/\i<a+(c+1)) (a+c)).1 ⟨by omega,by omega⟩;have h3:aW (λi=>a<=i/\i<a+c) (a+c)<=aW (λi=>a<=i/\i<a+(c+1)) (a+c):=bR λi _ q=>⟨q.1,by omega⟩
  have h4:aW (λi=>a<=i/\i<a+(c+1)) (a+c+1)<=aW (λi=>a<=i/\i<a+(c+1)) n:=cT _ (by omega);omega
def ur (h:Nat->Nat) (n c:Nat):∀m,(∀p,p<m->aW (λi=>P i/\h i=p) n<=c)->(∀i,i<n->P i->Q (h i))->aW (λi=>P i/\h i<m) n<=c*aW Q m
 | 0,_,_=>by rw[je λi _ q=>by omega];omega
 | m+1,h1,h2=>by
  have ih:=ur h n c m (λp hp=>h1 p (by omega)) h2;have e:aW (λi=>P i/\h i<m+1) n<=aW (λi=>P i/\h i<m) n+aW (λi=>P i/\h i=m) n:=Nat.le_trans (bR λi _ q=>show (P i/\h i<m)\/(P i/\h i=m) from (Nat.lt_or_ge (h i) m).elim (λa=> .inl ⟨q.1,a⟩) λa=> .inr ⟨q.1,by omega⟩) (jF _ _ n);have h3:=h1 m (by omega);by_cases hq:Q m
  ·rw[(aQ Q m).1 hq,Nat.mul_add,Nat.mul_one];omega
  ·rw[(aQ Q m).2 hq];have:aW (λi=>P i/\h i=m) n=0:=je λi hi q=>hq (q.2▸h2 i hi q.1)
   omega
def xC (h:Nat->Nat) (h0:∀i,i<n->P i->h i<m/\Q (h i)) (h1:∀p,p<m->aW (λi=>P i/\h i=p) n<=c):aW P n<=c*aW Q m:=by
 have e:aW P n=aW (λi=>P i/\h i<m) n:=iu λi hi=>⟨λq=>⟨q,(h0 i hi q).1⟩,λq=>q.1⟩
 rw[e];exact ur h n c m h1 λi hi q=>(h0 i hi q).2
def xB (h:Nat->Nat) (n c:Nat):∀m,(∀p,p<m->Q p->c<=aW (λi=>P i/\h i=p) n)->c*aW Q m<=aW (λi=>P i/\h i<m) n
 | 0,_=>by unfold aW;simp[aG]
 | m+1,h1=>by
  have ih:=xB h n c m λp hp=>h1 p (by omega)
  have e:aW (λi=>P i/\h i<m+1) n=aW (λi=>P i/\h i<m) n+aW (λi=>P i/\h i=m) n:=by
   rw[←pd (λi a b=>by omega)];exact iu λi _=>⟨λq=>(Nat.lt_or_ge (h i) m).elim (λa=> .inl ⟨q.1,a⟩) λa=> .inr ⟨q.1,by omega⟩,λq=>q.elim (λa=>⟨a.1,by omega⟩) λa=>⟨a.1,by omega⟩⟩
  by_cases hq:Q m
  ·have h3:=h1 m (by omega) hq;rw[(aQ Q m).1 hq,Nat.mul_add,Nat.mul_one];omega
  ·rw[(aQ Q m).2 hq];omega
def tv {Z:Nat->Nat->Prop}:∀(m:Nat) {A:Nat->Prop},(∀p,p<n->A p->∃k,k<m/\K k/\Z k p)->(∀k,aW (Z k) n<=c)->aW A n<=c*aW K m
 | 0,A,h,_=>by rw[je λp hp q=>by obtain⟨k,hk,_⟩:=h p hp q;omega];omega
 | m+1,A,h,hz=>by
  by_cases hk:K m
  ·have ih:=tv (Z:=Z) m (A:=λp=>A p/\¬Z m p) (λp hp q=>by
    obtain⟨k,h1,h2,h3⟩:=h p hp q.1;refine⟨k,?_,h2,h3⟩;rcases Nat.lt_or_ge k m with a | a
    ·exact a
    ·have:k=m:=by omega
     subst this;exact absurd h3 q.2) hz
   rw[(aQ K m).1 hk,Nat.mul_add,Nat.mul_one,mB A (Z m) n];have:aW (λi=>A i/\Z m i) n<=aW (Z m) n:=bR λi _ q=>q.2
   have:=hz m;omega
  ·rw[(aQ K m).2 hk];exact tv m (λp hp q=>by
    obtain⟨k,h1,h2,h3⟩:=h p hp q;refine⟨k,?_,h2,h3⟩;rcases Nat.lt_or_ge k m with a | a
    ·exact a
    ·have:k=m:=by omega
     subst this;exact absurd h2 hk) hz
def inj_page (b:Nat->Nat) (c_ p:Nat) (hp:1<=c_) (hb:∀i j,i<n->j<n->b i=b j->i=j):aW (λi=>P i/\b i/c_=p) n<=c_:=by
 have h:=xC (P:=λi=>P i/\b i/c_=p) (Q:=λ_=>True) (n:=n) (m:=c_) (c:=1) (λi=>b i%c_) (λi hi q=>⟨Nat.mod_lt _ (by omega),trivial⟩) (λr hr=>by
  rcases Classical.em (∃a,a<n/\(P a/\b a/c_=p)/\b a%c_=r) with⟨a,ha,h1,h2⟩ | hn
  ·refine kE (a:=a) λi hi q=>hb i a hi ha ?_
   rw[←Nat.div_add_mod (b i) c_,←Nat.div_add_mod (b a) c_,q.1.2,q.2,h1.2,h2]
  ·rw[je λi hi q=>hn ⟨i,hi,q.1,q.2⟩];omega)
 have:=cntP_le (λ_=>True) c_;omega
end
end Go.Proofs.YtmdgfpeglgpiiaaGreatDoor

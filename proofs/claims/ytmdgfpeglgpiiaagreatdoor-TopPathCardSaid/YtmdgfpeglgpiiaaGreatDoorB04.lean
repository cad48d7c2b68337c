import Derived.Deep.RegionLaw
import Derived.Test.YtmdgfpeglgpiiaaGreatDoorB01
set_option linter.all false
set_option maxRecDepth 100000
set_option maxHeartbeats 16000000
namespace Go.Proofs.YtmdgfpeglgpiiaaGreatDoor.Fr
open Vq Oq Go.Proofs.Tryz
open Go.ChangeShapes Go.WideShapes Go.ChangeAt Go.RowKit
structure PS where
 n:Nat
 used:Nat
 aM:Nat
 times:Nat
 tk:Nat->Bool
 bk:List Nat
 wd:Nat->Nat->Nat
def jy (c_:Nat) (s:PS) (i:Nat):Value:= .int .u64 (s.wd (i/c_) (i%c_))
def jZ (s:PS) (i:Nat):Value:= .bool (s.tk i)
def ki (s:PS) (i:Nat):Value:= .int .i64 (s.bk.getD i 0:Nat)
structure iU (b e_ c_:Nat) (s:PS) (aw:Option Addr) (cw:Nat) (at_:Option Addr) (ct:Nat) (ab:Option Addr) (cb:Nat) (w:World):Prop where
 head:w.heap[b]?=some (.cells #[.slice aw (s.n*c_) cw,.slice at_ s.n ct,.slice ab s.bk.length cb,e_,c_,s.used,s.aM,s.times] 327 (0,0))
 d_:bL (b+1) 33 (.slice aw (s.n*c_) cw) (s.n*c_) (jy c_ s) w
 taken:bL (b+1) 4 (.slice at_ s.n ct) s.n (jZ s) w
 back:bL (b+1) 3 (.slice ab s.bk.length cb) s.bk.length (ki s) w
structure PS.ok (e_ c_:Nat) (s:PS):Prop where
 kY:1<=e_/\e_<=4096
 mf:1<=c_/\c_<=256
 uq:s.n<=e_
 less:s.bk.length<=s.n
 used:s.used+s.bk.length=s.n
 aM:s.aM<=4096
 back:∀f,f∈s.bk->f<s.n/\s.tk f=false
 once:s.bk.Nodup
 small:∀f i,s.wd f i<18446744073709551616
def Pl (S:Nat->Prop) (b e_ c_:Nat) (s:PS) (w:World):Prop:=∃aw cw at_ ct ab cb,iU b e_ c_ s aw cw at_ ct ab cb w/\(S b/\(∀a,aw=some a->S a.block)/\(∀a,at_=some a->S a.block)/\∀a,ab=some a->S a.block)/\In S w
def dZ {a:Option Addr} {n c g:Nat} (h:(Value.slice a n c).ownBlock=some g):∃ad,a=some ad/\ad.block=g:=by
 cases a with
 |none=>cases h
 |some ad=>exact⟨ad,rfl,by simpa [Value.ownBlock] using h⟩
def Pl.in {S:Nat->Prop} {b e_ c_:Nat} {s:PS} {w:World} (h:Pl S b e_ c_ s w):In S w:=by obtain⟨_,_,_,_,_,_,_,_,h⟩:=h;exact h
def Pl.keep {S T:Nat->Prop} {b e_ c_:Nat} {s:PS} {w w':World} (h:Pl S b e_ c_ s w) (c:df T w w') (ap:lY S T):Pl S b e_ c_ s w':=by
 obtain⟨aw,cw,at_,ct,ab,cb,hm,⟨s1,s2,s3,s4⟩,hI⟩:=h;have key:∀ {B n k:Nat} {e:TypeId} {a:Option Addr} {c':Nat} {f:Nat->Value},bL B e (.slice a n c') k f w->(∀ad,a=some ad->S ad.block)->bL B e (.slice a n c') k f w':=by intro B n k e a c' f ho hs;refine ho.from λg hg=>?_;obtain⟨ad,rfl,rfl⟩:=dZ hg;exact c.2.2.2.2 ad.block (ho.lt _ hg).2 (λt=>ap _ (hs ad rfl) t)
 exact⟨aw,cw,at_,ct,ab,cb,⟨c.keep hm.head (λt=>ap _ s1 t),key hm.d_ s2,key hm.taken s3,key hm.back s4⟩,⟨s1,s2,s3,s4⟩,hI.mono c.size⟩
def Pl.grow {S:Nat->Prop} {b e_ c_:Nat} {s:PS} {w w':World} (h:Pl S b e_ c_ s w) (c:Below w.heap.size w w'):Pl S b e_ c_ s w':=h.keep (T:=λ_=>False) (df.of c) (λ_ _ h=>h)
def kp (S:Nat->Prop) (b e_ c_:Nat) (s':PS) (w w':World):Prop:=∃S',Pl S' b e_ c_ s' w'/\df S w w'/\eY S S' w
def kp.of {S:Nat->Prop} {b e_ c_:Nat} {s:PS} {w w':World} (hM:Pl S b e_ c_ s w) (h:Below w.heap.size w w'):kp S b e_ c_ s w w':=⟨S,hM.grow h,df.of h,eY.refl _ _⟩
def Up (B:Nat) (S:Nat->Prop):Prop:=∀k,S k->B<=k
variable {b e_ c_:Nat}{s:PS}{aw at_ ab:Option Addr}{cw ct cb:Nat}{w:World}
def uu (hF:iU b e_ c_ s aw cw at_ ct ab cb w) (tO:1<=e_/\e_<=4096) (tY:1<=c_/\c_<=256) (qO:s.n<=e_) (f g:Nat) (hf:f<s.n) (ha:aw=some ⟨g,0,none⟩): WR 326 #[Wz b,f] w (.slice (some ⟨g,f*c_,none⟩) c_ c_) λw'=>w=w':=by
 subst ha;obtain⟨c0,-,-,-,c4,-⟩:=Nc hF.head;obtain⟨-,hcap,hcm,-⟩:=hF.d_.form;obtain⟨Bo,kz⟩:=tO;obtain⟨hp1,hp2⟩:=tY;obtain⟨q,hq⟩:=kw (f*c_);have Bi:(f:Int)*(c_:Int)=q:=by rw[<-hq,ae0]
 have hle:q+c_<=s.n*c_:=by have:=r_ c_ (show f+1<=s.n by omega);rw[ut] at this;omega
 have hmx:s.n*c_<=4096*256:=TI e9 hp2;generalize s.n*c_=N at *;rw[hq];have Hq:=a_ hq;clear hF hq;unfold maxLen at hcm;have h1:(0:Int)<=q:=e9;have h2:(q:Int)<=q+c_:=e9;have h3:(q:Int)+c_<=cw:=e9;have h4:(q:Int)+c_<=1048576:=e9;have h5:¬((q:Int)+c_).toNat=q:=e9;have h6:((q:Int)+c_).toNat-q=c_:=e9;have h7:((q:Int)+c_).toNat=q+c_:=e9;have h8:¬q+c_=q:=e9;have h9:q+c_-q=c_:=e9;go_enter func326,ntmps326;go_wp2;go_ret;exact⟨rfl,rfl⟩
def has (s:PS) (f:Int):Bool:=decide (0<=f/\f<s.n) && s.tk f.toNat
def gx (s:PS) (f:Int):has s f=true↔(0<=f/\f<s.n)/\s.tk f.toNat=true:=by simp[has]
def cM (hF:iU b e_ c_ s aw cw at_ ct ab cb w) (hk:s.ok e_ c_) (f:Int): WR 297 #[Wz b,f] w (.int .i64 (if has s f then 0 else 6)) λw'=>w=w':=by
 have c1:=an hF.head 1 _ rfl;by_cases h1:0<=f
 .by_cases h2:f<s.n
  .obtain⟨f,rfl⟩:∃q:Nat,f=q:=⟨f.toNat,e9⟩;obtain⟨-,-,-,gX,-⟩:=hF.taken.form;obtain⟨g,rfl,-,-⟩:=gX e9;have cf:=hF.taken.cell (show f<s.n by omega);unfold jZ at cf;by_cases h3:s.tk f=true
   .rw[b9 ((gx _ _).2 ⟨⟨h1,h2⟩,h3⟩)];rw[h3] at cf;clear hF hk h3;go_enter func297,ntmps297;go_wp2;go_ret;exact⟨rfl,rfl⟩
   rw[b_ (λh=>h3 ((gx _ _).1 h).2)];rw[show s.tk f=false by simpa using h3] at cf;clear hF hk h3;go_enter func297,ntmps297;go_wp2;go_ret;exact⟨rfl,rfl⟩
  rw[b_ (λh=>h2 ((gx _ _).1 h).1.2)];clear hF hk;go_enter func297,ntmps297;go_wp2;go_ret;exact⟨rfl,rfl⟩
 rw[b_ (λh=>h1 ((gx _ _).1 h).1.1)];clear hF hk;go_enter func297,ntmps297;go_wp2;go_ret;exact⟨rfl,rfl⟩
def gM (c_:Nat) (s:PS) (f at_:Int):Int:=if ¬has s f=true then 6 else if at_<0\/(c_:Int)<=at_ then 11 else 0
def BZ (hF:iU b e_ c_ s aw cw at_ ct ab cb w) (hk:s.ok e_ c_) (f i:Int) (h:gM c_ s f i≠0): WR 332 #[Wz b,f,i] w (.tuple #[.pointer none,(gM c_ s f i:Int)]) λw'=>w=w':=by
 have c4:=an hF.head 4 _ rfl;have Hc:=cM hF hk f;unfold gM at h ⊢;by_cases h1:has s f=true
 .rw[b_ (ro.2 h1)] at h ⊢;rw[b9 h1] at Hc;by_cases h2:i<0\/(c_:Int)<=i
  .rw[b9 h2];replace Hc:=a_ Hc;clear hF hk h h1;rcases h2 with h2|h2
   .go_enter func332,ntmps332;go_wp2_with (go_at_call 297;refine Hc.kq ?_;rintro w1 rfl);go_ret2;exact⟨rfl,rfl⟩
   have h0:¬i<0:=e9;go_enter func332,ntmps332;go_wp2_with (go_at_call 297;refine Hc.kq ?_;rintro w1 rfl);go_ret2;exact⟨rfl,rfl⟩
  rw[b_ h2] at h;exact absurd rfl h
 rw[b9 h1];rw[b_ h1] at Hc;replace Hc:=a_ Hc;clear hF hk h h1;go_enter func332,ntmps332;go_wp2_with (go_at_call 297;refine Hc.kq ?_;rintro w1 rfl);go_ret2;exact⟨rfl,rfl⟩
def yV (hF:iU b e_ c_ s aw cw at_ ct ab cb w) (hk:s.ok e_ c_) (f i g:Nat) (hh:has s f=true) (hi:i<c_) (ha:aw=some ⟨g,0,none⟩): WR 332 #[Wz b,f,i] w (.tuple #[.pointer (some ⟨g,f*c_+i,none⟩),Wy]) λw'=>w=w':=by have c4:=an hF.head 4 _ rfl;have Hc:=cM hF hk f;rw[b9 hh] at Hc;have Hf:=a_ (uu hF hk.kY hk.mf hk.uq f g (by have:=((gx _ _).1 hh).1.2;omega) ha);replace Hc:=a_ Hc;have h0:¬(i:Int)<0:=e9;have h1:¬(c_:Int)<=i:=e9;have h2:(i:Int)<c_:=e9;obtain⟨q,hq⟩:=kw (f*c_);rw[hq] at Hf ⊢;clear hF hk hh hi ha hq;go_enter func332,ntmps332;go_wp2_with (first|(go_at_call 297;refine Hc.kq ?_;rintro w1 rfl)|(go_at_call 326;refine Hf.kq ?_;rintro w1 rfl));go_ret2;exact⟨rfl,rfl⟩
def tD {c_:Nat} {s:PS} {f i:Int} (h:gM c_ s f i=0):has s f=true/\0<=i/\i<c_:=by unfold gM at h;by_cases h1:has s f=true;rw[b_ (ro.2 h1)] at h;by_cases h2:i<0\/(c_:Int)<=i;rw[b9 h2] at h;cases h;exact⟨h1,e9,e9⟩;rw[b9 h1] at h;cases h
def mR {f i c_ n:Nat} (hf:f<n) (hi:i<c_):f*c_+i<n*c_:=by have:=r_ c_ (show f+1<=n by omega);rw[ut] at this;omega
def yT (c_:Nat) (s:PS) (f i:Nat) (hi:i<c_):jy c_ s (f*c_+i)=.int .u64 (s.wd f i):=by
 unfold jy;have h1:(f*c_+i)/c_=f:=by rw[GP,ak6 e9,LE hi,sc]
 have h2:(f*c_+i)%c_=i:=by rw[GP,ak7,wi hi]
 rw[h1,h2]
def index_eq {f i c_ j:Nat} (hi:i<c_):j=f*c_+i↔j/c_=f/\j%c_=i:=by constructor;rintro rfl;exact⟨by rw[GP,ak6 e9,LE hi,sc],by rw[GP,ak7,wi hi]⟩;rintro⟨rfl,rfl⟩;exact (Nat.div_add_mod' j c_).symm
def Bu (c_:Nat) (s:PS) (f i:Int):Nat:=if gM c_ s f i=0 then s.wd f.toNat i.toNat else 0
def load_pl (S:Nat->Prop) (b e_ c_:Nat) (s:PS) (w:World) (hP:Pl S b e_ c_ s w) (hk:s.ok e_ c_) (f i:Int): WR 305 #[Wz b,f,i] w (.tuple #[.int .u64 (Bu c_ s f i),(gM c_ s f i:Int)]) λw'=>w=w':=by
 obtain⟨aw,cw,at_,ct,ab,cb,hF,-,-⟩:=hP;unfold Bu;by_cases h:gM c_ s f i=0
 .obtain⟨h1,h2,h3⟩:=tD h;rw[b9 h,h];have hh:=(gx _ _).1 h1;obtain⟨f,rfl⟩:∃q:Nat,f=q:=⟨f.toNat,e9⟩;obtain⟨i,rfl⟩:∃q:Nat,i=q:=⟨i.toNat,e9⟩;rw[f_,f_];obtain⟨-,-,-,gX,-⟩:=hF.d_.form;have Eu:=mR (show f<s.n by omega) (show i<c_ by omega);obtain⟨g,rfl,-,-⟩:=gX e9;have Hw:=a_ (yV hF hk f i g h1 e9 rfl);have Sg:=hF.d_.cell Eu;rw[yT c_ s f i e9] at Sg;generalize (s.wd f i:Int)=x at *;generalize f*c_+i=q at *;clear h hF hk h1 h2 h3 hh gX Eu;go_enter func305,ntmps305;go_wp2_with (go_at_call 332;refine Hw.kq ?_;rintro w1 rfl);go_ret2;exact⟨rfl,rfl⟩
 rw[b_ h];have Hw:=BZ hF hk f i h;obtain⟨y,hy⟩:=kw (gM c_ s f i);rw[hy] at Hw h ⊢;replace Hw:=a_ Hw;clear hF hk hy;go_enter func305,ntmps305;go_wp2_with (go_at_call 332;refine Hw.kq ?_;rintro w1 rfl);go_ret2;exact⟨rfl,rfl⟩
def wC (s:PS) (f i x:Nat):PS:={s with wd:=λg j=>if g=f/\j=i then x else s.wd g j}
def wJ (c_:Nat) (s:PS) (f i:Int) (x:Nat):PS:=if gM c_ s f i=0 then wC s f.toNat i.toNat x else s
def putW_ok {e_ c_:Nat} {s:PS} (hk:s.ok e_ c_) (f i x:Nat) (hx:x<18446744073709551616):(wC s f i x).ok e_ c_:=⟨hk.kY,hk.mf,hk.uq,hk.less,hk.used,hk.aM,hk.back,hk.once,λg j=>by show (if g=f/\j=i then x else s.wd g j)<_;split;exact hx;exact hk.small g j⟩
def iU.ne {b e_ c_:Nat} {s:PS} {aw at_ ab:Option Addr} {cw ct cb:Nat} {w:World} (h:iU b e_ c_ s aw cw at_ ct ab cb w): (∀a,aw=some a->b<a.block)/\(∀a,at_=some a->b<a.block)/\∀a,ab=some a->b<a.block:=⟨λa e=>by have:=(h.d_.lt a.block (by rw[e];rfl)).1;omega,λa e=>by have:=(h.taken.lt a.block (by rw[e];rfl)).1;omega,λa e=>by have:=(h.back.lt a.block (by rw[e];rfl)).1;omega⟩
def oI:(33:Nat)≠3:=z9
def im:(33:Nat)≠4:=z9
def rH:(4:Nat)≠3:=z9
def iU.put {b e_ c_:Nat} {s:PS} {at_ ab:Option Addr} {cw ct cb g:Nat} {w:World} (h:iU b e_ c_ s (some ⟨g,0,none⟩) cw at_ ct ab cb w) (f i x:Nat) (hi:i<c_): iU b e_ c_ (wC s f i x) (some ⟨g,0,none⟩) cw at_ ct ab cb (w.setCell ⟨g,f*c_+i,none⟩ (.int .u64 x)):=by
 obtain⟨n1,n2,n3⟩:=h.ne;have hb:b≠g:=by have:=n1 _ rfl;simp at this;omega
 refine⟨?_,?_,?_,?_⟩;rw[Gg hb];exact h.head;refine (h.d_.set (f*c_+i) (.int .u64 x)).congr λj hj=>?_;unfold jy wC;have hx:=index_eq (f:=f) (j:=j) hi;by_cases e:j=f*c_+i;rw[b9 e];simp only[];rw[b9 (hx.1 e)];rw[b_ e];simp only[];rw[b_ (λk=>e (hx.2 k))];exact h.taken.from λk hk=>Gg (h.taken.gV h.d_ im.symm hk rfl);exact h.back.from λk hk=>Gg (h.back.gV h.d_ oI.symm hk rfl)
def store_pl (S:Nat->Prop) (b e_ c_:Nat) (s:PS) (w:World) (hP:Pl S b e_ c_ s w) (hk:s.ok e_ c_) (f i:Int) (x:Nat): WR 306 #[Wz b,f,i,.int .u64 x] w (gM c_ s f i:Int) λw'=>kp S b e_ c_ (wJ c_ s f i x) w w':=by
 have HP:=a_ hP;obtain⟨aw,cw,at_,ct,ab,cb,hF,⟨s1,s2,s3,s4⟩,hI⟩:=hP;unfold wJ;by_cases h:gM c_ s f i=0
 .obtain⟨h1,h2,h3⟩:=tD h;rw[b9 h,h];have hh:=(gx _ _).1 h1;obtain⟨f,rfl⟩:∃q:Nat,f=q:=⟨f.toNat,e9⟩;obtain⟨i,rfl⟩:∃q:Nat,i=q:=⟨i.toNat,e9⟩;rw[f_,f_];obtain⟨-,-,-,gX,-⟩:=hF.d_.form;have Eu:=mR (show f<s.n by omega) (show i<c_ by omega);obtain⟨g,rfl,-,-⟩:=gX e9;have Hw:=a_ (yV hF hk f i g h1 e9 rfl);have Sg:=hF.d_.cell Eu;rw[yT c_ s f i e9] at Sg;have fw0:=hF.d_.free (f*c_+i);have xo:=a_ (show kp S b e_ c_ (wC s f i x) w (w.setCell ⟨g,f*c_+i,none⟩ (.int .u64 x)) from ⟨S,⟨_,_,_,_,_,_,hF.put f i x e9,⟨s1,s2,s3,s4⟩,hI.mono (by simp[World.setCell])⟩,(df.refl S w).set (p:=⟨g,f*c_+i,none⟩) (.inl (s2 ⟨g,0,none⟩ rfl)) _,eY.refl _ _⟩);generalize (s.wd f i:Int)=y at *;generalize f*c_+i=q at *;clear h hF hk h1 h2 h3 hh gX Eu s1 s2 s3 s4 hI;go_enter func306,ntmps306;go_wp2_with (go_at_call 332;refine Hw.kq ?_;rintro w1 rfl);go_ret;exact⟨rfl,xo⟩
 rw[b_ h];have Hw:=BZ hF hk f i h;obtain⟨y,hy⟩:=kw (gM c_ s f i);rw[hy] at Hw h ⊢;replace Hw:=a_ Hw;clear hF hk hy s1 s2 s3 s4 hI;go_enter func306,ntmps306;go_wp2_with (go_at_call 332;refine Hw.kq ?_;rintro w1 rfl);go_ret;exact⟨rfl,kp.of HP (Below.refl _ _)⟩
section
variable (S:Nat->Prop)(b e_ c_:Nat)(s:PS)(w:World)(hP:Pl S b e_ c_ s w)
include hP
def page_pl:WR 244 #[Wz b] w c_ λw'=>w=w':=by obtain⟨aw,cw,at_,ct,ab,cb,hF,-,-⟩:=hP;have c:=an hF.head 4 _ rfl;clear hF;go_enter func244,ntmps244;go_wp2;go_ret;exact⟨rfl,rfl⟩
def room_pl:WR 272 #[Wz b] w e_ λw'=>w=w':=by obtain⟨aw,cw,at_,ct,ab,cb,hF,-,-⟩:=hP;have c:=an hF.head 3 _ rfl;clear hF;go_enter func272,ntmps272;go_wp2;go_ret;exact⟨rfl,rfl⟩
def used_pl:WR 161 #[Wz b] w s.used λw'=>w=w':=by obtain⟨aw,cw,at_,ct,ab,cb,hF,-,-⟩:=hP;have c:=an hF.head 5 _ rfl;clear hF;go_enter func161,ntmps161;go_wp2;go_ret;exact⟨rfl,rfl⟩
end
def fP:(prog.info? 3).map (λi=>(i.zero,i.size,i.bytes))=some (some (.int .i64 0),1,8):=ol
def bool_info:(prog.info? 4).map (λi=>(i.zero,i.size,i.bytes))=some (some (.bool false),1,1):=ol
def word_info:(prog.info? 33).map (λi=>(i.zero,i.size,i.bytes))=some (some (.int .u64 0),1,8):=ol
def js (n:Int):Bool:=decide (0<n) && (bits BinOp.and IntKind.i64 n (n-1)==0)
def gj (n:Int) (w:World) (hn:n<=9223372036854775807):WR 263 #[n] w (.bool (js n)) λw'=>w=w':=by
 unfold js;by_cases h:0<n
 .have h1: -9223372036854775808<=n-1:=e9;have h2:n-1<=9223372036854775807:=e9;obtain⟨y,hy⟩:∃y,y=bits BinOp.and IntKind.i64 n (n-1):=⟨_,rfl⟩;rw[<-hy,rc h,SV];have Hy:=a_ hy;clear hy;go_enter func263,ntmps263;go_wp2;go_ret;rw[<-Hy.out];exact⟨rfl,rfl⟩
 rw[g_ h,ac8];go_enter func263,ntmps263;go_wp2;go_ret;exact⟨rfl,rfl⟩
def dp (n:Int):Prop:=n=1\/n=2\/n=4\/n=8\/n=16\/n=32\/n=64\/n=128\/n=256
def BF (n:Int):Bool:=n==1 || n==2 || n==4 || n==8 || n==16 || n==32 || n==64 || n==128 || n==256
def pO (n:Int):BF n=true↔dp n:=by simp[BF,dp,or_assoc]
def uW (n:Int) (h:n<=256):js n=BF n:=by
 by_cases h0:0<n;have key:∀k:Fin 257,js (k.val:Int)=BF (k.val:Int)\/k.val=0:=jp;obtain⟨k,rfl⟩:∃k:Nat,n=k:=⟨n.toNat,e9⟩;rcases key ⟨k,e9⟩ with e|e;exact e;exact absurd e yd;have h1:js n=false:=by unfold js;rw[g_ h0];rfl
 rw[h1];symm;rw[Bool.eq_false_iff];intro h2;have:=(pO n).1 h2;unfold dp at this;omega
def start:PS:=⟨0,0,0,0,λ_=>false,[],λ_ _=>0⟩
def start_ok {e_ c_:Nat} (h1:1<=e_/\e_<=4096) (h2:1<=c_/\c_<=256):start.ok e_ c_:=⟨h1,h2,by simp[start],by simp[start],by simp[start],by simp[start],by simp[start],by simp[start],by simp[start]⟩
def jm {p:Nat} (h:dp p):1<=p/\p<=256:=by unfold dp at h;omega
def iQ (r p:Nat) (w:World) (h1:1<=r) (h2:r<=4096) (h3:dp p): WR 190 #[r,p] w (.tuple #[Wz w.heap.size,Wy]) λw'=>(∃S,Pl S w.heap.size r p start w'/\Up w.heap.size S)/\Below w.heap.size w w':=by
 have hp:=jm h3;have Ga:=gj p w e9;rw[uW p e9,(pO p).2 h3] at Ga;replace Ga:=a_ Ga;have k1:¬(r:Int)<1:=e9;have k2:¬(4096:Int)<r:=e9;have k3:¬(256:Int)<p:=e9;have xo:=a_ (show ∃S,Pl S w.heap.size r p start (w.alloc (.cells #[.slice none 0 0,.slice none 0 0,.slice none 0 0,r,p,Wy,Wy,Wy] 327))/\Up w.heap.size S from ⟨λk=>k=w.heap.size,⟨none,0,none,0,none,0,⟨by
   have:=ls w (.cells #[.slice none 0 0,.slice none 0 0,.slice none 0 0,r,p,Wy,Wy,Wy] 327);rw[this];simp[start],by
   have:=bL.nil (w.heap.size+1) 33 (jy p start) (w.alloc (.cells #[.slice none 0 0,.slice none 0 0,.slice none 0 0,r,p,Wy,Wy,Wy] 327));simpa [start] using this,bL.nil _ _ _ _,bL.nil _ _ _ _⟩,⟨rfl,qr,qr,qr⟩,λk hk=>by subst hk;simp⟩,λk hk=>e9⟩)
 have Hb:=a_ (au w (.cells #[.slice none 0 0,.slice none 0 0,.slice none 0 0,r,p,Wy,Wy,Wy] 327));clear h1 h2 h3 hp;go_enter func190,ntmps190;go_wp2_with (go_at_call 263;refine Ga.kq ?_;rintro w1 rfl);go_ret2;exact⟨rfl,xo,Hb⟩
def AU (s:PS) (f:Int):Int:=if has s f then 0 else 6
def fE (s:PS) (f:Nat):PS:={s with used:=s.used-1,tk:=λi=>if i=f then false else s.tk i,bk:=s.bk++ [f]}
def AV (s:PS) (f:Int):PS:=if has s f then fE s f.toNat else s
def backs_notin {e_ c_:Nat} {s:PS} (hk:s.ok e_ c_) {f:Nat} (h:s.tk f=true):f∉s.bk:=λhf=>by
 have:=(hk.back f hf).2;rw[h] at this;cases this
def nodup_bound {l:List Nat} {n:Nat} (hl:l.Nodup) (hb:∀x,x∈l->x<n):l.length<=n:=by
 induction n generalizing l with
 |zero=>
  cases l with
  |nil=>exact bi _
  |cons a t=>have:=hb a qr;omega
 |succ n ih=>
  have h1:(l.erase n).length<=n:=ih (hl.erase n) λx hx=>(by have hne:x≠n:=λe=>(by subst e;exact (List.Nodup.mem_erase_iff hl).1 hx |>.1 rfl);have:=hb x (List.mem_of_mem_erase hx);omega);have h2:=List.length_erase (a:=n) (l:=l);split at h2<;>omega
def AW {e_ c_:Nat} {s:PS} (hk:s.ok e_ c_) (f:Int) (h:has s f=true):(fE s f.toNat).ok e_ c_/\1<=s.used:=by
 obtain⟨⟨h1,h2⟩,h3⟩:=(gx _ _).1 h;have lV:=backs_notin hk h3;have hu:=hk.used;have hnd:(s.bk++ [f.toNat]).Nodup:=by rw[Fd];refine⟨hk.once,qr,λa ha c hc e=>?_⟩;simp at hc;subst hc;subst e;exact lV ha
 have hlen:=nodup_bound (n:=s.n) hnd (λx hx=>by simp at hx;rcases hx with hx|hx;exact (hk.back x hx).1;omega);simp at hlen;refine⟨⟨hk.kY,hk.mf,hk.uq,?_,?_,hk.aM,λx hx=>?_,hnd,hk.small⟩,e9⟩;show (s.bk++ [f.toNat]).length<=s.n;simpa using hlen;show s.used-1+(s.bk++ [f.toNat]).length=s.n;simp;omega;show x<s.n/\(if x=f.toNat then false else s.tk x)=false;have Dd:x∈s.bk++ [f.toNat]:=hx;simp at Dd;rcases Dd with Dd|Dd;obtain⟨a,c⟩:=hk.back x Dd;exact⟨a,by split<;>simp_all⟩;exact⟨e9,by rw[b9 Dd]⟩
def iU.yD {b e_ c_:Nat} {s:PS} {aw ab:Option Addr} {cw ct cb g:Nat} {w:World} (h:iU b e_ c_ s aw cw (some ⟨g,0,none⟩) ct ab cb w) (f:Nat) (v:Bool): iU b e_ c_ {s with tk:=λi=>if i=f then v else s.tk i} aw cw (some ⟨g,0,none⟩) ct ab cb (w.setCell ⟨g,f,none⟩ (.bool v)):=by
 obtain⟨n1,n2,n3⟩:=h.ne;have hb:b≠g:=by have:=n2 _ rfl;simp at this;omega
 refine⟨?_,?_,?_,?_⟩;rw[Gg hb];exact h.head;exact h.d_.from λk hk=>Gg (h.d_.gV h.taken im hk rfl);refine (h.taken.set f (.bool v)).congr λj hj=>?_;unfold jZ;by_cases e:j=f;simp[e];simp[e];exact h.back.from λk hk=>Gg (h.back.gV h.taken rH.symm hk rfl)
def pushed_back (s:PS) (f:Nat):fh s.bk.length (ki s)++ [Value.int .i64 f]=fh (fE s f).bk.length (ki (fE s f)):=by
 apply E_;intro i;have hl:(fE s f).bk.length=s.bk.length+1:=by simp[fE]
 rw[ah4,cD,dh,dh,hl];have hb:∀i,ki (fE s f) i=.int .i64 ((s.bk++ [f]).getD i 0:Nat):=λ_=>rfl;by_cases h:i<s.bk.length;rw[b9 h,b9 h,iY,hb];unfold ki;rw[ac,ac,rf h];rw[b_ h];by_cases h2:i=s.bk.length;subst h2;rw[iY,hb];simp;rw[cG,DG yd]
def give_end {S:Nat->Prop} {b e_ c_:Nat} {s:PS} {aw ab:Option Addr} {cw ct cb g f g2 eO:Nat} {w w1 w2:World} (hM:iU b e_ c_ {s with tk:=λi=>if i=f then false else s.tk i} aw cw (some ⟨g,0,none⟩) ct ab cb w1)
  (hd:w2.heap[b]?=some (.cells #[.slice aw (s.n*c_) cw,.slice (some ⟨g,0,none⟩) s.n ct,.slice ab s.bk.length cb,e_,c_,s.used,s.aM,s.times] 327 (0,0)))
  (hown:w2.ownsRow (b+1) 3 1 (.slice (some ⟨g2,0,none⟩) (s.bk.length+1) eO) (s.bk.length+1) (fh s.bk.length (ki s)++ [.int .i64 f]))
  (bZ:(w1.alloc (.cells #[f] 3)).grownBy w2 (Value.slice ab s.bk.length cb).ownBlock) (jI:(Value.slice ab s.bk.length cb).ownBlock=some g2\/g2=w1.heap.size+1) (hlt:g2<w2.heap.size)
  (hS:S b/\(∀a,aw=some a->S a.block)/\(∀a,some (⟨g,0,none⟩:Addr)=some a->S a.block)/\∀a,ab=some a->S a.block) (hI:In S w) (kA:w.setCell ⟨g,f,none⟩ (.bool false)=w1) (hu:1<=s.used):
  kp S b e_ c_ (fE s f) w ((w2.setCell ⟨b,2,none⟩ (.slice (some ⟨g2,0,none⟩) (s.bk.length+1) eO)).setCell ⟨b,5,none⟩ (.int .i64 ((s.used:Int)-1))):=by
 obtain⟨s1,s2,s3,s4⟩:=hS;have hsz1:w1.heap.size=w.heap.size:=by rw[<-kA];simp[World.setCell]
 have KP:w1.heap.size+1<=w2.heap.size:=by have:=bZ.size;simpa using this
 have kt:((w2.setCell ⟨b,2,none⟩ (.slice (some ⟨g2,0,none⟩) (s.bk.length+1) eO)).setCell ⟨b,5,none⟩ (.int .i64 ((s.used:Int)-1))).heap.size=w2.heap.size:=by simp[World.setCell]
 have old:∀k,k<w1.heap.size->some k≠(Value.slice ab s.bk.length cb).ownBlock->w2.heap[k]?=w1.heap[k]?:=λk hk hn=>(bZ.block k yd hn).trans (Below.heap_alloc w1 _ k hk);have xR:bL (b+1) 3 (.slice (some ⟨g2,0,none⟩) (fE s f).bk.length eO) (fE s f).bk.length (ki (fE s f)) w2:=by unfold bL;rw[<-pushed_back];have:(fE s f).bk.length=s.bk.length+1:=(by simp[fE]);rw[this];exact hown
 have c1:df S w w1:=by rw[<-kA];exact (df.refl S w).set (p:=⟨g,f,none⟩) (.inl (s3 ⟨g,0,none⟩ rfl)) _
 have c2:df S w w2:=(c1.alloc (.cells #[f] 3)).trans (T:=λk=>S k\/w.heap.size<=k) ⟨bZ.os,bZ.tape,bZ.output,bZ.size,λk hk hn=>bZ.block k hk (λe=>by obtain⟨ad,e1,e2⟩:=dZ e.symm;exact hn (.inl (by rw[<-e2];exact s4 ad e1)))⟩ (λq hq h=>h.resolve_right e9);refine⟨λk=>S k\/k=g2,⟨aw,cw,some ⟨g,0,none⟩,ct,some ⟨g2,0,none⟩,eO,⟨?_,?_,?_,?_⟩,⟨.inl s1,λa h=> .inl (s2 a h),λa h=> .inl (s3 a h),λa h=> .inr (by simp at h;rw[<-h])⟩,?_⟩,?_,?_⟩;rw[rp _ b 5 _ _ _ (rp _ b 2 _ _ _ hd)];have hl:(fE s f).bk.length=s.bk.length+1:=by simp[fE]
 rw[hl,show ((s.used:Int)-1)=((s.used-1:Nat):Int) by omega];rfl;exact (((hM.d_.from (w':=w2) λk hk=>old k (hM.d_.lt k hk).2 (λe=>hM.d_.gV hM.back oI hk e.symm rfl)).dE 2 _).dE 5 _);exact (((hM.taken.from (w':=w2) λk hk=>old k (hM.taken.lt k hk).2 (λe=>hM.taken.gV hM.back rH hk e.symm rfl)).dE 2 _).dE 5 _);exact ((xR.dE 2 _).dE 5 _);intro k hk;rw[kt];rcases hk with h|h;have:=hI k h;omega;omega;exact (c2.set (p:=⟨b,2,none⟩) (.inl s1) _).set (p:=⟨b,5,none⟩) (.inl s1) _;intro k hk;rcases hk with h|h;exact .inl h;subst h;rcases jI with h2|h2;obtain⟨ad,e1,e2⟩:=dZ h2;exact .inl (by rw[<-e2];exact s4 ad e1);exact .inr e9
def give_pl (S:Nat->Prop) (b e_ c_:Nat) (s:PS) (w:World) (hP:Pl S b e_ c_ s w) (hk:s.ok e_ c_) (f:Int): WR 248 #[Wz b,f] w (AU s f:Int) λw'=>kp S b e_ c_ (AV s f) w w':=by
 have HP:=a_ hP;obtain⟨aw,cw,at_,ct,ab,cb,hF,⟨s1,s2,s3,s4⟩,hI⟩:=hP;have Hc:=cM hF hk f;unfold AU AV;by_cases h:has s f=true
 .rw[b9 h,b9 h];rw[b9 h] at Hc;obtain⟨hok,OG⟩:=AW hk f h;obtain⟨⟨h1,h2⟩,h3⟩:=(gx _ _).1 h;obtain⟨f,rfl⟩:∃q:Nat,f=q:=⟨f.toNat,e9⟩;rw[f_] at h3 hok ⊢;obtain⟨-,-,-,gX,-⟩:=hF.taken.form;obtain⟨g,rfl,hg1,wY⟩:=gX e9;have cf:=hF.taken.cell (show f<s.n by omega);have ff:=hF.taken.free f;have tM:=hF.yD f false;generalize kA:w.setCell ⟨g,f,none⟩ (.bool false)=w1 at *;have c1:=an hF.head 1 _ rfl;have d2:=an tM.head 2 _ rfl;have lb:=bf tM.head;obtain⟨i0,hi,hz0,vR,Ae⟩:=BT fP;have dX:=hk.less;have hnr:=hk.uq;have hr:=hk.kY;have KT:=hk.used;have xj:=a_ tM;have HB:=a_ (show w1.ownsRow (b+1) 3 1 (.slice ab s.bk.length cb) s.bk.length (fh s.bk.length (ki s)) from tM.back);obtain⟨HF,tS,Hh⟩:=dF hF hok h;replace Hc:=a_ Hc;have Hw1:=a_ kA;have HS:=a_ (show (S b/\(∀a,aw=some a->S a.block)/\(∀a,some (⟨g,0,none⟩:Addr)=some a->S a.block)/\∀a,ab=some a->S a.block)/\In S w from⟨⟨s1,s2,s3,s4⟩,hI⟩);clear tM hF hok h s1 s2 s3 s4 hI gX hk;go_enter func248,ntmps248;go_wp2_with (first| (go_at_call 297;refine Hc.kq ?_;rintro w2 rfl)| (at_builtin;refine aj2 _ rfl (.tmp 22) (.tmp 24) 58 rfl (b+1) 3 i0 (.int .i64 0) 1 8 underlying58 hi hz0 vR Ae rfl z9 _ _ _ rfl (HB.alloc _) ⟨w1.heap.size,0,none⟩ 1 1 [.int .i64 f] rfl rfl ?c1 ?c2 ?c3 ?c4 ?c5 ?c6 (w1.heap.size+1) ?c7 ?_));case c1=>exact ai8 (ls w1 (.cells #[f] 3))
  case c2=>intro u hu;simp at hu;subst hu;rfl
  case c3=>omega
  case c4=>unfold maxLen;omega
  case c5=>omega
  case c6=>simp;omega
  case c7=>simp
  intro g2 eO w2 hown bZ jI hlt;have hne:some b≠(Value.slice ab s.bk.length cb).ownBlock:=λe=>(by have:=(HB.lt b e.symm).1;omega);have hd:w2.heap[b]?=_:=(bZ.block b yd hne).trans (cQ (au w1 _) (bi _) xj.head);obtain⟨-,-,e2,-,-,e5,-⟩:=JU hd;obtain⟨-,-,g2f,-,-,g5f,-⟩:=afq6 hd;obtain⟨Hd,JI,Dp,RK⟩:=qx hd hown bZ jI;have Wa:(0:Int)<=(s.used:Int)-1:=e9;clear hd hown bZ jI c1 d2 kA cf ff;go_wp2;go_ret;exact⟨rfl,give_end xj Hd JI Dp RK hlt HS.1 HS.2 Hw1 OG⟩
 rw[b_ h,b_ h];rw[b_ h] at Hc;replace Hc:=a_ Hc;clear hF hk h s1 s2 s3 s4 hI;go_enter func248,ntmps248;go_wp2_with (go_at_call 297;refine Hc.kq ?_;rintro w1 rfl);go_ret;exact⟨rfl,kp.of HP (Below.refl _ _)⟩
def kH (s:PS) (l:List Nat):PS:={s with bk:=l}
def fresh_back (S:Nat->Prop) (b e_ c_:Nat) (s:PS) (w:World) (hP:Pl S b e_ c_ s w) (hk:s.ok e_ c_) (l:List Nat) (f:Nat) (hl:s.bk=l++ [f]): WR 325 #[Wz b] w f λw'=>kp S b e_ c_ (kH s l) w w':=by
 obtain⟨aw,cw,at_,ct,ab,cb,hF,⟨s1,s2,s3,s4⟩,hI⟩:=hP;have hlen:s.bk.length=l.length+1:=by rw[hl];simp
 obtain⟨-,PX,hcm,gX,-⟩:=hF.back.form;obtain⟨g,rfl,hg1,wY⟩:=gX e9;have c2:=an hF.head 2 _ rfl;have f2:=br hF.head 2;have cf:=hF.back.cell (show l.length<s.bk.length by omega);have hv:ki s l.length=.int .i64 f:=by unfold ki;rw[hl];simp
 rw[hv] at cf;have hmax:l.length<=4096:=by have:=hk.less;have:=hk.uq;have:=hk.kY;omega
 rw[hlen] at PX;have xo:=a_ (show kp S b e_ c_ (kH s l) w (w.setCell ⟨b,2,none⟩ (.slice (some ⟨g,0,none⟩) l.length cb)) from ⟨S,⟨_,_,_,_,_,_,⟨(rp _ b 2 _ _ _ hF.head).trans rfl,hF.d_.dE 2 _,hF.taken.dE 2 _,(((hF.back.shrink (show l.length<=s.bk.length by omega)).congr λi hi=>by unfold ki;show Value.int .i64 ((s.bk.getD i 0:Nat):Int)=.int .i64 ((l.getD i 0:Nat):Int);rw[hl,ac,ac,rf hi]).dE 2 _)⟩,⟨s1,s2,s3,s4⟩,hI.mono (by simp[World.setCell])⟩,(df.refl S w).set (p:=⟨b,2,none⟩) (.inl s1) _,eY.refl _ _⟩);have Sd:w.cell? ⟨b,2,none⟩=some (.slice (some ⟨g,0,none⟩) (l.length+1) cb):=by rw[c2,<-hlen];rfl
 have hcap0:¬cb=0:=e9;have hcap1:(l.length:Int)<=cb:=e9;clear hF hk hl hv hlen c2 gX s1 s2 s3 s4 hI;go_enter func325,ntmps325;go_wp2;go_ret;exact⟨rfl,xo⟩
def kT (s:PS):PS:={s with n:=s.n+1,tk:=λi=>if i=s.n then false else s.tk i,wd:=λf i=>if f=s.n then 0 else s.wd f i}
def pushed_taken (s:PS):fh s.n (jZ s)++ [Value.bool false]=fh (s.n+1) (jZ (kT s)):=by apply E_;intro i;have hb:jZ (kT s) i=.bool (if i=s.n then false else s.tk i):=rfl;rw[ah4,cD,dh,dh,hb];by_cases h:i<s.n;rw[b9 h,b9 h,iY,cG];rfl;rw[b_ h];by_cases h2:i=s.n;subst h2;rw[iY,b9 rfl];simp;rw[cG,DG yd]
def more_words (c_:Nat) (s:PS) (hp:1<=c_):∀i,i<s.n*c_+c_->(if i<s.n*c_ then jy c_ s i else Value.int .u64 0)=jy c_ (kT s) i:=by intro i hi;have hb:jy c_ (kT s) i=.int .u64 ((if i/c_=s.n then 0 else s.wd (i/c_) (i%c_):Nat):Int):=rfl;rw[hb];by_cases h:i<s.n*c_;rw[b9 h,b_ (by have:=(j_ (show 0<c_ by omega)).2 h;omega)];rfl;rw[b_ h,b9 (by have h1:=(Cq (show 0<c_ by omega)).2 (Nat.not_lt.1 h);have h2:=(j_ (show 0<c_ by omega)).2 (show i<(s.n+1)*c_ by rw[ut];omega);omega)];rfl
def fresh_end {S:Nat->Prop} {b e_ c_:Nat} {s:PS} {aw at_ ab:Option Addr} {cw ct cb g2 eO g3 DK:Nat} {w w2 w3 w4:World} (hM:iU b e_ c_ s aw cw at_ ct ab cb w) (wy:∀k,k<w.heap.size->some k≠(Value.slice at_ s.n ct).ownBlock->w2.heap[k]?=w.heap[k]?) (hown:w2.ownsRow (b+1) 4 1 (.slice (some ⟨g2,0,none⟩) (s.n+1) eO) (s.n+1) (fh s.n (jZ s)++ [.bool false])) (bZ:(w.alloc (.cells #[false] 4)).grownBy w2 (Value.slice at_ s.n ct).ownBlock) (jI:(Value.slice at_ s.n ct).ownBlock=some g2\/g2=w.heap.size+1) (oP:w2.setCell ⟨b,1,none⟩ (.slice (some ⟨g2,0,none⟩) (s.n+1) eO)=w3) (Bf:bL (b+1) 33 (.slice (some ⟨g3,0,none⟩) (s.n*c_+c_) DK) (s.n*c_+c_) (λi=>if i<s.n*c_ then jy c_ s i else .int .u64 0) w4)
  (iz:w3.drew.grownBy w4 (Value.slice aw (s.n*c_) cw).ownBlock) (Gn:(Value.slice aw (s.n*c_) cw).ownBlock=some g3\/g3=w3.drew.heap.size) (Oe:g3<w4.heap.size)
  (Ek:w4.heap[b]?=some (.cells (#[.slice aw (s.n*c_) cw,.slice at_ s.n ct,.slice ab s.bk.length cb,.int .i64 e_,.int .i64 c_,.int .i64 s.used,.int .i64 s.aM,.int .i64 s.times].setIfInBounds 1 (.slice (some ⟨g2,0,none⟩) (s.n+1) eO)) 327 (0,0)))
  (hp:1<=c_) (hS:S b/\(∀a,aw=some a->S a.block)/\(∀a,at_=some a->S a.block)/\∀a,ab=some a->S a.block) (hI:In S w):
  kp S b e_ c_ (kT s) w (w4.setCell ⟨b,0,none⟩ (.slice (some ⟨g3,0,none⟩) (s.n*c_+c_) DK)):=by
 obtain⟨s1,s2,s3,s4⟩:=hS;have KP:w.heap.size+1<=w2.heap.size:=by have:=bZ.size;simpa using this
 have hsz3:w3.heap.size=w2.heap.size:=by rw[<-oP];simp[World.setCell]
 have hsz4:w3.heap.size<=w4.heap.size:=iz.size;have kt:(w4.setCell ⟨b,0,none⟩ (.slice (some ⟨g3,0,none⟩) (s.n*c_+c_) DK)).heap.size=w4.heap.size:=by simp[World.setCell]
 have hmul:(kT s).n*c_=s.n*c_+c_:=by show (s.n+1)*c_=_;rw[ut,WP]
 have ht2:bL (b+1) 4 (.slice (some ⟨g2,0,none⟩) (s.n+1) eO) (s.n+1) (jZ (kT s)) w2:=by unfold bL;rw[<-pushed_taken];exact hown
 have wZ:bL (b+1) 3 (.slice ab s.bk.length cb) s.bk.length (ki s) w2:=hM.back.from λk hk=>wy k (hM.back.lt k hk).2 (λe=>hM.back.gV hM.taken rH.symm hk e.symm rfl);have hw2:bL (b+1) 33 (.slice aw (s.n*c_) cw) (s.n*c_) (jy c_ s) w2:=hM.d_.from λk hk=>wy k (hM.d_.lt k hk).2 (λe=>hM.d_.gV hM.taken im hk e.symm rfl);have Wt:∀ {e n:Nat} {v:Value} {f:Nat->Value},bL (b+1) e v n f w2->bL (b+1) e v n f w3:=λh=>by rw[<-oP];exact h.dE 1 _
 have GH:=Wt hw2;have Wu:∀ {e n:Nat} {v:Value} {f:Nat->Value},33≠e->bL (b+1) e v n f w2->bL (b+1) e v n f w4:=λhe h=>by have h3:=Wt h;exact h3.from λk hk=>iz.block k (h3.lt k hk).2 (λe=>GH.gV h3 he e.symm hk rfl)
 have c2:df S w w2:=((df.refl S w).alloc (.cells #[false] 4)).trans (T:=λk=>S k\/w.heap.size<=k) ⟨bZ.os,bZ.tape,bZ.output,bZ.size,λk hk hn=>bZ.block k hk (λe=>by obtain⟨ad,e1,e2⟩:=dZ e.symm;exact hn (.inl (by rw[<-e2];exact s3 ad e1)))⟩ (λq hq h=>h.resolve_right e9);have c3:df S w w3:=by rw[<-oP];exact c2.set (p:=⟨b,1,none⟩) (.inl s1) _
 have c4:df S w w4:=c3.drew.trans (T:=S) ⟨iz.os,iz.tape,iz.output,iz.size,λk hk hn=>iz.block k hk (λe=>by obtain⟨ad,e1,e2⟩:=dZ e.symm;exact hn (by rw[<-e2];exact s2 ad e1))⟩ (λq hq h=>h);refine⟨λk=>S k\/k=g2\/k=g3,⟨some ⟨g3,0,none⟩,DK,some ⟨g2,0,none⟩,eO,ab,cb,⟨?_,?_,?_,?_⟩,⟨.inl s1,λa h=> .inr (.inr (by simp at h;rw[<-h])),λa h=> .inr (.inl (by simp at h;rw[<-h])),λa h=> .inl (s4 a h)⟩,?_⟩,?_,?_⟩;rw[rp _ b 0 _ _ _ Ek,hmul];rfl;rw[hmul];exact (Bf.congr (more_words c_ s hp)).dE 0 _;exact (Wu im ht2).dE 0 _;exact (Wu oI wZ).dE 0 _;intro k hk;rw[kt];rcases hk with h|h|h;have:=hI k h;omega;have:=(ht2.lt g2 rfl).2;omega;omega;exact c4.set (p:=⟨b,0,none⟩) (.inl s1) _;intro k hk;rcases hk with h|h|h;exact .inl h;subst h;rcases jI with h2|h2;obtain⟨ad,e1,e2⟩:=dZ h2;exact .inl (by rw[<-e2];exact s3 ad e1);exact .inr e9;subst h;rcases Gn with h2|h2;obtain⟨ad,e1,e2⟩:=dZ h2;exact .inl (by rw[<-e2];exact s2 ad e1);have:w3.drew.heap.size=w3.heap.size:=rfl;exact .inr e9
def fresh_new (S:Nat->Prop) (b e_ c_:Nat) (s:PS) (w:World) (hP:Pl S b e_ c_ s w) (hk:s.ok e_ c_) (hl:s.bk=[]) (hn:s.n<e_): WR 325 #[Wz b] w s.n λw'=>kp S b e_ c_ (kT s) w w':=by
 obtain⟨aw,cw,at_,ct,ab,cb,hF,⟨s1,s2,s3,s4⟩,hI⟩:=hP;have hlen:s.bk.length=0:=by rw[hl];rfl
 obtain⟨-,c1,c2,-⟩:=ft hF.head;have lb:=bf hF.head;have hr:=hk.kY;obtain⟨hp1,hp2⟩:=hk.mf;obtain⟨i0,hi,hz0,vR,Ae⟩:=BT bool_info;have HF:=a_ hF;have HS:=a_ (show (S b/\(∀a,aw=some a->S a.block)/\(∀a,at_=some a->S a.block)/\∀a,ab=some a->S a.block)/\In S w from⟨⟨s1,s2,s3,s4⟩,hI⟩);have HB:=a_ (show w.ownsRow (b+1) 4 1 (.slice at_ s.n ct) s.n (fh s.n (jZ s)) from hF.taken);rw[hlen] at c2;clear hF hk hl s1 s2 s3 s4 hI;go_enter func325,ntmps325;go_wp2_with (at_builtin;refine aj2 _ rfl (.tmp 41) (.tmp 42) 216 rfl (b+1) 4 i0 (.bool false) 1 1 underlying216 hi hz0 vR Ae rfl z9 _ _ _ rfl (HB.alloc _) ⟨w.heap.size,0,none⟩ 1 1 [.bool false] rfl rfl ?c1 ?c2 ?c3 ?c4 ?c5 ?c6 (w.heap.size+1) ?c7 ?_);case c1=>exact ai8 (ls w (.cells #[false] 4))
 case c2=>intro u hu;simp at hu;subst hu;rfl
 case c3=>omega
 case c4=>unfold maxLen;omega
 case c5=>omega
 case c6=>simp;omega
 case c7=>simp
 intro g2 eO w2 hown bZ jI hlt;have hne1:some b≠(Value.slice at_ s.n ct).ownBlock:=λe=>by have:=(HB.lt b e.symm).1;omega
 have hd:w2.heap[b]?=_:=(bZ.block b yd hne1).trans (cQ (au w _) (bi _) HF.head);have wy:∀k,k<w.heap.size->some k≠(Value.slice at_ s.n ct).ownBlock->w2.heap[k]?=w.heap[k]?:=λk hk hn=>(bZ.block k yd hn).trans (Below.heap_alloc w _ k hk);have hw2:bL (b+1) 33 (.slice aw (s.n*c_) cw) (s.n*c_) (jy c_ s) w2:=HF.d_.from λk hk=>wy k (HF.d_.lt k hk).2 (λe=>HF.d_.gV HF.taken im hk e.symm rfl);have d1:=an hd 1 _ rfl;have f1:=br hd 1;have KP:w.heap.size+1<=w2.heap.size:=by have:=bZ.size;simpa using this
 obtain⟨w3,oP⟩:=kw (w2.setCell ⟨b,1,none⟩ (.slice (some ⟨g2,0,none⟩) (s.n+1) eO));have Qb:=rp w2 b 1 _ _ (.slice (some ⟨g2,0,none⟩) (s.n+1) eO) hd;rw[oP] at Qb;have hsz3:w3.heap.size=w2.heap.size:=by rw[<-oP];simp[World.setCell]
 have GH:bL (b+1) 33 (.slice aw (s.n*c_) cw) (s.n*c_) (jy c_ s) w3.drew:=by rw[<-oP];exact (hw2.dE 1 _).from λ_ _=>rfl
 obtain⟨i1,hj,sB,oQ,sC⟩:=BT word_info;have hmx:s.n*c_<=4096*256:=TI e9 hp2;obtain⟨g3,DK,w4,hrun,Bf,iz,Gn,Oe⟩:=run_append_made (P:=prog) w3.drew (b+1) 25 3 25 33 .i64 i1 (.int .u64 0) 8 underlying25 underlying3 hj sB oQ sC rfl rfl _ _ _ GH c_ e9 (by unfold maxLen;omega) e9 (by show b+1<=w3.heap.size;omega);obtain⟨a0,-,-,-,a4,-⟩:=Nc Qb;have hne3:some b≠(Value.slice aw (s.n*c_) cw).ownBlock:=λe=>by have:=(hw2.lt b e.symm).1;omega
 have Ek:w4.heap[b]?=_:=(iz.block b (by show b<w3.heap.size;omega) hne3).trans Qb;have e0:=an Ek 0 _ rfl;have g0f:=br Ek 0;obtain⟨JI,Dp,RK,Hown4,Hgrow4,Hat4,Hd4,RT⟩:=xZ hown bZ jI Bf iz Gn Ek oP;have Hold2:=a_ wy;clear hown bZ jI Bf iz Gn hd Qb Ek hw2 GH wy c1 c2;go_wp2;go_region_law ((refine km _ (by rfl) (.tmp 50) (.tmp 54) 25 3 _ (by rfl) (by rfl) _ _ (by rfl) (by rfl) _ w4 hrun ?_));all_goals
  go_wp2;go_ret;exact⟨rfl,fresh_end HF Hold2 JI Dp RK RT Hown4 Hgrow4 Hat4 Oe Hd4 hp1 HS.1 HS.2⟩
def bU (s:PS):Nat:=s.bk.getLast?.getD s.n
def aS (s:PS):PS:=if s.bk=[] then kT s else kH s s.bk.dropLast
def fo (s:PS):PS:={aS s with used:=s.used+1,aM:=max s.aM (s.used+1),times:=s.times+1,tk:=λi=>if i=bU s then true else (aS s).tk i,wd:=λg i=>if g=bU s then 0 else (aS s).wd g i}
def fresh_pl (S:Nat->Prop) (b e_ c_:Nat) (s:PS) (w:World) (hP:Pl S b e_ c_ s w) (hk:s.ok e_ c_) (hu:s.used<e_): WR 325 #[Wz b] w (bU s:Int) λw'=>kp S b e_ c_ (aS s) w w':=by
 unfold bU aS;rcases aa6 s.bk with h|⟨l,f,h⟩;rw[b9 h];have hn:s.n<e_:=by have:=hk.used;rw[h] at this;simp at this;omega
 have:=fresh_new S b e_ c_ s w hP hk h hn;rw[h];exact this;rw[aa7] at h;rw[b_ (by rw[h];simp)];have:=fresh_back S b e_ c_ s w hP hk l f h;rw[h];simpa using this
def yq {e_ c_:Nat} {s:PS} (hk:s.ok e_ c_) (hu:s.used<e_):bU s<(aS s).n/\(aS s).n<=e_:=by
 unfold bU aS;have qO:=hk.uq;rcases aa6 s.bk with h|⟨l,f,h⟩;have hn:s.n<e_:=by have:=hk.used;rw[h] at this;simp at this;omega
 rw[b9 h,h];exact⟨by show s.n<s.n+1;omega,by show s.n+1<=e_;omega⟩;rw[aa7] at h;rw[b_ (by rw[h];simp),h];have:=(hk.back f (by rw[h];simp)).1;exact⟨by show _<s.n;simpa using this,qO⟩
def take_ok {e_ c_:Nat} {s:PS} (hk:s.ok e_ c_) (hu:s.used<e_):(fo s).ok e_ c_:=by
 have hr:=hk.kY;have qO:=hk.uq;have KT:=hk.used;have hh:=hk.aM;rcases aa6 s.bk with h|⟨l,f,h⟩;have hn:s.n<e_:=by have:=hk.used;rw[h] at this;simp at this;omega
 have Bc:aS s=kT s:=by unfold aS;rw[b9 h]
 have zS:(fo s).bk=[]:=by show (aS s).bk=[];rw[Bc];exact h
 have Ab:(fo s).n=s.n+1:=by show (aS s).n=_;rw[Bc];rfl
 rw[h] at KT;simp at KT;refine⟨hr,hk.mf,by rw[Ab];omega,by rw[zS];simp,by rw[zS,Ab];show s.used+1+0=_;omega,?_,by rw[zS];simp,by rw[zS];simp,?_⟩;show max s.aM (s.used+1)<=4096;omega;intro g i;show (if g=bU s then 0 else (aS s).wd g i)<_;rw[Bc];show (if g=bU s then 0 else if g=s.n then 0 else s.wd g i)<_;have:=hk.small g i;split;omega;split<;>omega;rw[aa7] at h;have Bc:aS s=kH s l:=by unfold aS;rw[b_ (by rw[h];simp),h];simp
 have zS:(fo s).bk=l:=by show (aS s).bk=l;rw[Bc];rfl
 have Ab:(fo s).n=s.n:=by show (aS s).n=_;rw[Bc];rfl
 have CZ:bU s=f:=by unfold bU;rw[h];simp
 have hlen:s.bk.length=l.length+1:=by rw[h];simp
 have hnd:=hk.once;rw[h,Fd] at hnd;have hless:=hk.less;refine⟨hr,hk.mf,by rw[Ab];exact qO,by rw[zS,Ab];omega,by rw[zS,Ab];show s.used+1+l.length=_;omega,?_,?_,by rw[zS];exact hnd.1,?_⟩;show max s.aM (s.used+1)<=4096;omega;intro x hx;rw[zS] at hx;rw[Ab];obtain⟨a,c⟩:=hk.back x (by rw[h];simp[hx]);refine⟨a,?_⟩;show (if x=bU s then true else (aS s).tk x)=false;rw[CZ,Bc,b_ (hnd.2.2 x hx f qr)];exact c;intro g i;show (if g=bU s then 0 else (aS s).wd g i)<_;rw[Bc];have:=hk.small g i;split;omega;exact this
def zero_word (w:World):(zeroValue 33).run prog w=.ok (.int .u64 0) w:=ol
def iU.clear {b e_ c_:Nat} {s:PS} {at_ ab:Option Addr} {cw ct cb g:Nat} {w:World} (h:iU b e_ c_ s (some ⟨g,0,none⟩) cw at_ ct ab cb w) (f:Nat) (hp:1<=c_): iU b e_ c_ {s with wd:=λg i=>if g=f then 0 else s.wd g i} (some ⟨g,0,none⟩) cw at_ ct ab cb (w.setCells g (f*c_) (List.replicate c_ (.int .u64 0))):=by
 obtain⟨n1,n2,n3⟩:=h.ne;have hb:b≠g:=by have:=n1 _ rfl;simp at this;omega
 refine⟨?_,?_,?_,?_⟩;rw[ib hb];exact h.head;refine (h.d_.setCells (.int .u64 0) c_ (f*c_)).congr λj hj=>?_;show (if f*c_<=j/\j<f*c_+c_ then Value.int .u64 0 else jy c_ s j)=.int .u64 ((if j/c_=f then 0 else s.wd (j/c_) (j%c_):Nat):Int);have key:(f*c_<=j/\j<f*c_+c_)↔j/c_=f:=by constructor;rintro⟨h1,h2⟩;have a:=(Cq (show 0<c_ by omega)).2 h1;have c:=(j_ (show 0<c_ by omega)).2 (show j<(f+1)*c_ by rw[ut];omega);omega;rintro rfl;have a:=Nat.div_add_mod' j c_;have c:=AC j (show 0<c_ by omega);omega
 by_cases e:j/c_=f;rw[b9 (key.2 e),b9 e];rfl;rw[b_ (λk=>e (key.1 k)),b_ e];rfl;exact h.taken.from λk hk=>ib (h.taken.gV h.d_ im.symm hk rfl) _ _ _;exact h.back.from λk hk=>ib (h.back.gV h.d_ oI.symm hk rfl) _ _ _
def clear_run {b e_ c_:Nat} {s:PS} {at_ ab:Option Addr} {cw ct cb g:Nat} {w:World} (h:iU b e_ c_ s (some ⟨g,0,none⟩) cw at_ ct ab cb w) (f:Nat) (hf:f<s.n) (hp:1<=c_) (ty:TypeId): (Builtin.clear_ #[25] ty #[.slice (some ⟨g,f*c_,none⟩) c_ c_]).run prog w=.ok (.tuple #[]) (w.setCells g (f*c_) (List.replicate c_ (.int .u64 0))):=Lib.run_clear_slice w 25 33 ty (.int .u64 0) underlying25 zero_word rfl rfl g (f*c_) c_ c_ e9 (λj hj=>by have:=h.d_.cell (mR hf hj);rw[this];rfl) (λj hj=>h.d_.free _)
def frame_drew {b e_ c_:Nat} {s:PS} {S:Nat->Prop} {w:World} (h:Pl S b e_ c_ s w) (n:Nat):Pl S b e_ c_ s (w.drewN n):=h.grow ⟨rfl,rfl,rfl,bi _,λ_ _=>rfl⟩
def aA (n:Nat) (w:World):Below w.heap.size w (w.drewN n):=⟨rfl,rfl,rfl,bi _,λ_ _=>rfl⟩
def freshS_used (s:PS):(aS s).used=s.used:=by unfold aS;split<;>rfl
def freshS_high (s:PS):(aS s).aM=s.aM:=by unfold aS;split<;>rfl
def freshS_times (s:PS):(aS s).times=s.times:=by unfold aS;split<;>rfl
def take_full (S:Nat->Prop) (b e_ c_:Nat) (s:PS) (w:World) (hP:Pl S b e_ c_ s w) (hk:s.ok e_ c_) (hu:s.used=e_): WR 293 #[Wz b] w (.tuple #[Wy,(14:Int)]) λw'=>Below w.heap.size w w':=by
 obtain⟨aw,cw,at_,ct,ab,cb,hF,-,-⟩:=hP;obtain⟨-,-,-,c3,-,c5,-⟩:=JU hF.head;rw[hu] at c5;have hr:¬(e_:Int)=0:=by have:=hk.kY;omega
 clear hF hk hu;go_enter func293,ntmps293;go_wp2;go_quiet (fail);go_wp2;go_ret2;exact⟨rfl,aA _ _⟩
def take_end {S S2:Nat->Prop} {b e_ c_:Nat} {s:PS} {LB:Option Addr} {Nm Nl Nj g gt f q:Nat} {w w2 w3 w4 w5 w6:World} (hM:iU b e_ c_ {n:=(aS s).n,used:=(aS s).used,aM:=(aS s).aM,times:=(aS s).times,tk:=λi=>if i=f then true else (aS s).tk i,bk:=(aS s).bk,wd:=λg i=>if g=f then 0 else (aS s).wd g i} (some ⟨g,0,none⟩) Nm (some ⟨gt,0,none⟩) Nl LB Nj w4)
  (IE:w6.heap[b]?=some (.cells ((#[.slice (some ⟨g,0,none⟩) ((aS s).n*c_) Nm,.slice (some ⟨gt,0,none⟩) (aS s).n Nl,.slice LB (aS s).bk.length Nj,.int .i64 e_,.int .i64 c_,.int .i64 s.used,.int .i64 s.aM,.int .i64 s.times].setIfInBounds 5 (.int .i64 ((s.used:Int)+1))).setIfInBounds 7 (.int .i64 ((s.times:Int)+1))) 327 (0,0)))
  (hS:S2 b/\(∀a,some (⟨g,0,none⟩:Addr)=some a->S2 a.block)/\(∀a,some (⟨gt,0,none⟩:Addr)=some a->S2 a.block)/\∀a,LB=some a->S2 a.block) (hI:In S2 w2)
  (hc:df S w w2) (hg:eY S S2 w)
  (h3:w2.setCells g q (List.replicate c_ (.int .u64 0))=w3) (h4:w3.setCell ⟨gt,f,none⟩ (.bool true)=w4) (h5:w4.setCell ⟨b,5,none⟩ (.int .i64 ((s.used:Int)+1))=w5) (h6:w5.setCell ⟨b,7,none⟩ (.int .i64 ((s.times:Int)+1))=w6)
  (hf:bU s=f) (X:Int) (hX:X=max (s.aM:Int) ((s.used:Int)+1)):
  kp S b e_ c_ (fo s) w (w6.setCell ⟨b,6,none⟩ (.int .i64 X)).drew:=by
 obtain⟨s1,s2,s3,s4⟩:=hS;have z3:w3.heap.size=w2.heap.size:=by rw[<-h3];exact mg _ _ _ _
 have z4:w4.heap.size=w3.heap.size:=by rw[<-h4];simp[World.setCell]
 have z5:w5.heap.size=w4.heap.size:=by rw[<-h5];simp[World.setCell]
 have z6:w6.heap.size=w5.heap.size:=by rw[<-h6];simp[World.setCell]
 have z7:(w6.setCell ⟨b,6,none⟩ (.int .i64 X)).drew.heap.size=w6.heap.size:=by show (w6.setCell ⟨b,6,none⟩ (.int .i64 X)).heap.size=_;simp[World.setCell]
 have k3:df S2 w2 w3:=by rw[<-h3];exact df.setCells (.inl (s2 ⟨g,0,none⟩ rfl)) _ _ (df.refl _ _)
 have k4:df S2 w2 w4:=by rw[<-h4];exact k3.set (p:=⟨gt,f,none⟩) (.inl (s3 ⟨gt,0,none⟩ rfl)) _
 have k5:df S2 w2 w5:=by rw[<-h5];exact k4.set (p:=⟨b,5,none⟩) (.inl s1) _
 have k6:df S2 w2 w6:=by rw[<-h6];exact k5.set (p:=⟨b,7,none⟩) (.inl s1) _
 have up:∀ {e n:Nat} {v:Value} {f:Nat->Value},bL (b+1) e v n f w4->bL (b+1) e v n f (w6.setCell ⟨b,6,none⟩ (.int .i64 X)).drew:=λh=>by refine bL.from (w:=w6.setCell ⟨b,6,none⟩ (.int .i64 X)) ?_ (λ_ _=>rfl);rw[<-h6,<-h5];exact ((h.dE 5 _).dE 7 _).dE 6 _
 have hXn:X=((max s.aM (s.used+1):Nat):Int):=e9;refine⟨S2,⟨some ⟨g,0,none⟩,Nm,some ⟨gt,0,none⟩,Nl,LB,Nj,⟨?_,?_,?_,?_⟩,⟨s1,s2,s3,s4⟩,λk hk=>by have:=hI k hk;omega⟩,hc.then ((k6.set (p:=⟨b,6,none⟩) (.inl s1) _).drew) hg,hg⟩;show (w6.setCell ⟨b,6,none⟩ (.int .i64 X)).heap[b]?=_;rw[rp _ b 6 _ _ _ IE,hXn];rfl;exact (up hM.d_).congr λi hi=>by show _=Value.int .u64 ((if i/c_=bU s then 0 else (aS s).wd (i/c_) (i%c_):Nat):Int);rw[hf];rfl
 exact (up hM.taken).congr λi hi=>by show _=Value.bool (if i=bU s then true else (aS s).tk i);rw[hf];rfl
 exact up hM.back
def take_yes (S:Nat->Prop) (b e_ c_:Nat) (s:PS) (w:World) (hP:Pl S b e_ c_ s w) (hk:s.ok e_ c_) (hu:s.used<e_) (ht:s.times<=1000000000000000): WR 293 #[Wz b] w (.tuple #[(bU s:Int),Wy]) λw'=>kp S b e_ c_ (fo s) w w':=by
 have vt:=λW hW=>fresh_pl S b e_ c_ s W hW hk hu;have HP:=a_ hP;obtain⟨hf,hfn⟩:=yq hk hu;obtain⟨f,Kt⟩:=kw (bU s);simp only[Kt] at vt hf ⊢;replace vt:=a_ vt;obtain⟨aw,cw,at_,ct,ab,cb,hF,-,-⟩:=hP;obtain⟨-,-,-,c3,-,c5,-⟩:=JU hF.head;have tO:=hk.kY;have tY:=hk.mf;have hhigh:=hk.aM;have hr:¬(e_:Int)=0:=e9;have hur:¬(s.used:Int)=e_:=e9;have Hfeq:=a_ Kt;have Hf:=a_ (show f<(aS s).n/\(aS s).n<=e_ from⟨hf,hfn⟩);have Wb:s.used<=4096:=e9;clear hF hk Kt hf hfn;go_enter func293,ntmps293;go_wp2;go_quiet (fail);clear c3 c5;have RD:=a_ (frame_drew HP nq);go_wp2_with (go_at_call 325;refine (vt _ RD).kq λw2 hd=>?_);obtain⟨S2,⟨aw2,Nm,at2,Nl,LB,Nj,Kh,wW,Gk⟩,Bb,wY⟩:=hd;obtain⟨hfl,nM⟩:=Hf.out;have hN:f*c_+c_<=(aS s).n*c_:=by have:=r_ c_ (show f+1<=(aS s).n by omega);rw[ut] at this;omega
 obtain⟨-,-,-,gX,-⟩:=Kh.d_.form;obtain⟨g,rfl,-,-⟩:=gX e9;obtain⟨-,-,-,Eo,-⟩:=Kh.taken.form;obtain⟨gt,rfl,-,-⟩:=Eo e9;have Dn:=a_ (uu Kh tO tY nM f g hfl rfl);have nK:=clear_run Kh f hfl tY.1;have LK:=Kh.clear f tY.1;obtain⟨w3,oP⟩:=kw (w2.setCells g (f*c_) (List.replicate c_ (.int .u64 0)));rw[oP] at LK;simp only[oP] at nK;have PQ:=LK.yD f true;have c1:=an LK.head 1 _ rfl;have ctk:=LK.taken.cell (show f<(aS s).n from hfl);have ftk:=LK.taken.free f;obtain⟨w4,Tf⟩:=kw (w3.setCell ⟨gt,f,none⟩ (.bool true));rw[Tf] at PQ;have Ek:w4.heap[b]?=some (.cells #[.slice (some ⟨g,0,none⟩) ((aS s).n*c_) Nm,.slice (some ⟨gt,0,none⟩) (aS s).n Nl,.slice LB (aS s).bk.length Nj,e_,c_,s.used,s.aM,s.times] 327 (0,0)):=by have:=PQ.head;rw[<-freshS_used s,<-freshS_high s,<-freshS_times s];exact this
 have Qc:=rp w4 b 5 _ _ (.int .i64 ((s.used:Int)+1)) Ek;have IE:=rp (w4.setCell ⟨b,5,none⟩ (.int .i64 ((s.used:Int)+1))) b 7 _ _ (.int .i64 ((s.times:Int)+1)) Qc;have c5:=an Ek 5 _ rfl;have f5:=br Ek 5;have c7:=an Qc 7 _ rfl;have f7:=br Qc 7;obtain⟨-,-,-,-,-,UO,UP,-⟩:=eX IE;have f66:=br IE 6;obtain⟨w5,Wc⟩:=kw (w4.setCell ⟨b,5,none⟩ (.int .i64 ((s.used:Int)+1)));obtain⟨w6,Qw⟩:=kw (w5.setCell ⟨b,7,none⟩ (.int .i64 ((s.times:Int)+1)));rw[Wc] at c7 f7 UO UP f66 IE;rw[Qw] at UO UP f66 IE;have uA:(f:Int)<(aS s).n:=e9;have Hpack:=a_ (show iU b e_ c_ _ _ _ _ _ _ _ w4 from PQ);obtain⟨Fx,FU,Hc2,Hg2,RT,Hw4,Hw5,Hw6⟩:=xZ wW Gk Bb wY oP Tf Wc Qw;have Hd6:=a_ IE;have LZ:(0:Int)<=(f:Int):=e9;clear Kh LK PQ wW Gk Bb wY oP Ek Qc IE gX Eo hN hfl nM;obtain⟨N,Sw⟩:=kw ((aS s).n);rw[Sw] at c1 uA;have HN:=a_ Sw;clear Sw;obtain⟨q,hq⟩:=kw (f*c_);rw[hq] at Dn nK;clear hq;refine Dn.kq ?_;rintro w7 rfl;go_wp2;go_region_law (fail);all_goals
  go_wp2;all_goals
   go_ret2;exact⟨rfl,take_end Hpack Hd6 Fx FU (df.trans (df.of (aA _ w)) Hc2 (λ_ _ h=>h)) (eY.trans (eY.refl S w) Hg2 (bi _)) RT Hw4 Hw5 Hw6 Hfeq _ (by first|omega|(rename_i hmx;omega))⟩
def tm (e_:Nat) (s:PS):Int×Int:=if s.used=e_ then (0,14) else (bU s,0)
def yI (e_:Nat) (s:PS):PS:=if s.used=e_ then s else fo s
def wM {e_ c_:Nat} {s:PS} (hk:s.ok e_ c_):s.used<=e_:=by have:=hk.used;have:=hk.uq;omega
def take_pl (S:Nat->Prop) (b e_ c_:Nat) (s:PS) (w:World) (hP:Pl S b e_ c_ s w) (hk:s.ok e_ c_) (ht:s.times<=1000000000000000): WR 293 #[Wz b] w (.tuple #[.int .i64 (tm e_ s).1,.int .i64 (tm e_ s).2]) λw'=>kp S b e_ c_ (yI e_ s) w w':=by unfold tm yI;by_cases h:s.used=e_;rw[b9 h,b9 h];exact (take_full S b e_ c_ s w hP hk h).mono λe w' ⟨he,hb⟩=>⟨he,kp.of hP hb⟩;rw[b_ h,b_ h];exact take_yes S b e_ c_ s w hP hk (by have:=wM hk;omega) ht
def UI (W0:World) (b e_ c_:Nat) (s:PS) (w:World):Prop:=∃S,Pl S b e_ c_ s w/\Up W0.heap.size S/\Below W0.heap.size W0 w
variable {W0:World}
def new_ps (r p:Nat) (w:World) (h1:1<=r) (h2:r<=4096) (h3:dp p): WR 190 #[r,p] w (.tuple #[Wz w.heap.size,Wy]) λw'=>UI w w.heap.size r p start w':=(iQ r p w h1 h2 h3).mono λe w' ⟨he,⟨S,m,u⟩,hb⟩=>⟨he,S,m,u,hb⟩
def has_take {e_ c_:Nat} {s:PS} (hk:s.ok e_ c_) (hu:s.used<e_) (g:Int):has (fo s) g=(decide (g=bU s) || has s g)/\has s (bU s)=false:=by
 rcases aa6 s.bk with h|⟨l,f,h⟩;have Bc:aS s=kT s:=by unfold aS;rw[b9 h]
 have CZ:bU s=s.n:=by unfold bU;rw[h];rfl
 have hn:(fo s).n=s.n+1:=by show (aS s).n=_;rw[Bc];rfl
 have ht:∀i,(fo s).tk i=if i=s.n then true else s.tk i:=λi=>by show (if i=bU s then true else (aS s).tk i)=_;rw[CZ,Bc];show (if i=s.n then true else if i=s.n then false else s.tk i)=_;split<;>rfl
 refine⟨?_,?_⟩;unfold has;rw[hn,ht,CZ];by_cases h0:0<=g;by_cases h1:g=s.n;subst h1;simp;omega;have h2:¬g.toNat=s.n:=e9;have h3:(0<=g/\g<((s.n+1:Nat):Int))↔(0<=g/\g<(s.n:Int)):=e9;rw[b_ h2,g_ h1,ac0];simp only[h3];rw[dP,dP,dP];rfl;unfold has;rw[CZ,dP];rfl;rw[aa7] at h;have Bc:aS s=kH s l:=by unfold aS;rw[b_ (by rw[h];simp),h];simp
 have CZ:bU s=f:=by unfold bU;rw[h];simp
 have hn:(fo s).n=s.n:=by show (aS s).n=_;rw[Bc];rfl
 obtain⟨hfn,hft⟩:=hk.back f (by rw[h];simp);have ht:∀i,(fo s).tk i=if i=f then true else s.tk i:=λi=>by show (if i=bU s then true else (aS s).tk i)=_;rw[CZ,Bc];rfl
 refine⟨?_,?_⟩;unfold has;rw[hn,ht,CZ];by_cases h1:g=f;subst h1;simp;omega;by_cases h0:0<=g;have h2:¬g.toNat=f:=e9;rw[b_ h2,g_ h1,ac0];rw[dP,dP];rfl;unfold has;rw[CZ,f_,hft];simp
def wd_take {e_ c_:Nat} {s:PS} (hk:s.ok e_ c_) (hu:s.used<e_) (g i:Nat) (hg:g≠bU s) (hn:g<s.n):(fo s).wd g i=s.wd g i:=by show (if g=bU s then 0 else (aS s).wd g i)=_;rw[b_ hg];unfold aS;split;show (if g=s.n then 0 else s.wd g i)=_;rw[cG];rfl
def take_zero (s:PS) (i:Nat):(fo s).wd (bU s) i=0:=by show (if bU s=bU s then 0 else _)=0;rw[b9 rfl]
def has_give (s:PS) (f g:Int) (h0:0<=f):has (fE s f.toNat) g=(!decide (g=f) && has s g):=by unfold has;show (decide (0<=g/\g<(s.n:Int)) && if g.toNat=f.toNat then false else s.tk g.toNat)=_;by_cases e:g=f;subst e;rw[b9 rfl];simp;by_cases h1:0<=g;rw[cG,g_ e];simp;rw[dP];simp
end Go.Proofs.YtmdgfpeglgpiiaaGreatDoor.Fr

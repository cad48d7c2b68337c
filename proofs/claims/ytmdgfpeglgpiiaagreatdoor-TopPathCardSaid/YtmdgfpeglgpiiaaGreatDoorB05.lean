import Derived.Test.YtmdgfpeglgpiiaaGreatDoorB03
import Derived.Test.YtmdgfpeglgpiiaaGreatDoorB04
set_option linter.all false
set_option maxRecDepth 100000
set_option maxHeartbeats 16000000
namespace Go.Proofs.YtmdgfpeglgpiiaaGreatDoor.Pg
open Vq Oq Go.Proofs.Tryz
open Go.ChangeShapes Go.WideShapes Go.ChangeAt Go.RowKit
def cZ (F:Nat->Nat) (i:Nat):Nat->Nat
 |0=>0
 |j+1=>cZ F i j+if F (i*256+j)=0 then 0 else 1
def eB (F:Nat->Nat) (i:Nat):Array Value:=((List.range 256).map λj=>Value.int .u32 (F (i*256+j))).toArray.push (.int .i64 (cZ F i 256))
def ptr (o:Option Nat):Value:= .pointer (o.map λk=>⟨k,0,none⟩)
def dy (F:Nat->Nat):Nat->Nat
 |0=>0
 |i+1=>dy F i+cZ F i 256
structure ja (b tb np:Nat) (ts:List (Option Nat)) (F:Nat->Nat) (w:World):Prop where
 head:w.heap[b]?=some (.cells #[.slice (some ⟨tb,0,none⟩) ts.length ts.length,np,(dy F ts.length:Int)] 343 (0,0))
 row:w.heap[tb]?=some (.cells (ts.map ptr).toArray 389 (0,0))
 many:ts.length*256<=524288+255/\np<=ts.length*256
 none:∀i,i<ts.length->ts.getD i none=Option.none->∀j,j<256->F (i*256+j)=0
 some:∀i k,i<ts.length->ts.getD i Option.none=Option.some k->w.heap[k]?=Option.some (.cells (eB F i) 392 (0,0))/\0<cZ F i 256
 apart:∀i j k,i<ts.length->j<ts.length->ts.getD i Option.none=Option.some k->ts.getD j Option.none=Option.some k->i=j
 small:∀p,F p<4294967296
def eN (F:Nat->Nat) (i j:Nat) (h:j<256):(eB F i)[j]?=some (.int .u32 (F (i*256+j))):=by unfold eB;rw[Array.getElem?_push];simp[h];omega
def oC {b tb np:Nat} {ts:List (Option Nat)} {F:Nat->Nat} {w:World} (h:ja b tb np ts F w) {i:Nat} (hi:i<ts.length):w.cell? ⟨tb,i,none⟩=some (ptr (ts.getD i none)):=an h.row i _ (by simp[hi])
def get_any (b tb np:Nat) (ts:List (Option Nat)) (F:Nat->Nat) (w:World) (hM:ja b tb np ts F w) (i j:Nat) (hi:i<ts.length) (hj:j<256): WR 324 #[Wz b,((i*256+j:Nat):Int)] w (.int .u32 (F (i*256+j))) λw'=>w=w':=by
 have c0:=an hM.head 0 _ rfl;have ci:=oC hM hi;have hm:=hM.many.1;have hq:((i*256+j:Nat):Int)/256=i:=e9;have hr:((i*256+j:Nat):Int)%256=j:=e9;have tY:(0:Int)<=((i*256+j:Nat):Int):=e9;have hp1:((i*256+j:Nat):Int)<=1000000:=e9;cases ht:ts.getD i none with
 |none=>
  have hz:=hM.none i hi ht j hj;rw[hz];rw[ht] at ci;unfold ptr at ci;simp only[ak8] at ci;clear hM hz ht;generalize ((i*256+j:Nat):Int)=p at *;go_enter func324,ntmps324;go_wp2;go_ret;exact⟨rfl,rfl⟩
 |some k=>
  have cj:=an (hM.some i k hi ht).1 j _ (eN F i j hj);rw[ht] at ci;unfold ptr at ci;simp only[GW] at ci;clear hM ht;generalize F (i*256+j)=x at *;generalize ((i*256+j:Nat):Int)=p at *;go_enter func324,ntmps324;go_wp2;go_ret;exact⟨rfl,rfl⟩
def mc (np:Nat) (xs:List Int):Int:=if ∀j,j<xs.length->0<=xs.getD j 0/\xs.getD j 0<np then 0 else 11
def in_any (b tb np l:Nat) (ts:List (Option Nat)) (F:Nat->Nat) (xs:List Int) (w:World) (hM:ja b tb np ts F w) (hx:∀j,j<xs.length->w.cell? ⟨l,j,none⟩=some (.int .i64 (xs.getD j 0))) (hl:xs.length<=64): WR 323 #[Wz b,.slice (some ⟨l,0,none⟩) xs.length xs.length] w (mc np xs:Int) λw'=>w=w':=by
 have c1:=an hM.head 1 _ rfl;have Hx:=a_ hx;obtain⟨r,hr⟩:=kw (mc np xs);rw[hr];have Hr:=a_ hr;clear hx hM hr;go_enter func323,ntmps323;go_wp2;go_loopw [11] (λi wr=>∃(m:Nat),i=.int .i64 m/\m<=xs.length/\(∀j,j<m->0<=xs.getD j 0/\xs.getD j 0<np)/\wr=w) (λi _=>xs.length-(intOf i).toNat);exact⟨0,rfl,e9,e9,rfl⟩;obtain⟨m,rfl,hm,hall,rfl⟩:=hrel;have Dm:=a_ hall;clear hall;by_cases hlt:m<xs.length
 .have cm:=Hx m hlt;obtain⟨x,FK⟩:=kw (xs.getD m 0);rw[FK] at cm;have JK:=a_ FK;clear FK;by_cases hbad:x<0\/(np:Int)<=x
  .have hc:mc np xs=11:=(by unfold mc;rw[b_];intro h;have:=h m hlt;rw[JK.out] at this;omega);obtain rfl:r=11:=Hr.symm.trans hc;clear hc Hr;rcases hbad with h1|h1
   .go_wp2;go_ret;exact⟨rfl,rfl⟩
   have h0:¬x<0:=e9;go_wp2;go_ret;exact⟨rfl,rfl⟩
  have h0:¬x<0:=e9;have h1:¬(np:Int)<=x:=e9;go_wp2;go_roundw;exact⟨m+1,by go_num,e9,λj hj=>by by_cases e:j=m;rw[e,JK.out];omega;exact Dm j e9,trivial⟩;simp[intOf];omega
 obtain rfl:xs.length=m:=e9;have hc:mc np xs=0:=b9 Dm;obtain rfl:r=0:=Hr.symm.trans hc;clear hc Hr;go_wp2;go_ret;exact⟨rfl,rfl⟩
def turn (F:Nat->Nat) (p x:Nat):Nat->Nat:=λq=>if q=p then x else F q
def rO {F G:Nat->Nat} {i m:Nat} (h:∀j,j<m->G (i*256+j)=F (i*256+j)):cZ G i m=cZ F i m:=by
 induction m with
 |zero=>rfl
 |succ m ih=>simp only[cZ];rw[ih (λj hj=>h j e9),h m e9]
def rP {F:Nat->Nat} {i j x m:Nat} (hj:j<m) (hx:x≠0) (h0:F (i*256+j)=0):cZ (turn F (i*256+j) x) i m=cZ F i m+1:=by
 induction m with
 |zero=>omega
 |succ m ih=>
  simp only[cZ];by_cases e:j=m;subst e;rw[rO (F:=F) (λq hq=>by unfold turn;rw[cG])];have:turn F (i*256+j) x (i*256+j)=x:=b9 rfl;rw[this,b_ hx,b9 h0];rw[ih e9];have:turn F (i*256+j) x (i*256+m)=F (i*256+m):=cG;rw[this];omega
def ph {F:Nat->Nat} {i j m:Nat} (hj:j<m) (h0:F (i*256+j)≠0):cZ (turn F (i*256+j) 0) i m+1=cZ F i m:=by
 induction m with
 |zero=>omega
 |succ m ih=>
  simp only[cZ];by_cases e:j=m;subst e;rw[rO (F:=F) (λq hq=>by unfold turn;rw[cG])];have:turn F (i*256+j) 0 (i*256+j)=0:=b9 rfl;rw[this,b9 rfl,b_ h0];have:=ih e9;have e2:turn F (i*256+j) 0 (i*256+m)=F (i*256+m):=cG;rw[e2];omega
def eP {F:Nat->Nat} {i i' j x:Nat} (hj:j<256) (h:i'≠i):cZ (turn F (i*256+j) x) i' 256=cZ F i' 256:=rO λq hq=>by unfold turn;rw[cG]
def yH {F:Nat->Nat} {i j x m:Nat} (hi:i<m) (hj:j<256) (hx:x≠0) (h0:F (i*256+j)=0):dy (turn F (i*256+j) x) m=dy F m+1:=by
 have below:∀q,q<=i->dy (turn F (i*256+j) x) q=dy F q:=by
  intro q;induction q with
  |zero=>intro _;rfl
  |succ q ih=>intro h;simp only[dy];rw[ih e9,eP hj e9]
 induction m with
 |zero=>omega
 |succ m ih=>
  simp only[dy];by_cases e:i=m;subst e;rw[below i e9,rP hj hx h0];omega;rw[ih e9,eP hj e9];omega
def vc {F:Nat->Nat} {i j m:Nat} (hi:i<m) (hj:j<256) (h0:F (i*256+j)≠0):dy (turn F (i*256+j) 0) m+1=dy F m:=by
 have below:∀q,q<=i->dy (turn F (i*256+j) 0) q=dy F q:=by
  intro q;induction q with
  |zero=>intro _;rfl
  |succ q ih=>intro h;simp only[dy];rw[ih e9,eP hj e9]
 induction m with
 |zero=>omega
 |succ m ih=>
  simp only[dy];by_cases e:i=m;subst e;rw[below i e9];have:=ph (m:=256) hj h0;omega;have:=ih e9;rw[eP hj e9];omega
def bE (F:Nat->Nat) (i m:Nat):cZ F i m<=m:=by
 induction m with
 |zero=>exact bi _
 |succ m ih=>simp only[cZ];split<;>omega
def wK (F:Nat->Nat) (m:Nat):dy F m<=256*m:=by
 induction m with
 |zero=>exact bi _
 |succ m ih=>have:=bE F m 256;simp only[dy];omega
def gn (F:Nat->Nat) (i:Nat):(eB F i)[256]?=some (.int .i64 (cZ F i 256)):=by unfold eB;rw[Array.getElem?_push];simp
def set_there (b tb np:Nat) (ts:List (Option Nat)) (F:Nat->Nat) (w:World) (hM:ja b tb np ts F w) (i j k x:Nat) (hi:i<ts.length) (hj:j<256) (hk:ts.getD i none=some k) (hx:x≠0) (jl:x<4294967296) (h0:F (i*256+j)=0): WR 296 #[Wz b,((i*256+j:Nat):Int),.int .u32 x] w (.tuple #[]) λw'=>w'=((w.setCell ⟨k,j,none⟩ (.int .u32 x)).setCell ⟨k,256,none⟩ (.int .i64 (cZ F i 256+1))).setCell ⟨b,2,none⟩ (.int .i64 (dy F ts.length+1)):=by
 obtain⟨c0,-,c2,-⟩:=ft hM.head;have f2:=br hM.head 2;have ci:=oC hM hi;have hm:=hM.many.1;have hq:((i*256+j:Nat):Int)/256=i:=e9;have hr:((i*256+j:Nat):Int)%256=j:=e9;have tY:(0:Int)<=((i*256+j:Nat):Int):=e9;have hp1:((i*256+j:Nat):Int)<=1000000:=e9;have hT:=(hM.some i k hi hk).1;have cj:=an hT j _ (eN F i j hj);have cn:=an hT 256 _ (gn F i);have fj:=br hT j;have fn:=br hT 256;have tL:k≠b:=by intro e;have h1:=hM.head;rw[<-e,hT] at h1;simp at h1
 have Th:¬(x:Int)=0:=e9;have PX:cZ F i 256<=1000000:=by have:=bE F i 256;omega
 have Tb:dy F ts.length<=1000000000:=by have:=wK F ts.length;omega
 rw[hk] at ci;unfold ptr at ci;simp only[GW] at ci;clear hM hk hT;generalize F (i*256+j)=y at *;generalize ((i*256+j:Nat):Int)=p at *;generalize cZ F i 256=cn0 at *;generalize dy F ts.length=To at *;go_enter func296,ntmps296;go_wp2;go_end0;exact⟨rfl,rfl⟩
def lg {F:Nat->Nat} {i j x:Nat} (hj:j<256) (n:Nat) (hn:cZ (turn F (i*256+j) x) i 256=n): ((eB F i).setIfInBounds j (.int .u32 x)).setIfInBounds 256 (.int .i64 n)=eB (turn F (i*256+j) x) i:=by
 apply Array.ext_getElem?;intro q;rw[If,If];have hsz:(eB F i).size=257:=by simp[eB]
 have KP:(eB (turn F (i*256+j) x) i).size=257:=by simp[eB]
 by_cases h:256=q;subst h;rw[b9 rfl,gn,hn];simp[hsz];rw[b_ h];by_cases h2:j=q;subst h2;rw[b9 rfl,eN _ _ _ hj];have:turn F (i*256+j) x (i*256+j)=x:=b9 rfl;rw[this];simp[hsz];omega;rw[b_ h2];by_cases hq:q<256;rw[eN _ _ _ hq,eN _ _ _ hq];have:turn F (i*256+j) x (i*256+q)=F (i*256+q):=cG;rw[this];rw[Id e9,Id e9]
def ie {F:Nat->Nat} {i i' j x:Nat} (hj:j<256) (h:i'≠i):eB (turn F (i*256+j) x) i'=eB F i':=by unfold eB;rw[eP hj h];congr 2;apply s_;intro q hq;have:turn F (i*256+j) x (i'*256+q)=F (i'*256+q):=b_ (by simp at hq;omega);rw[this]
def ja.put_there {b tb np:Nat} {ts:List (Option Nat)} {F:Nat->Nat} {w:World} (hM:ja b tb np ts F w) {i j k x:Nat} (hi:i<ts.length) (hj:j<256) (hk:ts.getD i Option.none=Option.some k) (hx:x≠0) (jl:x<4294967296) (h0:F (i*256+j)=0): ja b tb np ts (turn F (i*256+j) x) (((w.setCell ⟨k,j,Option.none⟩ (.int .u32 x)).setCell ⟨k,256,Option.none⟩ (.int .i64 (cZ F i 256+1))).setCell ⟨b,2,Option.none⟩ (.int .i64 (dy F ts.length+1))):=by
 have hT:=(hM.some i k hi hk).1;have tL:k≠b:=by intro e;have h1:=hM.head;rw[<-e,hT] at h1;simp at h1
 have FI:tb≠k:=by intro e;have h1:=hM.row;rw[e,hT] at h1;simp at h1
 have qY:tb≠b:=by intro e;have h1:=hM.row;rw[e,hM.head] at h1;simp at h1
 have hs:=yH (F:=F) (m:=ts.length) hi hj hx h0;have hc:=rP (F:=F) (m:=256) hj hx h0;have bp:((w.setCell ⟨k,j,Option.none⟩ (.int .u32 x)).setCell ⟨k,256,Option.none⟩ (.int .i64 (cZ F i 256+1))).heap[b]?=Option.some (.cells #[.slice (Option.some ⟨tb,0,Option.none⟩) ts.length ts.length,np,(dy F ts.length:Int)] 343 (0,0)):=by rw[Below.heap_setCell _ ⟨k,256,Option.none⟩ _ b (λe=>tL e.symm),Below.heap_setCell _ ⟨k,j,Option.none⟩ _ b (λe=>tL e.symm)];exact hM.head
 refine⟨?_,?_,hM.many,?_,?_,hM.apart,?_⟩;rw[rp _ b 2 _ _ _ bp,hs];simp;rw[Below.heap_setCell _ ⟨b,2,Option.none⟩ _ tb qY,Below.heap_setCell _ ⟨k,256,Option.none⟩ _ tb FI,Below.heap_setCell _ ⟨k,j,Option.none⟩ _ tb FI];exact hM.row;intro i' nN hn q hq;have hne:i'≠i:=by intro e;rw[e,hk] at hn;simp at hn
 have:turn F (i*256+j) x (i'*256+q)=F (i'*256+q):=cG;rw[this];exact hM.none i' nN hn q hq;intro i' k' nN jj;by_cases e:i'=i;subst e;obtain rfl:k=k':=by rw[hk] at jj;simpa using jj
 refine⟨?_,e9⟩;rw[Below.heap_setCell _ ⟨b,2,Option.none⟩ _ k tL,rp _ k 256 _ _ _ (rp _ k j _ _ _ hT),show ((cZ F i' 256:Int)+1)=((cZ F i' 256+1:Nat):Int) by omega,lg hj _ hc];have hne:k'≠k:=λe2=>e (hM.apart i' i k nN hi (by rw[<-e2];exact jj) hk);have ux:=hM.some i' k' nN jj;have zX:k'≠b:=by intro e;have h1:=hM.head;rw[<-e,ux.1] at h1;simp at h1
 rw[ie hj e,eP hj e,Below.heap_setCell _ ⟨b,2,Option.none⟩ _ k' zX,Below.heap_setCell _ ⟨k,256,Option.none⟩ _ k' hne,Below.heap_setCell _ ⟨k,j,Option.none⟩ _ k' hne];exact ux;intro p;unfold turn;split;exact jl;exact hM.small p
def set_clear (b tb np:Nat) (ts:List (Option Nat)) (F:Nat->Nat) (w:World) (hM:ja b tb np ts F w) (i j k:Nat) (hi:i<ts.length) (hj:j<256) (hk:ts.getD i none=some k) (h0:F (i*256+j)≠0) (hc:1<cZ F i 256): WR 296 #[Wz b,((i*256+j:Nat):Int),.int .u32 0] w (.tuple #[]) λw'=>w'=((w.setCell ⟨k,j,none⟩ (.int .u32 0)).setCell ⟨k,256,none⟩ (.int .i64 ((cZ F i 256:Int)-1))).setCell ⟨b,2,none⟩ (.int .i64 ((dy F ts.length:Int)-1)):=by
 obtain⟨c0,-,c2,-⟩:=ft hM.head;have f2:=br hM.head 2;have ci:=oC hM hi;have hm:=hM.many.1;have hq:((i*256+j:Nat):Int)/256=i:=e9;have hr:((i*256+j:Nat):Int)%256=j:=e9;have tY:(0:Int)<=((i*256+j:Nat):Int):=e9;have hp1:((i*256+j:Nat):Int)<=1000000:=e9;have hT:=(hM.some i k hi hk).1;have cj:=an hT j _ (eN F i j hj);have cn:=an hT 256 _ (gn F i);have fj:=br hT j;have fn:=br hT 256;have tL:k≠b:=by intro e;have h1:=hM.head;rw[<-e,hT] at h1;simp at h1
 have PX:cZ F i 256<=1000000:=by have:=bE F i 256;omega
 have Tb:dy F ts.length<=1000000000:=by have:=wK F ts.length;omega
 rw[hk] at ci;unfold ptr at ci;simp only[GW] at ci;clear hM hk hT;clear h0;generalize F (i*256+j)=y at *;generalize ((i*256+j:Nat):Int)=p at *;generalize cZ F i 256=cn0 at *;generalize dy F ts.length=To at *;go_enter func296,ntmps296;go_wp2;go_end0;exact⟨rfl,rfl⟩
def set_last (b tb np:Nat) (ts:List (Option Nat)) (F:Nat->Nat) (w:World) (hM:ja b tb np ts F w) (i j k:Nat) (hi:i<ts.length) (hj:j<256) (hk:ts.getD i none=some k) (h0:F (i*256+j)≠0) (hc:cZ F i 256=1): WR 296 #[Wz b,((i*256+j:Nat):Int),.int .u32 0] w (.tuple #[]) λw'=>w'=(((w.setCell ⟨k,j,none⟩ (.int .u32 0)).setCell ⟨k,256,none⟩ (.int .i64 ((cZ F i 256:Int)-1))).setCell ⟨b,2,none⟩ (.int .i64 ((dy F ts.length:Int)-1))).setCell ⟨tb,i,none⟩ (.pointer none):=by
 obtain⟨c0,-,c2,-⟩:=ft hM.head;have f2:=br hM.head 2;have ci:=oC hM hi;have fi:=br hM.row i;have FI:tb≠k:=by intro e;have h1:=hM.row;rw[e,(hM.some i k hi hk).1] at h1;simp at h1
 have qY:tb≠b:=by intro e;have h1:=hM.row;rw[e,hM.head] at h1;simp at h1
 have hm:=hM.many.1;have hq:((i*256+j:Nat):Int)/256=i:=e9;have hr:((i*256+j:Nat):Int)%256=j:=e9;have tY:(0:Int)<=((i*256+j:Nat):Int):=e9;have hp1:((i*256+j:Nat):Int)<=1000000:=e9;have hT:=(hM.some i k hi hk).1;have cj:=an hT j _ (eN F i j hj);have cn:=an hT 256 _ (gn F i);have fj:=br hT j;have fn:=br hT 256;have tL:k≠b:=by intro e;have h1:=hM.head;rw[<-e,hT] at h1;simp at h1
 have PX:cZ F i 256<=1000000:=by have:=bE F i 256;omega
 have Tb:dy F ts.length<=1000000000:=by have:=wK F ts.length;omega
 rw[hk] at ci;unfold ptr at ci;simp only[GW] at ci;clear hM hk hT;clear h0;generalize F (i*256+j)=y at *;generalize ((i*256+j:Nat):Int)=p at *;rw[hc] at *;generalize dy F ts.length=To at *;go_enter func296,ntmps296;go_wp2;go_end0;exact⟨rfl,rfl⟩
def ja.clear_there {b tb np:Nat} {ts:List (Option Nat)} {F:Nat->Nat} {w:World} (hM:ja b tb np ts F w) {i j k:Nat} (hi:i<ts.length) (hj:j<256) (hk:ts.getD i Option.none=Option.some k) (h0:F (i*256+j)≠0) (hc1:1<cZ F i 256): ja b tb np ts (turn F (i*256+j) 0) (((w.setCell ⟨k,j,Option.none⟩ (.int .u32 0)).setCell ⟨k,256,Option.none⟩ (.int .i64 ((cZ F i 256:Int)-1))).setCell ⟨b,2,Option.none⟩ (.int .i64 ((dy F ts.length:Int)-1))):=by
 have hT:=(hM.some i k hi hk).1;have tL:k≠b:=by intro e;have h1:=hM.head;rw[<-e,hT] at h1;simp at h1
 have FI:tb≠k:=by intro e;have h1:=hM.row;rw[e,hT] at h1;simp at h1
 have qY:tb≠b:=by intro e;have h1:=hM.row;rw[e,hM.head] at h1;simp at h1
 have hs:=vc (F:=F) (m:=ts.length) hi hj h0;have hc:=ph (F:=F) (m:=256) hj h0;have bp:((w.setCell ⟨k,j,Option.none⟩ (.int .u32 0)).setCell ⟨k,256,Option.none⟩ (.int .i64 ((cZ F i 256:Int)-1))).heap[b]?=Option.some (.cells #[.slice (Option.some ⟨tb,0,Option.none⟩) ts.length ts.length,np,(dy F ts.length:Int)] 343 (0,0)):=by rw[Below.heap_setCell _ ⟨k,256,Option.none⟩ _ b (λe=>tL e.symm),Below.heap_setCell _ ⟨k,j,Option.none⟩ _ b (λe=>tL e.symm)];exact hM.head
 refine⟨?_,?_,hM.many,?_,?_,hM.apart,?_⟩;rw[rp _ b 2 _ _ _ bp,show ((dy F ts.length:Int)-1)=(dy (turn F (i*256+j) 0) ts.length:Nat) by omega];simp;rw[Below.heap_setCell _ ⟨b,2,Option.none⟩ _ tb qY,Below.heap_setCell _ ⟨k,256,Option.none⟩ _ tb FI,Below.heap_setCell _ ⟨k,j,Option.none⟩ _ tb FI];exact hM.row;intro i' nN hn q hq;have hne:i'≠i:=by intro e;rw[e,hk] at hn;simp at hn
 have:turn F (i*256+j) 0 (i'*256+q)=F (i'*256+q):=cG;rw[this];exact hM.none i' nN hn q hq;intro i' k' nN jj;by_cases e:i'=i;subst e;obtain rfl:k=k':=by rw[hk] at jj;simpa using jj
 refine⟨?_,e9⟩;rw[Below.heap_setCell _ ⟨b,2,Option.none⟩ _ k tL,rp _ k 256 _ _ _ (rp _ k j _ _ _ hT),show ((cZ F i' 256:Int)-1)=(cZ (turn F (i'*256+j) 0) i' 256:Nat) by omega];have ht:=lg (F:=F) (i:=i') (x:=0) hj _ rfl;rw[<-ht];rfl;have hne:k'≠k:=λe2=>e (hM.apart i' i k nN hi (by rw[<-e2];exact jj) hk);have ux:=hM.some i' k' nN jj;have zX:k'≠b:=by intro e;have h1:=hM.head;rw[<-e,ux.1] at h1;simp at h1
 rw[ie hj e,eP hj e,Below.heap_setCell _ ⟨b,2,Option.none⟩ _ k' zX,Below.heap_setCell _ ⟨k,256,Option.none⟩ _ k' hne,Below.heap_setCell _ ⟨k,j,Option.none⟩ _ k' hne];exact ux;intro p;unfold turn;split;omega;exact hM.small p
def cnt_zero {F:Nat->Nat} {i m:Nat} (h:cZ F i m=0):∀j,j<m->F (i*256+j)=0:=by
 induction m with
 |zero=>intro j hj;omega
 |succ m ih=>
  intro j hj;simp only[cZ] at h;by_cases e:j=m;subst e;by_cases h0:F (i*256+j)=0;exact h0;rw[b_ h0] at h;omega;exact ih e9 j e9
def fO {ts:List (Option Nat)} {i i':Nat} {o:Option Nat} (hi:i<ts.length):(ts.set i o).getD i' Option.none=if i'=i then o else ts.getD i' Option.none:=by rw[ac,I'];by_cases h:i'=i;subst h;simp[hi];rw[b_ (λe=>h e.symm),b_ h,ac]
def ja.clear_last {b tb np:Nat} {ts:List (Option Nat)} {F:Nat->Nat} {w:World} (hM:ja b tb np ts F w) {i j k:Nat} (hi:i<ts.length) (hj:j<256) (hk:ts.getD i Option.none=Option.some k) (h0:F (i*256+j)≠0) (hc1:cZ F i 256=1) (v1 v2:Value): ja b tb np (ts.set i Option.none) (turn F (i*256+j) 0) ((((w.setCell ⟨k,j,Option.none⟩ v1).setCell ⟨k,256,Option.none⟩ v2).setCell ⟨b,2,Option.none⟩ (.int .i64 ((dy F ts.length:Int)-1))).setCell ⟨tb,i,Option.none⟩ (.pointer Option.none)):=by
 have hT:=(hM.some i k hi hk).1;have tL:k≠b:=by intro e;have h1:=hM.head;rw[<-e,hT] at h1;simp at h1
 have FI:tb≠k:=by intro e;have h1:=hM.row;rw[e,hT] at h1;simp at h1
 have qY:tb≠b:=by intro e;have h1:=hM.row;rw[e,hM.head] at h1;simp at h1
 have hs:=vc (F:=F) (m:=ts.length) hi hj h0;have hc:=ph (F:=F) (m:=256) hj h0;have hz:=cnt_zero (F:=turn F (i*256+j) 0) (i:=i) (m:=256) e9;have bp:((w.setCell ⟨k,j,Option.none⟩ v1).setCell ⟨k,256,Option.none⟩ v2).heap[b]?=Option.some (.cells #[.slice (Option.some ⟨tb,0,Option.none⟩) ts.length ts.length,np,(dy F ts.length:Int)] 343 (0,0)):=by rw[Below.heap_setCell _ ⟨k,256,Option.none⟩ _ b (λe=>tL e.symm),Below.heap_setCell _ ⟨k,j,Option.none⟩ _ b (λe=>tL e.symm)];exact hM.head
 have Bo:(((w.setCell ⟨k,j,Option.none⟩ v1).setCell ⟨k,256,Option.none⟩ v2).setCell ⟨b,2,Option.none⟩ (.int .i64 ((dy F ts.length:Int)-1))).heap[tb]?=Option.some (.cells (ts.map ptr).toArray 389 (0,0)):=by rw[Below.heap_setCell _ ⟨b,2,Option.none⟩ _ tb qY,Below.heap_setCell _ ⟨k,256,Option.none⟩ _ tb FI,Below.heap_setCell _ ⟨k,j,Option.none⟩ _ tb FI];exact hM.row
 refine⟨?_,?_,by rw[p_];exact hM.many,?_,?_,?_,?_⟩;rw[Below.heap_setCell _ ⟨tb,i,Option.none⟩ _ b (λe=>qY e.symm),rp _ b 2 _ _ _ bp,p_,show ((dy F ts.length:Int)-1)=(dy (turn F (i*256+j) 0) ts.length:Nat) by omega];simp;rw[rp _ tb i _ _ _ Bo];simp[Z',ptr];intro i' nN hn q hq;by_cases e:i'=i;subst e;exact hz q hq;rw[fO hi,b_ e] at hn;rw[p_] at nN;have:turn F (i*256+j) 0 (i'*256+q)=F (i'*256+q):=cG;rw[this];exact hM.none i' nN hn q hq;intro i' k' nN jj;rw[p_] at nN;rw[fO hi] at jj;by_cases e:i'=i;rw[b9 e] at jj;cases jj;rw[b_ e] at jj;have hne:k'≠k:=λe2=>e (hM.apart i' i k nN hi (by rw[<-e2];exact jj) hk);have ux:=hM.some i' k' nN jj;have zX:k'≠b:=by intro e;have h1:=hM.head;rw[<-e,ux.1] at h1;simp at h1
 have Kx:k'≠tb:=by intro e;have h1:=hM.row;rw[<-e,ux.1] at h1;simp at h1
 rw[ie hj e,eP hj e,Below.heap_setCell _ ⟨tb,i,Option.none⟩ _ k' Kx,Below.heap_setCell _ ⟨b,2,Option.none⟩ _ k' zX,Below.heap_setCell _ ⟨k,256,Option.none⟩ _ k' hne,Below.heap_setCell _ ⟨k,j,Option.none⟩ _ k' hne];exact ux;intro p q r hp hq h1 h2;rw[p_] at hp hq;rw[fO hi] at h1 h2;by_cases e1:p=i;rw[b9 e1] at h1;cases h1;by_cases e2:q=i;rw[b9 e2] at h2;cases h2;rw[b_ e1] at h1;rw[b_ e2] at h2;exact hM.apart p q r hp hq h1 h2;intro p;unfold turn;split;omega;exact hM.small p
def iF:Array Value:=eB (λ_=>0) 0
def zero_table (w:World):(zeroValue 392).run prog w=.ok (.agg iF) w:=ol
def pj (i m:Nat):cZ (λ_=>0) i m=0:=by
 induction m with
 |zero=>rfl
 |succ m ih=>simp[cZ,ih]
def vg (j:Nat) (h:j<256):iF[j]?=some (.int .u32 0):=eN _ _ j h
def tzero_size:iF.size=257:=by simp[iF,eB]
def qa:iF[256]?=some (.int .i64 0):=by have:=gn (λ_=>0) 0;rw[pj] at this;exact this
def set_new (b tb np:Nat) (ts:List (Option Nat)) (F:Nat->Nat) (w:World) (hM:ja b tb np ts F w) (i j x:Nat) (hi:i<ts.length) (hj:j<256) (hk:ts.getD i none=none) (hx:x≠0) (jl:x<4294967296): WR 296 #[Wz b,((i*256+j:Nat):Int),.int .u32 x] w (.tuple #[]) λw'=>w'=((w.setCell ⟨tb,i,none⟩ (.pointer (some ⟨w.heap.size,0,none⟩))).setCell ⟨b,2,none⟩ (.int .i64 (dy F ts.length+1))).alloc (.cells ((iF.setIfInBounds j (.int .u32 x)).setIfInBounds 256 (.int .i64 1)) 392):=by
 obtain⟨c0,-,c2,-⟩:=ft hM.head;have f2:=br hM.head 2;have ci:=oC hM hi;have fi:=br hM.row i;have hm:=hM.many.1;have hq:((i*256+j:Nat):Int)/256=i:=e9;have hr:((i*256+j:Nat):Int)%256=j:=e9;have tY:(0:Int)<=((i*256+j:Nat):Int):=e9;have hp1:((i*256+j:Nat):Int)<=1000000:=e9;have qY:tb≠b:=by intro e;have h1:=hM.row;rw[e,hM.head] at h1;simp at h1
 have hT:=ls w (.cells iF 392);have cj:=an hT j _ (vg j hj);have cn:=an hT 256 _ qa;have fj:=br hT j;have fn:=br hT 256;have hB:=au w (.cells iF 392);have ltb:=bf hM.row;have lb:=bf hM.head;have tL:w.heap.size≠b:=e9;have FI:w.heap.size≠tb:=e9;have hkt':tb≠w.heap.size:=e9;have d0:=bA hB (bi _) c0;have d2:=bA hB (bi _) c2;have e2:=(hB.frozen (p:=⟨b,2,none⟩) lb).trans f2;have di:=bA hB (bi _) ci;have ei:=(hB.frozen (p:=⟨tb,i,none⟩) ltb).trans fi;have Th:¬(x:Int)=0:=e9;have Tb:dy F ts.length<=1000000000:=by have:=wK F ts.length;omega
 rw[hk] at ci di;unfold ptr at ci di;simp only[ak8] at ci di;have hbld:=zero_table;have hz:=vg j hj;have vR:(iF.setIfInBounds j (.int .u32 x))[256]?=some (.int .i64 0):=by rw[If,cG];exact qa
 have Ae:((iF.setIfInBounds j (.int .u32 x)).setIfInBounds 256 (.int .i64 1))[256]?=some (.int .i64 1):=by rw[If,b9 rfl,b9 (by simp[tzero_size])]
 clear hM hk hT hB;generalize ((i*256+j:Nat):Int)=p at *;generalize dy F ts.length=To at *;go_enter func296,ntmps296;go_wp2;go_end0;exact⟨rfl,rfl⟩
def tn {F:Nat->Nat} {i:Nat} (h:∀j,j<256->F (i*256+j)=0):eB F i=iF:=by
 unfold iF eB;have hc:cZ F i 256=cZ (λ_=>0) 0 256:=by
  have:∀m,m<=256->cZ F i m=0:=by
   intro m;induction m with
   |zero=>intro _;rfl
   |succ m ih=>intro hm;simp[cZ,ih e9,h m e9]
  rw[this 256 (bi _),pj]
 rw[hc];congr 2;apply s_;intro q hq;rw[h q (by simpa using hq)]
def ja.put_new {b tb np:Nat} {ts:List (Option Nat)} {F:Nat->Nat} {w:World} (hM:ja b tb np ts F w) {i j x:Nat} (hi:i<ts.length) (hj:j<256) (hk:ts.getD i Option.none=Option.none) (hx:x≠0) (jl:x<4294967296): ja b tb np (ts.set i (Option.some w.heap.size)) (turn F (i*256+j) x) (((w.setCell ⟨tb,i,Option.none⟩ (.pointer (Option.some ⟨w.heap.size,0,Option.none⟩))).setCell ⟨b,2,Option.none⟩ (.int .i64 (dy F ts.length+1))).alloc (.cells ((iF.setIfInBounds j (.int .u32 x)).setIfInBounds 256 (.int .i64 1)) 392)):=by
 have qY:tb≠b:=by intro e;have h1:=hM.row;rw[e,hM.head] at h1;simp at h1
 have hzero:=hM.none i hi hk;have h0:=hzero j hj;have hs:=yH (F:=F) (m:=ts.length) hi hj hx h0;have hc:=rP (F:=F) (m:=256) hj hx h0;have ks:cZ F i 256=0:=by have:=gn F i;rw[tn hzero,qa] at this;simpa using this.symm
 have hsz:((w.setCell ⟨tb,i,Option.none⟩ (.pointer (Option.some ⟨w.heap.size,0,Option.none⟩))).setCell ⟨b,2,Option.none⟩ (.int .i64 (dy F ts.length+1))).heap.size=w.heap.size:=by simp[World.setCell]
 have old:∀k,k<w.heap.size->k≠b->k≠tb->(((w.setCell ⟨tb,i,Option.none⟩ (.pointer (Option.some ⟨w.heap.size,0,Option.none⟩))).setCell ⟨b,2,Option.none⟩ (.int .i64 (dy F ts.length+1))).alloc (.cells ((iF.setIfInBounds j (.int .u32 x)).setIfInBounds 256 (.int .i64 1)) 392)).heap[k]?=w.heap[k]?:=by intro k hk h1 h2;rw[Below.heap_alloc _ _ k e9,Below.heap_setCell _ ⟨b,2,Option.none⟩ _ k h1,Below.heap_setCell _ ⟨tb,i,Option.none⟩ _ k h2]
 have bp:(w.setCell ⟨tb,i,Option.none⟩ (.pointer (Option.some ⟨w.heap.size,0,Option.none⟩))).heap[b]?=Option.some (.cells #[.slice (Option.some ⟨tb,0,Option.none⟩) ts.length ts.length,np,(dy F ts.length:Int)] 343 (0,0)):=by rw[Below.heap_setCell _ ⟨tb,i,Option.none⟩ _ b (λe=>qY e.symm)];exact hM.head
 have lb:=bf hM.head;have lt:=bf hM.row;refine⟨?_,?_,by rw[p_];exact hM.many,?_,?_,?_,?_⟩;rw[Below.heap_alloc _ _ b e9,rp _ b 2 _ _ _ bp,p_,hs];simp;rw[Below.heap_alloc _ _ tb e9,Below.heap_setCell _ ⟨b,2,Option.none⟩ _ tb qY,rp _ tb i _ _ _ hM.row];simp[Z',ptr];intro i' nN hn q hq;rw[p_] at nN;by_cases e:i'=i;rw[fO hi,b9 e] at hn;cases hn;rw[fO hi,b_ e] at hn;have:turn F (i*256+j) x (i'*256+q)=F (i'*256+q):=cG;rw[this];exact hM.none i' nN hn q hq;intro i' k' nN jj;rw[p_] at nN;rw[fO hi] at jj;by_cases e:i'=i;rw[b9 e] at jj;obtain rfl:w.heap.size=k':=by simpa using jj
 subst e;refine⟨?_,e9⟩;have:=ls ((w.setCell ⟨tb,i',Option.none⟩ (.pointer (Option.some ⟨w.heap.size,0,Option.none⟩))).setCell ⟨b,2,Option.none⟩ (.int .i64 (dy F ts.length+1))) (.cells ((iF.setIfInBounds j (.int .u32 x)).setIfInBounds 256 (.int .i64 1)) 392);rw[hsz] at this;rw[this,<-tn hzero,show (1:Int)=((1:Nat):Int) from rfl,lg hj 1 e9];rw[b_ e] at jj;have ux:=hM.some i' k' nN jj;have zX:k'≠b:=by intro e;have h1:=hM.head;rw[<-e,ux.1] at h1;simp at h1
 have Kx:k'≠tb:=by intro e;have h1:=hM.row;rw[<-e,ux.1] at h1;simp at h1
 rw[ie hj e,eP hj e,old k' (bf ux.1) zX Kx];exact ux;intro p q r hp hq h1 h2;rw[p_] at hp hq;rw[fO hi] at h1 h2;by_cases e1:p=i;by_cases e2:q=i;omega;rw[b9 e1] at h1;rw[b_ e2] at h2;have:=bf (hM.some q r hq h2).1;simp at h1;omega;rw[b_ e1] at h1;by_cases e2:q=i;rw[b9 e2] at h2;have:=bf (hM.some p r hp h1).1;simp at h2;omega;rw[b_ e2] at h2;exact hM.apart p q r hp hq h1 h2;intro p;unfold turn;split;exact jl;exact hM.small p
def Mp (S:Nat->Prop) (b np:Nat) (F:Nat->Nat) (w:World):Prop:=∃tb ts,ja b tb np ts F w/\(S b/\S tb/\∀i k,i<ts.length->ts.getD i none=some k->S k)/\In S w/\ts.length=(np+255)/256
def Mp.in {S:Nat->Prop} {b np:Nat} {F:Nat->Nat} {w:World} (h:Mp S b np F w):In S w:=by obtain⟨_,_,_,_,h,_⟩:=h;exact h
def Mp.keep {S T:Nat->Prop} {b np:Nat} {F:Nat->Nat} {w w':World} (h:Mp S b np F w) (c:df T w w') (a:lY S T):Mp S b np F w':=by obtain⟨tb,ts,hM,⟨s1,s2,s3⟩,hI,hl⟩:=h;exact⟨tb,ts,⟨c.keep hM.head (λt=>a _ s1 t),c.keep hM.row (λt=>a _ s2 t),hM.many,hM.none,λi k hi hk=>⟨c.keep (hM.some i k hi hk).1 (λt=>a _ (s3 i k hi hk) t),(hM.some i k hi hk).2⟩,hM.apart,hM.small⟩,⟨s1,s2,s3⟩,hI.mono c.size,hl⟩
def Mp.grow {S:Nat->Prop} {b np:Nat} {F:Nat->Nat} {w w':World} (h:Mp S b np F w) (c:Below w.heap.size w w'):Mp S b np F w':=h.keep (T:=λ_=>False) (df.of c) (λ_ _ h=>h)
def Fj (S:Nat->Prop) (b np:Nat) (F:Nat->Nat) (w:World) (hM:Mp S b np F w) (p x:Nat) (hp:p<np) (jl:x<4294967296) (hx:x=0↔F p≠0): WR 296 #[Wz b,p,.int .u32 x] w (.tuple #[]) λw'=>∃S',Mp S' b np (turn F p x) w'/\df S w w'/\eY S S' w:=by
 obtain⟨tb,ts,hM,⟨s1,s2,s3⟩,hI,hl⟩:=hM;have hm:=hM.many;obtain⟨i,j,hi,hj,rfl⟩:∃i j,i<ts.length/\j<256/\p=i*256+j:=⟨p/256,p%256,e9,e9,e9⟩;by_cases h0:x=0;subst h0;have hF:=hx.1 rfl;cases hk:ts.getD i none with
 |none=>exact absurd (hM.none i hi hk j hj) hF
 |some k=>
  have hc:=(hM.some i k hi hk).2;by_cases h1:cZ F i 256=1;refine (set_last b tb np ts F w hM i j k hi hj hk hF h1).kq ?_;rintro w' rfl;refine⟨rfl,S,⟨tb,_,hM.clear_last hi hj hk hF h1 _ _,⟨s1,s2,?_⟩,?_,by rw[p_];exact hl⟩,?_,eY.refl _ _⟩;intro i' k' nN jj;rw[p_] at nN;rw[fO hi] at jj;split at jj;cases jj;exact s3 i' k' nN jj;exact hI.mono (by simp[World.setCell]);exact ((((df.refl S w).set (.inl (s3 i k hi hk)) _).set (.inl (s3 i k hi hk)) _).set (.inl s1) _).set (.inl s2) _;refine (set_clear b tb np ts F w hM i j k hi hj hk hF e9).kq ?_;rintro w' rfl;refine⟨rfl,S,⟨tb,_,hM.clear_there hi hj hk hF e9,⟨s1,s2,s3⟩,hI.mono (by simp[World.setCell]),hl⟩,?_,eY.refl _ _⟩;exact (((df.refl S w).set (.inl (s3 i k hi hk)) _).set (.inl (s3 i k hi hk)) _).set (.inl s1) _
 have hF:F (i*256+j)=0:=by apply L_;intro h;exact h0 (hx.2 h)
 cases hk:ts.getD i none with
 |none=>
  refine (set_new b tb np ts F w hM i j x hi hj hk h0 jl).kq ?_;rintro w' rfl;refine⟨rfl,λk=>S k\/k=w.heap.size,⟨tb,_,hM.put_new hi hj hk h0 jl,⟨.inl s1,.inl s2,?_⟩,?_,by rw[p_];exact hl⟩,?_,?_⟩;intro i' k' nN jj;rw[p_] at nN;rw[fO hi] at jj;split at jj;right;simpa using jj.symm;exact .inl (s3 i' k' nN jj);intro q hq;rcases hq with a|a;have:=hI q a;simp[World.setCell];omega;simp[World.setCell];omega;exact (((df.refl S w).set (.inl s2) _).set (.inl s1) _).alloc _;intro q hq;rcases hq with a|a;exact .inl a;exact .inr e9
 |some k=>
  refine (set_there b tb np ts F w hM i j k x hi hj hk h0 jl hF).kq ?_;rintro w' rfl;refine⟨rfl,S,⟨tb,_,hM.put_there hi hj hk h0 jl hF,⟨s1,s2,s3⟩,hI.mono (by simp[World.setCell]),hl⟩,?_,eY.refl _ _⟩;exact (((df.refl S w).set (.inl (s3 i k hi hk)) _).set (.inl (s3 i k hi hk)) _).set (.inl s1) _
def ag (S:Nat->Prop) (b np:Nat) (F':Nat->Nat) (w w':World):Prop:=∃S',Mp S' b np F' w'/\df S w w'/\eY S S' w
def ag.of {S:Nat->Prop} {b np:Nat} {F:Nat->Nat} {w w':World} (hM:Mp S b np F w) (h:Below w.heap.size w w'):ag S b np F w w':=⟨S,hM.grow h,df.of h,eY.refl _ _⟩
def ag.after {S:Nat->Prop} {b np:Nat} {F:Nat->Nat} {w w1 w':World} (h:Below w.heap.size w w1) (k:ag S b np F w1 w'):ag S b np F w w':=by obtain⟨S',h1,h2,h3⟩:=k;exact⟨S',h1,(df.of h).trans h2 (λ_ _ h=>h),(eY.refl S w).trans h3 h.size⟩
def Up (B:Nat) (S:Nat->Prop):Prop:=∀k,S k->B<=k
def Ec (S:Nat->Prop) (b np:Nat) (F:Nat->Nat) (w:World) (hM:Mp S b np F w) (p:Nat) (hp:p<np): WR 324 #[Wz b,p] w (.int .u32 (F p)) λw'=>w=w':=by obtain⟨tb,ts,hM,_,_⟩:=hM;have hm:=hM.many;obtain⟨i,j,hi,hj,rfl⟩:∃i j,i<ts.length/\j<256/\p=i*256+j:=⟨p/256,p%256,e9,e9,e9⟩;exact get_any b tb np ts F w hM i j hi hj
def EH (S:Nat->Prop) (b np:Nat) (F:Nat->Nat) (w:World) (hM:Mp S b np F w) (p r:Int) (hr:mc np [p]=r): WA 323 #[Wz b,.slice (some ⟨w.heap.size,0,none⟩) 1 1] (w.alloc (.cells #[p] 3)) λe w'=>e=.returned r/\w.alloc (.cells #[p] 3)=w':=by
 obtain⟨tb,ts,hM,_,_⟩:=hM.grow (au w (.cells #[p] 3));rw[<-hr];refine in_any b tb np _ ts F [p] _ hM ?_ qr;intro j hj;obtain rfl:j=0:=by simpa using hj
 exact an (ls w (.cells #[p] 3)) 0 _ rfl
def OO (np:Nat) (p:Int):mc np [p]=if 0<=p/\p<np then 0 else 11:=by
 unfold mc;by_cases h:0<=p/\p<np;rw[b9 h,b9];intro j hj;obtain rfl:j=0:=by simpa using hj
 exact h;rw[b_ h,b_];intro k;exact h (k 0 qr)
def CI (np:Nat) (F:Nat->Nat) (p f:Int):Int×(Nat->Nat):=if ¬(0<=p/\p<np) then (11,F) else if f<0\/2147483648<=f then (5,F) else if F p.toNat≠0 then (13,F) else (0,turn F p.toNat (f.toNat+1))
def put_mp (S:Nat->Prop) (b np:Nat) (F:Nat->Nat) (w:World) (hM:Mp S b np F w) (p f:Int): WR 294 #[Wz b,p,f] w (.int .i64 (CI np F p f).1) λw'=>ag S b np (CI np F p f).2 w w':=by
 have Cg:=a_ (EH S b np F w hM p _ (OO np p));have Hb:=a_ (au w (.cells #[p] 3));have HM:=a_ hM;clear hM;unfold CI;by_cases h1:0<=p/\p<np
 .rw[b_ (ro.2 h1)];rw[b9 h1] at Cg;obtain⟨p,rfl⟩:∃q:Nat,p=q:=⟨p.toNat,e9⟩;rw[f_];have hp:p<np:=e9;clear h1;by_cases h2:f<0\/2147483648<=f
  .rw[b9 h2];rcases h2 with h2|h2
   .go_enter func294,ntmps294;go_wp2_with (go_at_call 323;refine Cg.kq ?_;rintro w1 rfl);go_ret;exact⟨rfl,ag.of HM Hb⟩
   have h0:¬f<0:=e9;go_enter func294,ntmps294;go_wp2_with (go_at_call 323;refine Cg.kq ?_;rintro w1 rfl);go_ret;exact⟨rfl,ag.of HM Hb⟩
  rw[b_ h2];have h3:¬f<0:=e9;have h4:¬2147483648<=f:=e9;have h5:f<2147483648:=e9;have h6:0<=f:=e9;have xj:=a_ (HM.grow Hb);have xm:=a_ (Ec S b np F _ xj p hp);clear h2;by_cases h7:F p≠0
  .rw[b9 h7];have h8:¬(F p:Int)=0:=e9;generalize F p=x at *;clear h7;go_enter func294,ntmps294;go_wp2_with (first|(go_at_call 323;refine Cg.kq ?_;rintro w1 rfl)|(go_at_call 324;refine xm.kq ?_;rintro w1 rfl));go_ret;exact⟨rfl,ag.of HM Hb⟩
  rw[b_ h7];have hF:F p=0:=ro.1 h7;rw[hF] at xm;have Ch:=Fj S b np F _ xj p (f.toNat+1) hp e9 e9;rw[show ((f.toNat+1:Nat):Int)=f+1 by omega] at Ch;replace Ch:=a_ Ch;clear h7 hF;go_enter func294,ntmps294;go_wp2_with (first|(go_at_call 323;refine Cg.kq ?_;rintro w1 rfl)|(go_at_call 324;refine xm.kq ?_;rintro w1 rfl)|(go_at_call 296;refine Ch.kh λw1 Hd=>?_));go_ret;exact⟨rfl,ag.after Hb Hd⟩
 rw[b9 h1];rw[b_ h1] at Cg;clear h1;go_enter func294,ntmps294;go_wp2_with (go_at_call 323;refine Cg.kq ?_;rintro w1 rfl);go_ret;exact⟨rfl,ag.of HM Hb⟩
def cS (np:Nat) (F:Nat->Nat) (p:Int):Int×Int:=if ¬(0<=p/\p<np) then (0,11) else if F p.toNat=0 then (0,12) else ((F p.toNat:Int)-1,0)
def xJ (S:Nat->Prop) (b np:Nat) (F:Nat->Nat) (w:World) (hM:Mp S b np F w) (p:Int): WR 292 #[Wz b,p] w (.tuple #[.int .i64 (cS np F p).1,.int .i64 (cS np F p).2]) λw'=>Below w.heap.size w w':=by
 have Cg:=a_ (EH S b np F w hM p _ (OO np p));have Hb:=a_ (au w (.cells #[p] 3));have xj:=a_ (hM.grow Hb);unfold cS;by_cases h1:0<=p/\p<np
 .rw[b_ (ro.2 h1)];rw[b9 h1] at Cg;obtain⟨p,rfl⟩:∃q:Nat,p=q:=⟨p.toNat,e9⟩;rw[f_];have hp:p<np:=e9;clear h1;have xm:=a_ (Ec S b np F _ xj p hp);have uD:F p<4294967296:=(by obtain⟨_,_,hm,_⟩:=hM;exact hm.small p);clear hM;by_cases h7:F p=0
  .rw[b9 h7];rw[h7] at xm;clear h7 uD;go_enter func292,ntmps292;go_wp2_with (first|(go_at_call 323;refine Cg.kq ?_;rintro w1 rfl)|(go_at_call 324;refine xm.kq ?_;rintro w1 rfl));go_ret2;exact⟨rfl,Hb⟩
  rw[b_ h7];obtain⟨x,hx⟩:∃x:Int,x=F p:=⟨_,rfl⟩;rw[<-hx] at xm;rw[<-hx];have h8:¬x=0:=e9;have h9:0<=x:=e9;have mV:x<=10000000000:=e9;clear h7 hx uD;go_enter func292,ntmps292;go_wp2_with (first|(go_at_call 323;refine Cg.kq ?_;rintro w1 rfl)|(go_at_call 324;refine xm.kq ?_;rintro w1 rfl));go_ret2;exact⟨rfl,Hb⟩
 rw[b9 h1];rw[b_ h1] at Cg;clear h1 hM;go_enter func292,ntmps292;go_wp2_with (go_at_call 323;refine Cg.kq ?_;rintro w1 rfl);go_ret2;exact⟨rfl,Hb⟩
def xz (np:Nat) (F:Nat->Nat) (p:Int):Nat->Nat:=if (cS np F p).2=0 then turn F p.toNat 0 else F
def drop_mp (S:Nat->Prop) (b np:Nat) (F:Nat->Nat) (w:World) (hM:Mp S b np F w) (p:Int): WR 247 #[Wz b,p] w (.tuple #[.int .i64 (cS np F p).1,.int .i64 (cS np F p).2]) λw'=>ag S b np (xz np F p) w w':=by
 have HF:=a_ (xJ S b np F w hM p);have HM:=a_ hM;clear hM;unfold xz;by_cases h:(cS np F p).2=0
 .rw[b9 h];have h2:(0<=p/\p<np)/\F p.toNat≠0:=(by unfold cS at h;by_cases h1:0<=p/\p<np;rw[b_ (ro.2 h1)] at h;by_cases h2:F p.toNat=0;rw[b9 h2] at h;cases h;exact⟨h1,h2⟩;rw[b9 h1] at h;cases h);obtain⟨⟨h3,h4⟩,h5⟩:=h2;obtain⟨p,rfl⟩:∃q:Nat,p=q:=⟨p.toNat,e9⟩;rw[f_] at *;have Ch:=a_ λW hW=>Fj S b np F W hW p 0 e9 e9 (by simpa using h5);rw[h] at HF;rw[h];generalize (cS np F p).1=x at *;clear h h3 h4 h5;go_enter func247,ntmps247;go_wp2_with (first|(go_at_call 292;refine HF.kh λw1 Hb=>?_)|(go_at_call 296;refine (Ch _ (HM.grow Hb)).kh λw2 Hd=>?_));go_ret2;exact⟨rfl,ag.after Hb Hd⟩
 rw[b_ h];obtain⟨y,hy⟩:=kw ((cS np F p).2);rw[hy] at HF h;rw[hy];generalize (cS np F p).1=x at *;clear hy;go_enter func247,ntmps247;go_wp2_with (first|(go_at_call 292;refine HF.kh λw1 Hb=>?_));go_ret2;exact⟨rfl,ag.of HM Hb⟩
def ptr_info:(prog.info? 389).map (λi=>(i.zero,i.size,i.bytes))=some (some (.pointer none),1,8):=ol
def ys (n:Nat):Array Value:=((List.replicate n (none:Option Nat)).map ptr).toArray
def made_ptrs (n:Nat):madeCells (Value.pointer none).cells (n*1)=ys n:=by apply X_.1;rw[w_];show (madeCells #[Value.pointer none] n).toList=_;rw[ab7];simp[ys,ptr]
def sum_zeros (m:Nat):dy (λ_=>0) m=0:=by
 induction m with
 |zero=>rfl
 |succ m ih=>simp[dy,ih,pj]
def iQ (np:Nat) (w:World) (h1:1<=np) (h2:np<=524288): WR 191 #[np] w (.tuple #[.pointer (some ⟨w.heap.size+1,0,none⟩),Wy]) λw'=>(∃S,Mp S (w.heap.size+1) np (λ_=>0) w'/\Up w.heap.size S)/\Below w.heap.size w w':=by
 obtain⟨i0,hi,hz0,vR,Ae⟩:=BT ptr_info;obtain⟨nt,VJ⟩:∃nt,nt=(np+255)/256:=⟨_,rfl⟩;have nP:∀W:World,(Instr.makeSlice 341 (.int .i64 (nt:Int)) (.int .i64 (nt:Int))).run prog W=.ok (.slice (some ⟨W.heap.size,0,none⟩) nt nt) (W.alloc (.cells (ys nt) 389)):=λW=>by have h:=run_make (P:=prog) W 341 389 i0 (.pointer none) underlying341 hi hz0 .i64 .i64 (nt:Int) (nt:Int) e9 e9 (by rw[Ae];omega) e9;rw[vR,f_,made_ptrs] at h;exact h
 have bp:=au w (.cells (ys nt) 389);have hg1:=ls w (.cells (ys nt) 389);have hsz:(w.alloc (.cells (ys nt) 389)).heap.size=w.heap.size+1:=qr;have hq:((np:Int)+256-1)/256=nt:=e9;have uF:(1:Int)<=np:=e9;have jl:(np:Int)<=524288:=e9;obtain⟨z,hz⟩:∃z:Int,(np:Int)=z:=⟨_,rfl⟩;rw[hz] at hq uF jl ⊢;obtain⟨Hz,Hnt,RL,RN,MU,H2⟩:=uB hz VJ bp hg1 hsz h2;clear bp hg1 hsz hz VJ h1 h2;go_enter func191,ntmps191;go_wp2;go_ret2;have dw:=au (w.alloc (.cells (ys nt) 389)) (.cells #[.slice (some ⟨w.heap.size,0,none⟩) nt nt,z,Wy] 343);have wY:=ls (w.alloc (.cells (ys nt) 389)) (.cells #[.slice (some ⟨w.heap.size,0,none⟩) nt nt,z,Wy] 343);rw[MU.out] at wY;have hn:=Hnt.out;have h2:=H2.out;refine⟨by first|rfl|(rw[<-MU.out];rfl),⟨λk=>k=w.heap.size\/k=w.heap.size+1,⟨w.heap.size,List.replicate nt none,⟨?_,?_,?_,?_,?_,?_,?_⟩,⟨.inr rfl,.inl rfl,?_⟩,?_,?_⟩,?_⟩,seq RL dw⟩;rw[wY,<-Hz.out,I_,sum_zeros];rfl;exact cQ dw (bi _) RN;rw[I_];omega;intro i hi _ j hj;rfl;intro i k hi hk;simp at hi;simp[hi] at hk;intro i j k hi hj hk;simp at hi;simp[hi] at hk;intro p;omega;intro i k hi hk;simp at hi;simp[hi] at hk;intro k hk;simp;omega;rw[I_];exact hn;intro k hk;omega
end Go.Proofs.YtmdgfpeglgpiiaaGreatDoor.Pg
namespace Go.Proofs.YtmdgfpeglgpiiaaGreatDoor
open Vq Oq Go.Proofs.Tryz
open Go.ChangeShapes Go.WideShapes Go.ChangeAt Go.RowKit
structure VS where
 mp:Nat->Bool
 wd:Nat->Nat
 used:Nat
 aM:Nat
def VS.zero:VS:=⟨λ_=>false,λ_=>0,0,0⟩
def nV (c_:Nat) (v:VS) (p:Nat):VS:=⟨λq=>if q=p then true else v.mp q,λa=>if a/c_=p then 0 else v.wd a,v.used+1,max v.aM (v.used+1)⟩
def tw (v:VS) (p:Nat):VS:={v with mp:=λq=>if q=p then false else v.mp q,used:=v.used-1}
def fB (v:VS) (a x:Nat):VS:={v with wd:=λb=>if b=a then x else v.wd b}
structure Vr (c_ np:Nat) (s:Fr.PS) (F:Nat->Nat) (v:VS):Prop where
 mp:∀p,p<np->(v.mp p=true↔F p≠0)
 has:∀p,p<np->F p≠0->Fr.has s ((F p-1:Nat):Int)=true
 inj:∀p q,p<np->q<np->F p≠0->F p=F q->p=q
 wd:∀p i,p<np->F p≠0->i<c_->s.wd (F p-1) i=v.wd (p*c_+i)
 used:s.used=v.used
 aM:s.aM=v.aM
def sW {c_ p i:Nat} (hi:i<c_):(p*c_+i)/c_=p:=by rw[GP,ak6 e9,LE hi,sc]
def Am {c_ p i:Nat} (hi:i<c_):(p*c_+i)%c_=i:=by rw[GP,ak7,wi hi]
def pg_eq {c_ p i q j:Nat} (hi:i<c_) (hj:j<c_):p*c_+i=q*c_+j↔p=q/\i=j:=by constructor;intro h;have h1:=sW (p:=p) hi;have h2:=sW (p:=q) hj;have h3:=Am (p:=p) hi;have h4:=Am (p:=q) hj;rw[h] at h1 h3;omega;rintro⟨rfl,rfl⟩;rfl
variable {c_ np e_:Nat}{s:Fr.PS}{F:Nat->Nat}{v:VS}
def Vr.start (c_ np:Nat):Vr c_ np Fr.start (λ_=>0) VS.zero:=⟨λp _=>by simp[VS.zero],λp _ h=>absurd rfl h,λp q _ _ h=>absurd rfl h,λp i _ h=>absurd rfl h,rfl,rfl⟩
def Vr.map (h:Vr c_ np s F v) (hk:s.ok e_ c_) (hu:s.used<e_) {p:Nat} (hp:p<np) (h0:F p=0): Vr c_ np (Fr.fo s) (Pg.turn F p (Fr.bU s+1)) (nV c_ v p):=by
 have ht:=λg=>Fr.has_take hk hu g;have ne:∀q,q<np->F q≠0->F q-1≠Fr.bU s:=λq hq h1 e=>by have:=h.has q hq h1;rw[e,(ht 0).2] at this;cases this
 have lt:∀q,q<np->F q≠0->F q-1<s.n:=λq hq h1=>by have:=((Fr.gx _ _).1 (h.has q hq h1)).1.2;omega
 refine⟨λq hq=>?_,λq hq h1=>?_,λq r hq hr h1 h2=>?_,λq i hq h1 hi=>?_,?_,?_⟩;show (if q=p then true else v.mp q)=true↔(if q=p then Fr.bU s+1 else F q)≠0;split;simp;exact h.mp q hq;unfold Pg.turn at h1 ⊢;by_cases e:q=p;rw[b9 e,(ht _).1];simp;rw[b_ e] at h1 ⊢;rw[(ht _).1,h.has q hq h1];simp;unfold Pg.turn at h1 h2;by_cases e:q=p;by_cases e2:r=p;rw[e,e2];rw[b9 e,b_ e2] at h2;exact absurd (show F r-1=Fr.bU s by omega) (ne r hr e9);rw[b_ e] at h1 h2;by_cases e2:r=p;rw[b9 e2] at h2;exact absurd (show F q-1=Fr.bU s by omega) (ne q hq h1);rw[b_ e2] at h2;exact h.inj q r hq hr h1 h2;show (Fr.fo s).wd _ i=if (q*c_+i)/c_=p then 0 else v.wd (q*c_+i);rw[sW hi];unfold Pg.turn at h1 ⊢;by_cases e:q=p;rw[b9 e,b9 e,ai6];exact Fr.take_zero s i;rw[b_ e] at h1 ⊢;rw[b_ e,Fr.wd_take hk hu _ _ (ne q hq h1) (lt q hq h1)];exact h.wd q i hq h1 hi;show s.used+1=v.used+1;rw[h.used];show max s.aM (s.used+1)=max v.aM (v.used+1);rw[h.used,h.aM]
def Vr.yN (h:Vr c_ np s F v) {p:Nat} (hp:p<np) (h0:F p≠0): Vr c_ np (Fr.fE s (F p-1)) (Pg.turn F p 0) (tw v p):=by have hg:=λg=>Fr.has_give s ((F p-1:Nat):Int) g e9;simp only[f_] at hg;refine⟨λq hq=>?_,λq hq h1=>?_,λq r hq hr h1 h2=>?_,λq i hq h1 hi=>?_,?_,?_⟩;show (if q=p then false else v.mp q)=true↔(if q=p then 0 else F q)≠0;split;simp;exact h.mp q hq;unfold Pg.turn at h1 ⊢;by_cases e:q=p;rw[b9 e] at h1;exact absurd rfl h1;rw[b_ e] at h1 ⊢;rw[hg,h.has q hq h1,g_];rfl;intro e2;exact e (h.inj q p hq hp h1 e9);unfold Pg.turn at h1 h2;by_cases e:q=p;rw[b9 e] at h1;exact absurd rfl h1;rw[b_ e] at h1 h2;by_cases e2:r=p;rw[b9 e2] at h2;exact absurd h2 h1;rw[b_ e2] at h2;exact h.inj q r hq hr h1 h2;unfold Pg.turn at h1 ⊢;by_cases e:q=p;rw[b9 e] at h1;exact absurd rfl h1;rw[b_ e] at h1 ⊢;exact h.wd q i hq h1 hi;show s.used-1=v.used-1;rw[h.used];exact h.aM
def Vr.put (h:Vr c_ np s F v) {p i:Nat} (hp:p<np) (h0:F p≠0) (hi:i<c_) (x:Nat): Vr c_ np (Fr.wC s (F p-1) i x) F (fB v (p*c_+i) x):=by refine⟨h.mp,h.has,h.inj,λq j hq k hj=>?_,h.used,h.aM⟩;show (if F q-1=F p-1/\j=i then x else s.wd (F q-1) j)=if q*c_+j=p*c_+i then x else v.wd (q*c_+j);have:=pg_eq (p:=q) (q:=p) hj hi;by_cases e:q=p/\j=i;rw[b9 (this.2 e),b9 ⟨by rw[e.1],e.2⟩];rw[b_ (λk2=>e (this.1 k2)),b_ (λk2=>e ⟨h.inj q p hq hp k e9,k2.2⟩)];exact h.wd q j hq k hj
structure VS.like (c_ np:Nat) (v v':VS):Prop where
 mp:∀p,p<np->v.mp p=v'.mp p
 wd:∀a,a/c_<np->v.mp (a/c_)=true->v.wd a=v'.wd a
 used:v.used=v'.used
 aM:v.aM=v'.aM
def Vr.like {c_ np:Nat} {s:Fr.PS} {F:Nat->Nat} {v v':VS} (h:Vr c_ np s F v) (hl:v.like c_ np v'):Vr c_ np s F v':=⟨λp hp=>by rw[<-hl.mp p hp];exact h.mp p hp,h.has,h.inj,λp i hp h0 hi=>by rw[h.wd p i hp h0 hi];have:=hl.wd (p*c_+i);rw[sW hi] at this;exact this hp ((h.mp p hp).2 h0),h.used.trans hl.used,h.aM.trans hl.aM⟩
structure eW (S:Nat->Prop) (m b pb d_ c_ e_:Nat) (s:Fr.PS) (F:Nat->Nat) (w:World):Prop where
 head:w.heap[m]?=some (.cells #[Wz b,Wz pb,d_] 244 (0,0))
 parts:∃S1 S2,Fr.Pl S1 b e_ c_ s w/\Pg.Mp S2 pb (d_/c_) F w/\lY S1 S2/\¬S1 m/\¬S2 m/\(∀k,S1 k->S k)/\∀k,S2 k->S k
 own:S m
 ins:In S w
def gP (S:Nat->Prop) (m b pb d_ c_ e_:Nat) (s:Fr.PS) (F:Nat->Nat) (w w':World):Prop:=∃S',eW S' m b pb d_ c_ e_ s F w'/\df S w w'/\eY S S' w
variable {S T:Nat->Prop}{m b pb d_:Nat}{s':Fr.PS}{F':Nat->Nat}{w w1 w':World}
def eW.keep (h:eW S m b pb d_ c_ e_ s F w) (c:df T w w') (ap:lY S T):eW S m b pb d_ c_ e_ s F w':=by obtain⟨hd,⟨S1,S2,h1,h2,h3,h4,h5,h6,h7⟩,ho,hI⟩:=h;exact⟨c.keep hd (λt=>ap _ ho t),⟨S1,S2,h1.keep c (λk a t=>ap k (h6 k a) t),h2.keep c (λk a t=>ap k (h7 k a) t),h3,h4,h5,h6,h7⟩,ho,hI.mono c.size⟩
def eW.grow (h:eW S m b pb d_ c_ e_ s F w) (c:Below w.heap.size w w'):eW S m b pb d_ c_ e_ s F w':=h.keep (T:=λ_=>False) (df.of c) (λ_ _ h=>h)
def eW.cells (h:eW S m b pb d_ c_ e_ s F w):w.cell? ⟨m,0,none⟩=some (.pointer (some ⟨b,0,none⟩))/\w.cell? ⟨m,1,none⟩=some (.pointer (some ⟨pb,0,none⟩))/\w.cell? ⟨m,2,none⟩=some (.int .i64 d_):=(three h.head).1
def gP.then {S':Nat->Prop} (h:df S w w1) (g:eY S S' w) (k:gP S' m b pb d_ c_ e_ s F w1 w'):gP S m b pb d_ c_ e_ s F w w':=by obtain⟨S2,h1,h2,h3⟩:=k;exact⟨S2,h1,h.then h2 g,g.trans h3 h.size⟩
def eW.La (h:eW S m b pb d_ c_ e_ s F w) {f:FuncId} {args:Array Value} {R:Ending} (op:∀S1,Fr.Pl S1 b e_ c_ s w->Calls prog f args w λe w'=>e=R/\Fr.kp S1 b e_ c_ s' w w'): Calls prog f args w λe w'=>e=R/\gP S m b pb d_ c_ e_ s' F w w':=by obtain⟨hd,⟨S1,S2,h1,h2,h3,h4,h5,h6,h7⟩,ho,hI⟩:=h;refine (op S1 h1).mono λe w' ⟨he,MZ,k1,k2,k3⟩=>⟨he,λk=>S k\/MZ k,⟨k2.keep hd h4,⟨MZ,S2,k1,h2.keep k2 h3.symm,k3.apart h3 h2.in,λa=>?_,h5,λk a=> .inr a,λk a=> .inl (h7 k a)⟩,.inl ho,?_⟩,k2.mono (λk _ a=>h6 k a),?_⟩;rcases k3 m a with a|a;exact h4 a;have:=bf hd;omega;intro k hk;rcases hk with a|a;have:=hI k a;have:=k2.size;omega;exact k1.in k a;intro k hk;rcases hk with a|a;exact .inl a;exact (k3 k a).imp (h6 k) id
def eW.yv (h:eW S m b pb d_ c_ e_ s F w) {f:FuncId} {args:Array Value} {R:Ending} (op:∀S2,Pg.Mp S2 pb (d_/c_) F w->Calls prog f args w λe w'=>e=R/\Pg.ag S2 pb (d_/c_) F' w w'): Calls prog f args w λe w'=>e=R/\gP S m b pb d_ c_ e_ s F' w w':=by obtain⟨hd,⟨S1,S2,h1,h2,h3,h4,h5,h6,h7⟩,ho,hI⟩:=h;refine (op S2 h2).mono λe w' ⟨he,Na,k1,k2,k3⟩=>⟨he,λk=>S k\/Na k,⟨k2.keep hd h5,⟨S1,Na,h1.keep k2 h3,k1,(k3.apart h3.symm h1.in).symm,h4,λa=>?_,λk a=> .inl (h6 k a),λk a=> .inr a⟩,.inl ho,?_⟩,k2.mono (λk _ a=>h7 k a),?_⟩;rcases k3 m a with a|a;exact h5 a;have:=bf hd;omega;intro k hk;rcases hk with a|a;have:=hI k a;have:=k2.size;omega;exact k1.in k a;intro k hk;rcases hk with a|a;exact .inl a;exact (k3 k a).imp (h7 k) id
def take_raw (h:eW S m b pb d_ c_ e_ s F w) (hk:s.ok e_ c_) (ht:s.times<=1000000000000000): WR 293 #[Wz b] w (.tuple #[.int .i64 (Fr.tm e_ s).1,.int .i64 (Fr.tm e_ s).2]) λw'=>gP S m b pb d_ c_ e_ (Fr.yI e_ s) F w w':=h.La λS1 h1=>Fr.take_pl S1 b e_ c_ s w h1 hk ht
def give_raw (h:eW S m b pb d_ c_ e_ s F w) (hk:s.ok e_ c_) (f:Int): WR 248 #[Wz b,f] w (Fr.AU s f:Int) λw'=>gP S m b pb d_ c_ e_ (Fr.AV s f) F w w':=h.La λS1 h1=>Fr.give_pl S1 b e_ c_ s w h1 hk f
def store_raw (h:eW S m b pb d_ c_ e_ s F w) (hk:s.ok e_ c_) (f i:Int) (x:Nat): WR 306 #[Wz b,f,i,.int .u64 x] w (Fr.gM c_ s f i:Int) λw'=>gP S m b pb d_ c_ e_ (Fr.wJ c_ s f i x) F w w':=h.La λS1 h1=>Fr.store_pl S1 b e_ c_ s w h1 hk f i x
def load_raw (h:eW S m b pb d_ c_ e_ s F w) (hk:s.ok e_ c_) (f i:Int): WR 305 #[Wz b,f,i] w (.tuple #[.int .u64 (Fr.Bu c_ s f i),(Fr.gM c_ s f i:Int)]) λw'=>w=w':=by obtain⟨_,⟨S1,S2,h1,_⟩,_⟩:=h;exact Fr.load_pl S1 b e_ c_ s w h1 hk f i
def sS (h:eW S m b pb d_ c_ e_ s F w):WR 244 #[Wz b] w c_ λw'=>w=w':=by obtain⟨_,⟨S1,S2,h1,_⟩,_⟩:=h;exact Fr.page_pl S1 b e_ c_ s w h1
def room_raw (h:eW S m b pb d_ c_ e_ s F w):WR 272 #[Wz b] w e_ λw'=>w=w':=by obtain⟨_,⟨S1,S2,h1,_⟩,_⟩:=h;exact Fr.room_pl S1 b e_ c_ s w h1
def used_raw (h:eW S m b pb d_ c_ e_ s F w):WR 161 #[Wz b] w s.used λw'=>w=w':=by obtain⟨_,⟨S1,S2,h1,_⟩,_⟩:=h;exact Fr.used_pl S1 b e_ c_ s w h1
def uv (h:eW S m b pb d_ c_ e_ s F w) (p:Int): WR 292 #[Wz pb,p] w (.tuple #[.int .i64 (Pg.cS (d_/c_) F p).1,.int .i64 (Pg.cS (d_/c_) F p).2]) λw'=>Below w.heap.size w w':=by obtain⟨_,⟨S1,S2,_,h2,_⟩,_⟩:=h;exact Pg.xJ S2 pb (d_/c_) F w h2 p
def put_raw (h:eW S m b pb d_ c_ e_ s F w) (p f:Int): WR 294 #[Wz pb,p,f] w (.int .i64 (Pg.CI (d_/c_) F p f).1) λw'=>gP S m b pb d_ c_ e_ s (Pg.CI (d_/c_) F p f).2 w w':=h.yv λS2 h2=>Pg.put_mp S2 pb (d_/c_) F w h2 p f
def drop_raw (h:eW S m b pb d_ c_ e_ s F w) (p:Int): WR 247 #[Wz pb,p] w (.tuple #[.int .i64 (Pg.cS (d_/c_) F p).1,.int .i64 (Pg.cS (d_/c_) F p).2]) λw'=>gP S m b pb d_ c_ e_ s (Pg.xz (d_/c_) F p) w w':=h.yv λS2 h2=>Pg.drop_mp S2 pb (d_/c_) F w h2 p
structure vy (d_ c_:Nat):Prop where
 words1:1<=d_/\d_<=524288
 whole:d_%c_=0
 pow:Fr.dp c_
def Vm (S:Nat->Prop) (m d_ c_ e_ t:Nat) (v:VS) (w:World):Prop:=∃b pb s F,eW S m b pb d_ c_ e_ s F w/\s.ok e_ c_/\s.times<=t/\Vr c_ (d_/c_) s F v/\vy d_ c_
def jc (S:Nat->Prop) (m d_ c_ e_ t:Nat) (v:VS) (w w':World):Prop:=∃S',Vm S' m d_ c_ e_ t v w'/\df S w w'/\eY S S' w
variable {t:Nat}
def Vm.in (h:Vm S m d_ c_ e_ t v w):In S w:=by obtain⟨b,pb,s,F,h,_⟩:=h;exact h.ins
def Vm.fX (h:Vm S m d_ c_ e_ t v w):(1<=d_/\d_<=524288)/\d_%c_=0/\(1<=c_/\c_<=256)/\(1<=e_/\e_<=4096)/\v.used<=e_/\v.aM<=4096:=by obtain⟨b,pb,s,F,h,hk,ht,hV,hw,hd,_⟩:=h;exact⟨hw,hd,hk.mf,hk.kY,by rw[<-hV.used];exact Fr.wM hk,by rw[<-hV.aM];exact hk.aM⟩
def Vm.keep (h:Vm S m d_ c_ e_ t v w) (c:df T w w') (ap:lY S T):Vm S m d_ c_ e_ t v w':=by obtain⟨b,pb,s,F,h,k⟩:=h;exact⟨b,pb,s,F,h.keep c ap,k⟩
def Vm.grow (h:Vm S m d_ c_ e_ t v w) (c:Below w.heap.size w w'):Vm S m d_ c_ e_ t v w':=h.keep (T:=λ_=>False) (df.of c) (λ_ _ h=>h)
def Vm.more (h:Vm S m d_ c_ e_ t v w) {t':Nat} (ht:t<=t'):Vm S m d_ c_ e_ t' v w:=by obtain⟨b,pb,s,F,h,hk,h1,k⟩:=h;exact⟨b,pb,s,F,h,hk,h_ h1 ht,k⟩
def Vm.like {v':VS} (h:Vm S m d_ c_ e_ t v w) (hl:v.like c_ (d_/c_) v'):Vm S m d_ c_ e_ t v' w:=by obtain⟨b,pb,s,F,h,hk,h1,hV,k⟩:=h;exact⟨b,pb,s,F,h,hk,h1,hV.like hl,k⟩
def jc.of (h:Vm S m d_ c_ e_ t v w) (c:Below w.heap.size w w'):jc S m d_ c_ e_ t v w w':=⟨S,h.grow c,df.of c,eY.refl _ _⟩
def jc.more (h:jc S m d_ c_ e_ t v w w') {t':Nat} (ht:t<=t'):jc S m d_ c_ e_ t' v w w':=by obtain⟨S',h1,h2⟩:=h;exact⟨S',h1.more ht,h2⟩
def dt (m b:Nat) (w:World) (c0:w.cell? ⟨m,0,none⟩=some (.pointer (some ⟨b,0,none⟩))): WR 160 #[Wz m] w false λw'=>w=w':=by go_enter func160,ntmps160;go_wp2;go_ret;exact⟨rfl,rfl⟩
def GK (np e_:Nat) (v:VS) (p:Int):Int:=if ¬(0<=p/\p<np) then 11 else if v.mp p.toNat=true then 13 else if v.used=e_ then 14 else 0
def KY (np c_ e_:Nat) (v:VS) (p:Int):VS:=if GK np e_ v p=0 then nV c_ v p.toNat else v
def map_vm (S:Nat->Prop) (m d_ c_ e_ t:Nat) (v:VS) (w:World) (h:Vm S m d_ c_ e_ t v w) (ht:t<1000000000000000) (p:Int): WR 245 #[Wz m,p] w (GK (d_/c_) e_ v p:Int) λw'=>jc S m d_ c_ e_ (t+1) (KY (d_/c_) c_ e_ v p) w w':=by
 have HV:=a_ h;obtain⟨b,pb,s,F,hR,hk,Db,hV,eu⟩:=h;obtain⟨c0,c1,-⟩:=hR.cells;have qg:=uv hR p;have cg:=a_ (dt m b w c0);have HR:=a_ hR;unfold KY GK;by_cases h1:0<=p/\p<(d_/c_:Nat)
 .rw[b_ (ro.2 h1)];obtain⟨p,rfl⟩:∃q:Nat,p=q:=⟨p.toNat,e9⟩;rw[f_];have hp:p<d_/c_:=e9;unfold Pg.cS at qg;rw[b_ (ro.2 h1),f_] at qg;by_cases h2:v.mp p=true
  .have h3:=(hV.mp p hp).1 h2;rw[b_ h3] at qg;rw[b9 h2];obtain⟨x,hx⟩:∃x:Int,(F p:Int)-1=x:=⟨_,rfl⟩;rw[hx] at qg;replace qg:=a_ qg;clear hR hk hV eu h1 h2 h3 hx;go_enter func245,ntmps245;go_wp2_with (first|(go_at_call 160;refine cg.kq ?_;rintro w1 rfl)|(go_at_call 292;refine qg.kq λw1 hb=>?_));go_ret;exact⟨rfl,jc.more (jc.of HV hb) e9⟩
  have h3:F p=0:=ro.1 λk=>h2 ((hV.mp p hp).2 k);rw[b9 h3] at qg;rw[b_ h2];have Dr:=a_ λW (hW:eW S m b pb d_ c_ e_ s F W)=>take_raw hW hk e9;by_cases h4:v.used=e_
  .rw[b9 h4];have h5:s.used=e_:=hV.used.trans h4;unfold Fr.tm Fr.yI at Dr;rw[b9 h5,b9 h5] at Dr;have tS:=a_ (show s.ok e_ c_/\s.times<=t+1/\Vr c_ (d_/c_) s F v/\vy d_ c_ from⟨hk,e9,hV,eu⟩);replace qg:=a_ qg;clear hR hk hV eu h1 h2 h3 h4 h5;go_enter func245,ntmps245;go_wp2_with (first|(go_at_call 160;refine cg.kq ?_;rintro w1 rfl)|(go_at_call 292;refine qg.kq λw1 hb=>?_;have Hb:=a_ hb;obtain⟨d0,d1,-⟩:=(HR.grow hb).cells;clear hb)|(go_at_call 293;refine (Dr _ (HR.grow Hb)).kh λw2 Hd=>?_));go_ret;obtain⟨S',k1,k2,k3⟩:=Hd.out;exact⟨rfl,S',⟨b,pb,s,F,k1,tS⟩,(df.of Hb).trans k2 (λ_ _ h=>h),(eY.refl S w).trans k3 Hb.size⟩
  rw[b_ h4];have h5:¬s.used=e_:=λk=>h4 (hV.used.symm.trans k);have hu:s.used<e_:=(by have:=Fr.wM hk;omega);have hnl:=Fr.yq hk hu;have CA:=hk.kY;have Gb:=a_ λS' W (hW:eW S' m b pb d_ c_ e_ (Fr.fo s) F W)=>put_raw hW p (Fr.bU s:Int);unfold Fr.tm Fr.yI at Dr;rw[b_ h5,b_ h5] at Dr;unfold Pg.CI at Gb;simp only[b_ (ro.2 h1),f_,b_ (show ¬((Fr.bU s:Int)<0\/2147483648<=(Fr.bU s:Int)) by omega),b_ (ro.2 h3)] at Gb;have tS:=a_ (show (Fr.fo s).ok e_ c_/\(Fr.fo s).times<=t+1/\Vr c_ (d_/c_) (Fr.fo s) (Pg.turn F p (Fr.bU s+1)) (nV c_ v p)/\vy d_ c_ from⟨Fr.take_ok hk hu,by show s.times+1<=t+1;omega,hV.map hk hu hp h3,eu⟩);obtain⟨f0,Gt⟩:=kw (Fr.bU s);simp only[Gt] at Dr Gb tS;replace qg:=a_ qg;clear hR hk hV eu h1 h2 h3 h4 h5 hu hnl Gt;go_enter func245,ntmps245;go_wp2_with (first|(go_at_call 160;refine cg.kq ?_;rintro w1 rfl)|(go_at_call 292;refine qg.kq λw1 hb=>?_;have Hb:=a_ hb;obtain⟨d0,d1,-⟩:=(HR.grow hb).cells;clear hb)|(go_at_call 293;refine (Dr _ (HR.grow Hb)).kq ?_;rintro w2 ⟨S2,r2,c2,g2⟩;have RE:=a_ r2;have Mo:=a_ c2;have FT:=a_ g2;obtain⟨e0,e1,-⟩:=r2.cells;clear r2 c2 g2)|(go_at_call 294;refine (Gb _ _ RE).kh λw3 Hd=>?_));go_ret;obtain⟨S',k1,k2,k3⟩:=gP.then Mo FT Hd;refine⟨rfl,S',⟨b,pb,_,_,k1,?_⟩,(df.of Hb).trans k2 (λ_ _ h=>h),(eY.refl S w).trans k3 Hb.size⟩;exact tS
 rw[b9 h1];unfold Pg.cS at qg;rw[b9 h1] at qg;replace qg:=a_ qg;clear hR hk hV eu h1;go_enter func245,ntmps245;go_wp2_with (first|(go_at_call 160;refine cg.kq ?_;rintro w1 rfl)|(go_at_call 292;refine qg.kq λw1 hb=>?_));go_ret;exact⟨rfl,jc.more (jc.of HV hb) e9⟩
def lj (np:Nat) (v:VS) (p:Int):Int:=if ¬(0<=p/\p<np) then 11 else if v.mp p.toNat=true then 0 else 12
def bY (np:Nat) (v:VS) (p:Int):VS:=if lj np v p=0 then tw v p.toNat else v
def yO (S:Nat->Prop) (m d_ c_ e_ t:Nat) (v:VS) (w:World) (h:Vm S m d_ c_ e_ t v w) (p:Int): WR 170 #[Wz m,p] w (lj (d_/c_) v p:Int) λw'=>jc S m d_ c_ e_ t (bY (d_/c_) v p) w w':=by
 obtain⟨b,pb,s,F,hR,hk,Db,hV,eu⟩:=h;obtain⟨c0,c1,-⟩:=hR.cells;have xl:=drop_raw hR p;have cg:=a_ (dt m b w c0);unfold bY lj;by_cases h1:0<=p/\p<(d_/c_:Nat)
 .rw[b_ (ro.2 h1)];obtain⟨p,rfl⟩:∃q:Nat,p=q:=⟨p.toNat,e9⟩;rw[f_];have hp:p<d_/c_:=e9;unfold Pg.xz Pg.cS at xl;rw[b_ (ro.2 h1),f_] at xl;by_cases h2:v.mp p=true
  .have h3:=(hV.mp p hp).1 h2;rw[b_ h3,b9 rfl] at xl;rw[b9 h2,b9 rfl];have PH:=a_ λS' W (hW:eW S' m b pb d_ c_ e_ s (Pg.turn F p 0) W)=>give_raw hW hk ((F p-1:Nat):Int);have hh:=hV.has p hp h3;have Kv:=Fr.AW hk _ hh;unfold Fr.AU Fr.AV at PH;simp only[hh,QQ,f_] at PH Kv;have tS:=a_ (show (Fr.fE s (F p-1)).ok e_ c_/\(Fr.fE s (F p-1)).times<=t/\Vr c_ (d_/c_) (Fr.fE s (F p-1)) (Pg.turn F p 0) (tw v p)/\vy d_ c_ from⟨Kv.1,Db,hV.yN hp h3,eu⟩);rw[show (F p:Int)-1=((F p-1:Nat):Int) by omega] at xl;obtain⟨f0,Gt⟩:=kw (F p-1);simp only[Gt] at xl PH tS;replace xl:=a_ xl;clear hR hk hV eu h1 h2 h3 hh Kv Gt;go_enter func170,ntmps170;go_wp2_with (first|(go_at_call 160;refine cg.kq ?_;rintro w1 rfl)|(go_at_call 247;refine xl.kq ?_;rintro w2 ⟨S2,r2,c2,g2⟩;have RE:=a_ r2;have Mo:=a_ c2;have FT:=a_ g2;obtain⟨e0,e1,-⟩:=r2.cells;clear r2 c2 g2)|(go_at_call 248;refine (PH _ _ RE).kh λw3 Hd=>?_));go_ret;obtain⟨S',k1,k2,k3⟩:=gP.then Mo FT Hd;exact⟨rfl,S',⟨b,pb,_,_,k1,tS⟩,k2,k3⟩
  have h3:F p=0:=ro.1 λk=>h2 ((hV.mp p hp).2 k);rw[b9 h3,b_ z9] at xl;rw[b_ h2,b_ z9];have tS:=a_ (show s.ok e_ c_/\s.times<=t/\Vr c_ (d_/c_) s F v/\vy d_ c_ from⟨hk,Db,hV,eu⟩);replace xl:=a_ xl;clear hR hk hV eu h1 h2 h3;go_enter func170,ntmps170;go_wp2_with (first|(go_at_call 160;refine cg.kq ?_;rintro w1 rfl)|(go_at_call 247;refine xl.kh λw2 Hd=>?_));go_ret;obtain⟨S',k1,k2,k3⟩:=Hd.out;exact⟨rfl,S',⟨b,pb,_,_,k1,tS⟩,k2,k3⟩
 rw[b9 h1,b_ z9];unfold Pg.xz Pg.cS at xl;rw[b9 h1,b_ z9] at xl;have tS:=a_ (show s.ok e_ c_/\s.times<=t/\Vr c_ (d_/c_) s F v/\vy d_ c_ from⟨hk,Db,hV,eu⟩);replace xl:=a_ xl;clear hR hk hV eu h1;go_enter func170,ntmps170;go_wp2_with (first|(go_at_call 160;refine cg.kq ?_;rintro w1 rfl)|(go_at_call 247;refine xl.kh λw2 Hd=>?_));go_ret;obtain⟨S',k1,k2,k3⟩:=Hd.out;exact⟨rfl,S',⟨b,pb,_,_,k1,tS⟩,k2,k3⟩
open Go.IntWalk
def xF (h:eW S m b pb d_ c_ e_ s F w) (a:Int) (ha:a<0\/(d_:Int)<=a): WR 304 #[Wz m,a] w (.tuple #[Wy,Wy,(11:Int)]) λw'=>w=w':=by
 obtain⟨c0,c1,c2⟩:=h.cells;have cg:=a_ (dt m b w c0);clear h;rcases ha with ha|ha
 .go_enter func304,ntmps304;go_wp2_with (first|(go_at_call 160;refine cg.kq ?_;rintro w1 rfl));go_ret3;exact⟨rfl,rfl⟩
 have h0:¬a<0:=e9;go_enter func304,ntmps304;go_wp2_with (first|(go_at_call 160;refine cg.kq ?_;rintro w1 rfl));go_ret3;exact⟨rfl,rfl⟩
def AR (h:eW S m b pb d_ c_ e_ s F w) (tY:1<=c_/\c_<=256) (GG:d_<=524288) (p i:Nat) (hi:i<c_) (ha:p*c_+i<d_): WR 304 #[Wz m,((p*c_+i:Nat):Int)] w (.tuple #[.int .i64 (Pg.cS (d_/c_) F p).1,i,.int .i64 (Pg.cS (d_/c_) F p).2]) λw'=>Below w.heap.size w w':=by
 obtain⟨c0,c1,c2⟩:=h.cells;have cg:=a_ (dt m b w c0);have xn:=a_ (sS h);have qg:=λW (hW:eW S m b pb d_ c_ e_ s F W)=>uv hW p;have HR:=a_ h;obtain⟨x,y,hx,hy⟩:∃x y,(Pg.cS (d_/c_) F p).1=x/\(Pg.cS (d_/c_) F p).2=y:=⟨_,_,rfl,rfl⟩;rw[hx,hy];simp only[hx,hy] at qg;have LQ:=sW (p:=p) hi;have tM:=Am (p:=p) hi;obtain⟨a,hA⟩:=kw (p*c_+i);rw[hA] at ha LQ tM ⊢;have NQ:(a:Int)/(c_:Int)=p:=by rw[<-Int.natCast_ediv,LQ]
 have Og:(a:Int)%(c_:Int)=i:=by rw[<-Int.natCast_emod,tM]
 have h1:¬(a:Int)<0:=e9;have h2:¬(d_:Int)<=a:=e9;have h3:(0:Int)<=a:=e9;have h4:(a:Int)<=524288:=e9;have h5:(0:Int)<c_:=e9;have h6:(c_:Int)<=256:=e9;replace qg:=a_ qg;obtain⟨pi,Cx⟩:∃pi:Int,(c_:Int)=pi:=⟨_,rfl⟩;rw[Cx] at xn NQ Og h5 h6;clear h hx hy hA tM;have hz:¬pi=0:=e9;have hi6:i<=256:=e9;have Hdi:=a_ (show IntKind.i64.wrap ((a:Int)/pi)=p by rw[NQ];exact i_ _ (by have:=rx a c_;rw[LQ] at this;omega));have Hmi:=a_ (show (a:Int).tmod pi=i by rw[Fm h3,Og]);have Hmi2:=a_ (show IntKind.i64.wrap (i:Int)=i from i_ _ e9);have Hmi3:=a_ Og;clear NQ Og Cx tY LQ;go_enter func304,ntmps304;go_wp2_with (first|(go_at_call 160;refine cg.kq ?_;rintro w1 rfl)|(go_at_call 244;refine xn.kq ?_;rintro w1 rfl));have NQ:=Hdi.out;go_region_held3 (λw'=>w'.cell? ⟨m,1,none⟩=some (.pointer (some ⟨pb,0,none⟩))) (first|exact c1|exact d1|go_keep) ((go_at_call 292;refine (qg _ (HR.grow (ay w))).kq λw1 hb=>?_;have Hb:=a_ hb;have d1:=((HR.grow (ay w)).grow hb).cells.2.1;clear hb));clear NQ;go_wp2;have Og:=Hmi.out;have hmi2:=Hmi2.out;have hmi3:=Hmi3.out;go_quiet (fail);go_wp2;go_ret3;exact⟨rfl,seq (seq (ay w) Hb) (Fr.aA _ _)⟩
def ga (d_ c_:Nat) (v:VS) (a:Int):Int:=if a<0\/(d_:Int)<=a then 11 else if v.mp (a.toNat/c_)=true then 0 else 12
def eU (d_ c_:Nat) (v:VS) (a:Int):Nat:=if ga d_ c_ v a=0 then v.wd a.toNat else 0
def du (d_ c_:Nat) (v:VS) (a:Int) (x:Nat):VS:=if ga d_ c_ v a=0 then fB v a.toNat x else v
def Ca {c_:Nat} {s:Fr.PS} {f:Int} {i:Nat} (h:Fr.has s f=true) (hi:i<c_):Fr.gM c_ s f i=0:=by unfold Fr.gM;rw[b_ (ro.2 h),cG]
def load_vm (S:Nat->Prop) (m d_ c_ e_ t:Nat) (v:VS) (w:World) (h:Vm S m d_ c_ e_ t v w) (a:Int): WR 258 #[Wz m,a] w (.tuple #[.int .u64 (eU d_ c_ v a),(ga d_ c_ v a:Int)]) λw'=>Below w.heap.size w w':=by
 obtain⟨b,pb,s,F,hR,hk,Db,hV,eu,jk,mI⟩:=h;obtain⟨c0,c1,-⟩:=hR.cells;unfold eU ga;by_cases ha:a<0\/(d_:Int)<=a
 .have Hf:=a_ (xF hR a ha);rw[b9 ha,b_ z9];clear hR hk hV eu jk mI ha;go_enter func258,ntmps258;go_wp2_with (first|(go_at_call 304;refine Hf.kq ?_;rintro w1 rfl));go_ret2;exact⟨rfl,Below.refl _ _⟩
 rw[b_ ha];obtain⟨a,rfl⟩:∃q:Nat,a=q:=⟨a.toNat,e9⟩;rw[f_];have hp1:=hk.mf;have hi:=AC a (show 0<c_ by omega);have hap:a/c_*c_+a%c_=a:=by rw[GP];exact ac3 a c_
 have hlt:a/c_<d_/c_:=ah8 (by rw[ai2 (go jk)];omega);have Hf:=AR hR hp1 eu.2 (a/c_) (a%c_) hi (by rw[hap];omega);rw[hap] at Hf;unfold Pg.cS at Hf;rw[b_ (ro.2 ⟨UM _,Int.ofNat_lt.2 hlt⟩),f_] at Hf;by_cases h2:v.mp (a/c_)=true
 .have h3:=(hV.mp _ hlt).1 h2;rw[b9 h2,b9 rfl];rw[b_ h3,show (F (a/c_):Int)-1=((F (a/c_)-1:Nat):Int) by omega] at Hf;have MQ:=λW (hW:eW S m b pb d_ c_ e_ s F W)=>load_raw hW hk ((F (a/c_)-1:Nat):Int) ((a%c_:Nat):Int);have OH:=Ca (hV.has _ hlt h3) hi;have fZ:=hV.wd _ _ hlt h3 hi;rw[hap] at fZ;unfold Fr.Bu at MQ;simp only[OH,QQ,f_,fZ] at MQ;have HR:=a_ hR;generalize F (a/c_)-1=f0 at *;generalize a%c_=i0 at *;generalize v.wd a=x at *;replace Hf:=a_ Hf;replace MQ:=a_ MQ;clear hR hk hV eu jk mI ha h2 h3 hp1 hi hap hlt OH fZ;go_enter func258,ntmps258;go_wp2_with (first|(go_at_call 304;refine Hf.kq λw1 hb=>?_;have Hb:=a_ hb;obtain⟨d0,d1,-⟩:=(HR.grow hb).cells;clear hb)|(go_at_call 305;refine (MQ _ (HR.grow Hb)).kq ?_;rintro w1 rfl));go_ret2;exact⟨rfl,Hb⟩
 have h3:F (a/c_)=0:=ro.1 λk=>h2 ((hV.mp _ hlt).2 k);rw[b_ h2,b_ z9];rw[b9 h3] at Hf;generalize a%c_=i0 at *;replace Hf:=a_ Hf;clear hR hk hV eu jk mI ha h2 h3 hp1 hi hap hlt;go_enter func258,ntmps258;go_wp2_with (first|(go_at_call 304;refine Hf.kh λw1 Hb=>?_));go_ret2;exact⟨rfl,Hb⟩
def store_vm (S:Nat->Prop) (m d_ c_ e_ t:Nat) (v:VS) (w:World) (h:Vm S m d_ c_ e_ t v w) (a:Int) (x:Nat) (hx:x<18446744073709551616): WR 259 #[Wz m,a,.int .u64 x] w (ga d_ c_ v a:Int) λw'=>jc S m d_ c_ e_ t (du d_ c_ v a x) w w':=by
 have HV:=a_ h;obtain⟨b,pb,s,F,hR,hk,Db,hV,eu,jk,mI⟩:=h;obtain⟨c0,c1,-⟩:=hR.cells;unfold du ga;by_cases ha:a<0\/(d_:Int)<=a
 .have Hf:=a_ (xF hR a ha);rw[b9 ha,b_ z9];clear hR hk hV eu jk mI ha;go_enter func259,ntmps259;go_wp2_with (first|(go_at_call 304;refine Hf.kq ?_;rintro w1 rfl));go_ret;exact⟨rfl,jc.of HV (Below.refl _ _)⟩
 rw[b_ ha];obtain⟨a,rfl⟩:∃q:Nat,a=q:=⟨a.toNat,e9⟩;rw[f_];have hp1:=hk.mf;have hi:=AC a (show 0<c_ by omega);have hap:a/c_*c_+a%c_=a:=by rw[GP];exact ac3 a c_
 have hlt:a/c_<d_/c_:=ah8 (by rw[ai2 (go jk)];omega);have Hf:=AR hR hp1 eu.2 (a/c_) (a%c_) hi (by rw[hap];omega);rw[hap] at Hf;unfold Pg.cS at Hf;rw[b_ (ro.2 ⟨UM _,Int.ofNat_lt.2 hlt⟩),f_] at Hf;by_cases h2:v.mp (a/c_)=true
 .have h3:=(hV.mp _ hlt).1 h2;rw[b9 h2,b9 rfl];rw[b_ h3,show (F (a/c_):Int)-1=((F (a/c_)-1:Nat):Int) by omega] at Hf;have CP:=λW (hW:eW S m b pb d_ c_ e_ s F W)=>store_raw hW hk ((F (a/c_)-1:Nat):Int) ((a%c_:Nat):Int) x;have OH:=Ca (hV.has _ hlt h3) hi;have KJ:=hV.put hlt h3 hi x;rw[hap] at KJ;unfold Fr.wJ at CP;simp only[OH,QQ,f_] at CP;have tS:=a_ (show (Fr.wC s (F (a/c_)-1) (a%c_) x).ok e_ c_/\(Fr.wC s (F (a/c_)-1) (a%c_) x).times<=t/\Vr c_ (d_/c_) (Fr.wC s (F (a/c_)-1) (a%c_) x) F (fB v a x)/\vy d_ c_ from⟨Fr.putW_ok hk _ _ x hx,Db,KJ,eu,jk,mI⟩);have HR:=a_ hR;generalize F (a/c_)-1=f0 at *;generalize a%c_=i0 at *;replace Hf:=a_ Hf;replace CP:=a_ CP;clear hR hk hV eu jk mI ha h2 h3 hp1 hi hap hlt OH KJ;go_enter func259,ntmps259;go_wp2_with (first|(go_at_call 304;refine Hf.kq λw1 hb=>?_;have Hb:=a_ hb;obtain⟨d0,d1,-⟩:=(HR.grow hb).cells;clear hb)|(go_at_call 306;refine (CP _ (HR.grow Hb)).kh λw2 Hd=>?_));go_ret;obtain⟨S',k1,k2,k3⟩:=Hd.out;exact⟨rfl,S',⟨b,pb,_,_,k1,tS⟩,(df.of Hb).trans k2 (λ_ _ h=>h),(eY.refl S w).trans k3 Hb.size⟩
 have h3:F (a/c_)=0:=ro.1 λk=>h2 ((hV.mp _ hlt).2 k);rw[b_ h2,b_ z9];rw[b9 h3] at Hf;generalize a%c_=i0 at *;replace Hf:=a_ Hf;clear hR hk hV eu jk mI ha h2 h3 hp1 hi hap hlt;go_enter func259,ntmps259;go_wp2_with (first|(go_at_call 304;refine Hf.kh λw1 Hb=>?_));go_ret;exact⟨rfl,jc.of HV Hb⟩
section
variable (S:Nat->Prop)(m d_ c_ e_ t:Nat)(v:VS)(w:World)(h:Vm S m d_ c_ e_ t v w)
include h
def page_vm:WR 169 #[Wz m] w c_ λw'=>w=w':=by obtain⟨b,pb,s,F,hR,hk,Db,hV,eu⟩:=h;obtain⟨c0,c1,-⟩:=hR.cells;have Hx:=a_ (sS hR);have cg:=a_ (dt m b w c0);clear hR hk hV eu;go_enter func169,ntmps169;go_wp2_with (first|(go_at_call 160;refine cg.kq ?_;rintro w1 rfl)|(go_at_call 244;refine Hx.kq ?_;rintro w1 rfl));go_ret;exact⟨rfl,rfl⟩
def words_vm:WR 157 #[Wz m] w d_ λw'=>w=w':=by obtain⟨b,pb,s,F,hR,hk,Db,hV,eu⟩:=h;obtain⟨c0,c1,c2⟩:=hR.cells;have cg:=a_ (dt m b w c0);clear hR hk hV eu;go_enter func157,ntmps157;go_wp2_with (first|(go_at_call 160;refine cg.kq ?_;rintro w1 rfl));go_ret;exact⟨rfl,rfl⟩
def used_vm:WR 78 #[Wz m] w v.used λw'=>w=w':=by obtain⟨b,pb,s,F,hR,hk,Db,hV,eu⟩:=h;obtain⟨c0,c1,-⟩:=hR.cells;have hx:=used_raw hR;rw[hV.used] at hx;have Hx:=a_ hx;have cg:=a_ (dt m b w c0);clear hR hk hV eu hx;go_enter func78,ntmps78;go_wp2_with (first|(go_at_call 160;refine cg.kq ?_;rintro w1 rfl)|(go_at_call 161;refine Hx.kq ?_;rintro w1 rfl));go_ret;exact⟨rfl,rfl⟩
end
def dQ (v:VS) (p:Nat):Nat->List Nat
 |0=> []
 |k+1=>dQ v p k++(if v.mp (p+k)=true then [] else [p+k])
def dL (c_:Nat) (v:VS) (l:List Nat):VS:=l.foldl (nV c_) v
def oH (v:VS) (h:Nat):VS:={v with aM:=h}
def uN (c_:Nat) (v:VS) (l:List Nat) (p:Nat):dL c_ v (l++ [p])=nV c_ (dL c_ v l) p:=by simp[dL]
def rh (c_:Nat) (v:VS) (l:List Nat) (q:Nat):(dL c_ v l).mp q=(v.mp q || decide (q∈l)):=by
 induction l generalizing v with
 |nil=>simp[dL]
 |cons a l ih=>
  show (dL c_ (nV c_ v a) l).mp q=_;rw[ih];show ((if q=a then true else v.mp q) || _)=_;by_cases h:q=a;subst h;simp;simp[h]
def jo (c_:Nat) (v:VS) (l:List Nat):(dL c_ v l).used=v.used+l.length:=by
 induction l generalizing v with
 |nil=>rfl
 |cons a l ih=>
  show (dL c_ (nV c_ v a) l).used=_;rw[ih];show v.used+1+l.length=_;simp;omega
def nU (c_:Nat) (v:VS) (l:List Nat) (a:Nat):(dL c_ v l).wd a=if a/c_∈l then 0 else v.wd a:=by
 induction l generalizing v with
 |nil=>simp[dL]
 |cons b l ih=>
  show (dL c_ (nV c_ v b) l).wd a=_;rw[ih];show (if a/c_∈l then 0 else if a/c_=b then 0 else v.wd a)=_;by_cases h:a/c_=b;simp[h];simp[h]
def uM (c_:Nat) (v:VS) (l:List Nat):(dL c_ v l).aM=if l=[] then v.aM else max v.aM (v.used+l.length):=by
 induction l generalizing v with
 |nil=>rfl
 |cons b l ih=>
  show (dL c_ (nV c_ v b) l).aM=_;rw[ih];show (if l=[] then max v.aM (v.used+1) else max (max v.aM (v.used+1)) (v.used+1+l.length))=_;by_cases h:l=[];subst h;simp;rw[b_ h,b_ qr];simp only[r'];omega
def jr {v:VS} {p k q:Nat}:q∈dQ v p k↔(p<=q/\q<p+k)/\v.mp q=false:=by
 induction k with
 |zero=>simp[dQ];omega
 |succ k ih=>
  unfold dQ;rw[z_,ih];by_cases h:v.mp (p+k)=true;rw[b9 h];refine⟨λhq=>?_,fun⟨a,hq⟩=> .inl ⟨?_,hq⟩⟩;rcases hq with⟨a,hq⟩|hq;exact⟨e9,hq⟩;cases hq;have:q≠p+k:=(by rintro rfl;rw[h] at hq;cases hq);omega;rw[b_ h];simp at h ⊢;constructor;rintro (a|rfl);exact⟨e9,a.2⟩;exact⟨e9,h⟩;rintro⟨a,c⟩;by_cases e:q=p+k;exact .inr e;exact .inl ⟨e9,c⟩
def mL (v:VS) (p k:Nat):(dQ v p k).Nodup:=by
 induction k with
 |zero=>exact List.nodup_nil
 |succ k ih=>
  unfold dQ;by_cases h:v.mp (p+k)=true;rw[b9 h,sh];exact ih;rw[b_ h,Fd];refine⟨ih,qr,λa ha b hb=>?_⟩;simp at hb;have:=(jr.1 ha).1;omega
def oa (v:VS) (p k:Nat):(dQ v p k).length<=k:=by
 induction k with
 |zero=>exact bi _
 |succ k ih=>
  unfold dQ;split<;>simp<;>omega
def newP_mono (v:VS) (p:Nat) {j k:Nat} (h:j<=k):∃r,dQ v p k=dQ v p j++r:=by
 induction k with
 |zero=>obtain rfl:j=0:=e9;exact⟨[],qr⟩
 |succ k ih=>
  by_cases e:j=k+1;subst e;exact⟨[],qr⟩;obtain⟨r,hr⟩:=ih e9;exact⟨r++(if v.mp (p+k)=true then [] else [p+k]),by rw[dQ,hr,t_]⟩
def undo_step {c_ np:Nat} {u:VS} {p H:Nat} (h:u.mp p=false):(tw (oH (nV c_ u p) H) p).like c_ np (oH u H):=by refine⟨λq hq=>?_,λa ha hm=>?_,?_,rfl⟩;show (if q=p then false else if q=p then true else u.mp q)=u.mp q;by_cases e:q=p;rw[b9 e,e,h];rw[b_ e,b_ e];have ky:(if a/c_=p then false else if a/c_=p then true else u.mp (a/c_))=true:=hm;show (if a/c_=p then 0 else u.wd a)=u.wd a;by_cases e:a/c_=p;rw[b9 e] at ky;cases ky;rw[b_ e];show u.used+1-1=u.used;omega
def qB (c_ e_:Nat) (v:VS) (p n:Nat):Int:=if v.used+(dQ v p n).length<=e_ then 0 else 14
def jP (c_ e_:Nat) (v:VS) (p n:Nat):VS:=if v.used+(dQ v p n).length<=e_ then dL c_ v (dQ v p n) else oH v (dL c_ v ((dQ v p n).take (e_-v.used))).aM
def dc (d_ c_ e_:Nat) (v:VS) (a b:Int):Int:=if a<0\/(d_:Int)<b then 11 else if b<=a then 0 else qB c_ e_ v (a.toNat/c_) ((b.toNat-1)/c_-a.toNat/c_+1)
def bH (d_ c_ e_:Nat) (v:VS) (a b:Int):VS:=if a<0\/(d_:Int)<b then v else if b<=a then v else jP c_ e_ v (a.toNat/c_) ((b.toNat-1)/c_-a.toNat/c_+1)
structure NS (W0:World) (S0:Nat->Prop) (m X1 X2 d_ c_ e_ t:Nat) (v:VS) (l:List Nat) (a:Option Addr) (cap:Nat) (S:Nat->Prop) (w:World):Prop where
 vm:Vm S m d_ c_ e_ t v w
 box:w.heap[X1]?=some (.cells #[Wz m] 92 (0,0))
 var:w.heap[X2]?=some (.cells #[.slice a l.length cap] 58 (0,0))
 row:bL W0.heap.size 3 (.slice a l.length cap) l.length (λi=> .int .i64 (l.getD i 0:Nat)) w
 x1:W0.heap.size<=X1
 x2:W0.heap.size<=X2
 EV:¬S X1
 CG:¬S X2
 CH:∀ad,a=some ad->¬S ad.block
 kD:df S0 W0 w
 zR:eY S0 S W0
variable {W0:World}{S0:Nat->Prop}{X1 X2 t':Nat}{v':VS}{l:List Nat}{a:Option Addr}{cap:Nat}
def NS.FC (h:NS W0 S0 m X1 X2 d_ c_ e_ t v l a cap S w) (hd:jc S m d_ c_ e_ t' v' w w'):∃S',NS W0 S0 m X1 X2 d_ c_ e_ t' v' l a cap S' w':=by
 obtain⟨S',k1,k2,k3⟩:=hd;have old:∀k,k<w.heap.size->¬S k->¬S' k:=λk hk hn hs=>by rcases k3 k hs with a|a;exact hn a;omega
 have Ji:∀ad,a=some ad->ad.block<w.heap.size:=λad e=>(h.row.lt ad.block (by rw[e];rfl)).2;refine⟨S',k1,k2.keep h.box h.EV,k2.keep h.var h.CG,h.row.from λg hg=>?_,h.x1,h.x2,old _ (bf h.box) h.EV,old _ (bf h.var) h.CG,λad e=>old _ (Ji ad e) (h.CH ad e),h.kD.then k2 h.zR,h.zR.trans k3 h.kD.size⟩;obtain⟨ad,e1,rfl⟩:=jT hg;exact k2.2.2.2.2 ad.block (Ji ad e1) (h.CH ad e1)
def NS.like (h:NS W0 S0 m X1 X2 d_ c_ e_ t v l a cap S w) (hl:v.like c_ (d_/c_) v'):NS W0 S0 m X1 X2 d_ c_ e_ t v' l a cap S w:=⟨h.vm.like hl,h.box,h.var,h.row,h.x1,h.x2,h.EV,h.CG,h.CH,h.kD,h.zR⟩
def NS.Iu (h:NS W0 S0 m X1 X2 d_ c_ e_ t v l a cap S w) (c:Below w.heap.size w w'):NS W0 S0 m X1 X2 d_ c_ e_ t v l a cap S w':=⟨h.vm.grow c,cQ c (bi _) h.box,cQ c (bi _) h.var,h.row.from λg hg=>c.block g (h.row.lt g hg).2,h.x1,h.x2,h.EV,h.CG,h.CH,h.kD.yo c,h.zR⟩
def NS.cells (h:NS W0 S0 m X1 X2 d_ c_ e_ t v l a cap S w):w.cell? ⟨X1,0,none⟩=some (.pointer (some ⟨m,0,none⟩))/\w.cell? ⟨X2,0,none⟩=some (.slice a l.length cap):=⟨an h.box 0 _ rfl,an h.var 0 _ rfl⟩
def NS.item (h:NS W0 S0 m X1 X2 d_ c_ e_ t v l a cap S w) {j:Nat} (hj:j<l.length):∃g,a=some ⟨g,0,none⟩/\w.cell? ⟨g,j,none⟩=some (.int .i64 (l.getD j 0:Nat)):=by obtain⟨-,-,-,hf,-⟩:=h.row.form;obtain⟨g,rfl,-,-⟩:=hf e9;exact⟨g,rfl,h.row.cell hj⟩
def take_get {l:List Nat} {j:Nat} (hj:j<l.length):l.take (j+1)=l.take j++ [l.getD j 0]:=by rw[y_ hj,ac,co hj];rfl
def undo_any {W0:World} {S0 S:Nat->Prop} {m X1 X2 d_ c_ e_ t H:Nat} {v:VS} {l:List Nat} {a:Option Addr} {cap:Nat} {w:World} (h:NS W0 S0 m X1 X2 d_ c_ e_ t (oH (dL c_ v l) H) l a cap S w) (hl:∀q,q∈l->q<d_/c_/\v.mp q=false) (hn:l.Nodup) (hlen:l.length<=1000000): WR 243 #[Wz X2,Wz X1] w (.tuple #[]) λw'=>∃S',NS W0 S0 m X1 X2 d_ c_ e_ t (oH v H) l a cap S' w':=by
 obtain⟨c1,c2⟩:=h.cells;obtain⟨Hl,Hn,HN⟩:=dF hl hn h;clear h hl hn;go_enter func243,ntmps243;go_wp2;clear c1 c2;go_loopw [2] (λi wr=>∃(z:Int) (k:Nat),i=.int .i64 z/\z+1=k/\k<=l.length/\∃S',NS W0 S0 m X1 X2 d_ c_ e_ t (oH (dL c_ v (l.take k)) H) l a cap S' wr) (λi _=>(intOf i+1).toNat);exact⟨_,l.length,rfl,e9,e9,S,by rw[Pu];exact HN⟩;clear HN;obtain⟨z,k,rfl,hz,hk,S1,hN⟩:=hrel;by_cases hz0:0<=z
 .obtain⟨j,rfl⟩:∃j:Nat,z=j:=⟨z.toNat,e9⟩;obtain rfl:j+1=k:=e9;clear hz hz0;have hj:j<l.length:=e9;have EE:=take_get hj;obtain⟨g,rfl,cj⟩:=hN.item hj;obtain⟨c1,c2⟩:=hN.cells;have hmem:l.getD j 0∈l:=(by rw[ac,co hj];exact ri hj);obtain⟨hq,hm⟩:=Hl _ hmem;have hno:l.getD j 0∉l.take j:=λhx=>(by have hnd:=Hn.out;have:(l.take (j+1)).Nodup:=hnd.sublist (List.take_sublist _ _);rw[EE,Fd] at this;exact this.2.2 _ hx _ (pu.2 rfl) rfl);rw[EE,uN] at hN;have hu:(dL c_ v (l.take j)).mp (l.getD j 0)=false:=(by rw[rh,hm];simpa using hno);obtain⟨p,hp⟩:=kw (l.getD j 0);rw[hp] at hq hm hno hu hmem EE hN cj;have Hp:=a_ hp;have hun:=λW S2 (hW:NS W0 S0 m X1 X2 d_ c_ e_ t (oH (nV c_ (dL c_ v (l.take j)) p) H) l (some ⟨g,0,none⟩) cap S2 W)=>yO S2 m d_ c_ e_ t _ W hW.vm (p:Int);have zw:(oH (nV c_ (dL c_ v (l.take j)) p) H).mp p=true:=(by show (if p=p then true else _)=true;rw[b9 rfl]);unfold bY lj at hun;simp only[b_ (show ¬¬(0<=(p:Int)/\(p:Int)<((d_/c_:Nat):Int)) from ro.2 ⟨UM _,Int.ofNat_lt.2 hq⟩),f_,zw,QQ] at hun;have Hlk:=a_ (undo_step (c_:=c_) (np:=d_/c_) (H:=H) hu);obtain⟨Hun,HN,Hj⟩:=dF hun hN hj;have j1:(0:Int)<=j:=e9;have j2:(j:Int)<l.length:=e9;have j3:((j:Int):Int).toNat=j:=e9;have j4:(j:Int)<=1000000:=e9;clear hun hN hq hm hno hu hmem EE zw hp;go_wp2;go_region_held3 (λw'=>w'.cell? ⟨X1,0,none⟩=some (.pointer (some ⟨m,0,none⟩))/\w'.cell? ⟨X2,0,none⟩=some (.slice (some ⟨g,0,none⟩) l.length cap)/\w'.cell? ⟨g,j,none⟩=some (.int .i64 p)) (first|exact⟨c1,c2,cj⟩|exact⟨d1,d2,dj⟩|go_keep) ((go_at_call 170;refine (Hun _ _ (HN.Iu (ay wr))).kq λw1 hd=>?_;obtain⟨S2,tK⟩:=(HN.Iu (ay wr)).FC hd;obtain⟨d1,d2⟩:=tK.cells;have dj:=tK.row.cell Hj;simp only[Hp.out] at dj;have zF:=a_ (tK.like Hlk);clear hd tK));all_goals
   go_wp2;go_roundw;exact⟨(j:Int)-1,j,by go_num,e9,e9,_,zF⟩;simp[intOf]
 obtain rfl:k=0:=e9;clear hz;have HN:=a_ hN;clear hN;go_wp2;go_end0;exact⟨rfl,S1,HN⟩
def box_ne_int:(92:Nat)≠3:=z9
def row_ne_int:(58:Nat)≠3:=z9
def pushed_row (l:List Nat) (p:Nat):fh l.length (λi=>Value.int .i64 (l.getD i 0:Nat))++ [Value.int .i64 p]=fh (l++ [p]).length (λi=>Value.int .i64 ((l++ [p]).getD i 0:Nat)):=by have e: [Value.int .i64 p]=fh 1 λ_=>Value.int .i64 p:=rfl;rw[e,kJ,ge];refine rX λi hi=>?_;have nN:i<l.length+1:=hi;by_cases h:i<l.length;rw[b9 h,ac,ac,rf h];rw[b_ h];obtain rfl:i=l.length:=e9;simp
def NS.var5 (h:NS W0 S0 m X1 X2 d_ c_ e_ t v l a cap S w) {x:Value} {w5:World} (bZ:(w.alloc (.cells #[x] 3)).grownBy w5 (Value.slice a l.length cap).ownBlock): w5.heap[X2]?=some (.cells #[.slice a l.length cap] 58 (0,0)):=by refine ((bZ.block X2 (by have:=bf h.var;simp;omega) λe=>?_).trans (Below.heap_alloc w _ X2 (bf h.var))).trans h.var;obtain⟨cur,hc⟩:=h.row.block X2 e.symm;rw[h.var] at hc;simp at hc
def NS.push (h:NS W0 S0 m X1 X2 d_ c_ e_ t v l a cap S w) (p:Nat) {x:Int} (hx:(p:Int)=x) {g5 tW:Nat} {w5:World} (hown:w5.ownsRow W0.heap.size 3 1 (.slice (some ⟨g5,0,none⟩) (l.length+1) tW) (l.length+1) (fh l.length (λi=> .int .i64 (l.getD i 0:Nat))++ [.int .i64 x])) (bZ:(w.alloc (.cells #[x] 3)).grownBy w5 (Value.slice a l.length cap).ownBlock) (jI:(Value.slice a l.length cap).ownBlock=some g5\/g5=w.heap.size+1): NS W0 S0 m X1 X2 d_ c_ e_ t v (l++ [p]) (some ⟨g5,0,none⟩) tW S (w5.setCell ⟨X2,0,none⟩ (.slice (some ⟨g5,0,none⟩) (l.length+1) tW)):=by
 subst hx;have hsz:w.heap.size+1<=w5.heap.size:=by have:=bZ.size;simpa using this
 have old:∀q,q<w.heap.size->some q≠(Value.slice a l.length cap).ownBlock->w5.heap[q]?=w.heap[q]?:=λq hq hn=>(bZ.block q yd hn).trans (Below.heap_alloc w _ q hq);have OU:∀ {q:Nat} {c:Array Value} {t:TypeId},w.heap[q]?=some (.cells c t (0,0))->t≠3->some q≠(Value.slice a l.length cap).ownBlock:=λ{q c t} hq hne e=>by obtain⟨cur,hc⟩:=h.row.block q e.symm;rw[hq] at hc;simp at hc;exact hne hc.2
 have Gp:w5.heap[X1]?=some (.cells #[Wz m] 92 (0,0)):=(old X1 (bf h.box) (OU h.box box_ne_int)).trans h.box;have Mb:w5.heap[X2]?=some (.cells #[.slice a l.length cap] 58 (0,0)):=(old X2 (bf h.var) (OU h.var row_ne_int)).trans h.var;have hne:X1≠X2:=by intro e;have h1:=h.box;rw[e,h.var] at h1;simp at h1
 obtain⟨JY,Vo⟩:∃cur,w5.heap[g5]?=some (.cells cur 3 (0,0)):=by rcases hown.2 with⟨e,_⟩|⟨g,c,cur,e,h1,h2,_⟩;cases e;simp at e;obtain⟨rfl,_⟩:=e;exact⟨cur,h2⟩
 have hg5:g5≠X2:=by rintro rfl;rw[Mb] at Vo;simp at Vo
 have c4:df (λq=>some q=(Value.slice a l.length cap).ownBlock\/q=X2) w w5:=⟨bZ.os,bZ.tape,bZ.output,e9,λq hq hn=>old q hq (λe=>hn (.inl e))⟩;have c5:df (λq=>some q=(Value.slice a l.length cap).ownBlock\/q=X2) w (w5.setCell ⟨X2,0,none⟩ (.slice (some ⟨g5,0,none⟩) (l.length+1) tW)):=c4.set (p:=⟨X2,0,none⟩) (.inl (.inr rfl)) _;refine⟨h.vm.keep c5 (λk hs hk=>?_),?_,?_,?_,h.x1,h.x2,h.EV,h.CG,λad e=>?_,?_,h.zR⟩;rcases hk with hk|rfl;obtain⟨ad,e1,rfl⟩:=jT hk.symm;exact h.CH ad e1 hs;exact h.CG hs;rw[Gg (show X1≠X2 from hne)];exact Gp;rw[rp w5 X2 0 _ _ _ Mb,ge];try rfl
 unfold bL;rw[<-pushed_row,ge];exact sR hown λq hq=>Gg (by simp[Value.ownBlock] at hq;show q≠X2;omega);simp at e;subst e;show ¬S g5;rcases jI with e2|e2;obtain⟨ad,e1,e3⟩:=jT e2;rw[<-e3];exact h.CH ad e1;intro hs;have:=h.vm.in g5 hs;omega;refine h.kD.trans (T:=λq=>some q=(Value.slice a l.length cap).ownBlock\/q=X2) c5 (λq hq hk=>?_);have jl:=h.x2;rcases hk with hk|rfl;have:=(h.row.lt q hk.symm).1;omega;omega
def int_info':(prog.info? 3).map (λi=>(i.zero,i.size,i.bytes))=some (some (.int .i64 0),1,8):=ol
def needNV_full {c_ e_:Nat} {v:VS} {p n k:Nat} (hk:k<n) (hm:¬v.mp (p+k)=true) (hr:(dL c_ v (dQ v p k)).used=e_): qB c_ e_ v p n=14/\jP c_ e_ v p n=oH v (dL c_ v (dQ v p k)).aM:=by
 rw[jo] at hr;obtain⟨r,h1⟩:=newP_mono v p (show k+1<=n by omega);have h2:dQ v p (k+1)=dQ v p k++ [p+k]:=by rw[dQ,b_ hm]
 have h3:¬v.used+(dQ v p n).length<=e_:=by rw[h1,h2];simp only[ge,Nq];omega
 unfold qB jP;rw[b_ h3,b_ h3];refine⟨rfl,?_⟩;congr 2;rw[h1,h2,t_];congr 1;exact ak4 e9
def need_simple (S:Nat->Prop) (m d_ c_ e_ t:Nat) (v:VS) (w:World) (h:Vm S m d_ c_ e_ t v w) (a b:Int) (hab:(a<0\/(d_:Int)<b)\/b<=a): WR 165 #[Wz m,a,b] w (dc d_ c_ e_ v a b:Int) λw'=>bH d_ c_ e_ v a b=v/\Below w.heap.size w w':=by
 obtain⟨mb,pb,s,F,hR,-⟩:=h;obtain⟨c0,c1,c2⟩:=(hR.grow (au w (.cells #[Wz m] 92))).cells;have cg:=a_ (dt m mb _ c0);have Hb:=a_ (au w (.cells #[Wz m] 92));clear hR;unfold dc bH;by_cases h1:a<0
 .rw[b9 (.inl h1),b9 (.inl h1)];clear hab;go_enter func165,ntmps165;go_wp2_with (go_at_call 160;refine cg.kq ?_;rintro w1 rfl);go_ret;exact⟨rfl,trivial,Hb⟩
 by_cases h2:(d_:Int)<b
 .rw[b9 (.inr h2),b9 (.inr h2)];clear hab;go_enter func165,ntmps165;go_wp2_with (go_at_call 160;refine cg.kq ?_;rintro w1 rfl);go_ret;exact⟨rfl,trivial,Hb⟩
 have h3:b<=a:=e9;have h4:¬(a<0\/(d_:Int)<b):=e9;rw[b_ h4,b_ h4,b9 h3,b9 h3];clear h4;clear hab;go_enter func165,ntmps165;go_wp2_with (go_at_call 160;refine cg.kq ?_;rintro w1 rfl);go_ret;exact⟨rfl,trivial,Hb⟩
def need_run (S0:Nat->Prop) (m d_ c_ e_ t:Nat) (v:VS) (w:World) (h:Vm S0 m d_ c_ e_ t v w) (ht:t<=999000000000000) (a b:Int) (h1:0<=a) (h2:b<=d_) (h3:a<b) (p0 p1:Nat) (tY:a/(c_:Int)=p0) (hp1:(b-1)/(c_:Int)=p1) (h01:p0<=p1) (Cw:p1<d_/c_): WR 165 #[Wz m,a,b] w (qB c_ e_ v p0 (p1-p0+1):Int) λw'=>jc S0 m d_ c_ e_ (t+(p1-p0+1)) (jP c_ e_ v p0 (p1-p0+1)) w w':=by
 obtain⟨fZ,jk,tN,CA,husd,xY⟩:=h.fX;have HV:=a_ h;obtain⟨mb,pb,s,F,hR,-⟩:=h;have bp:=au w (.cells #[Wz m] 92);have dw:=seq bp (au _ (.cells #[.slice none 0 0] 58));obtain⟨c0,c1,c2⟩:=(hR.grow bp).cells;obtain⟨d0,d1,d2⟩:=(hR.grow dw).cells;have cg:=a_ (dt m mb _ c0);have xn:=a_ (sS (hR.grow dw));have Mv:=a_ (show NS w S0 m w.heap.size (w.heap.size+1) d_ c_ e_ t v [] none 0 S0 ((w.alloc (.cells #[Wz m] 92)).alloc (.cells #[.slice none 0 0] 58)) from ⟨HV.grow dw,cQ (au _ _) (bi _) (ls w _),by have:=ls (w.alloc (.cells #[Wz m] 92)) (.cells #[.slice none 0 0] 58);simpa using this,bL.nil _ _ _ _,e9,e9,λhs=>by have:=HV.in _ hs;omega,λhs=>by have:=HV.in _ hs;omega,(λad e=>by cases e),df.of dw,eY.refl _ _⟩);obtain⟨pi,Cx⟩:∃pi:Int,(c_:Int)=pi:=⟨_,rfl⟩;rw[Cx] at xn tY hp1;have hpi1:1<=pi:=e9;have hpi2:pi<=256:=e9;have h4:¬a<0:=e9;have h5:¬(d_:Int)<b:=e9;have h6:¬b<=a:=e9;have q1:decide (a<0)=false:=g_ h4;have q2:decide ((d_:Int)<b)=false:=g_ h5;have q3:decide (b<=a)=false:=g_ h6;have h7:b<=524288:=e9;have h8:0<=b-1:=e9;have h9:p1<524288:=by have:=rx d_ c_;omega
 obtain⟨i1,hj,sB,oQ,sC⟩:=BT int_info';have Cd:=a_ hR;clear hR Cx bp dw;go_enter func165,ntmps165;go_wp2_with (first|(go_at_call 160;refine cg.kq ?_;rintro w1 rfl)|(go_at_call 244;refine xn.kq ?_;rintro w1 rfl));clear c0 c1 c2 d0 d1 d2;generalize w.heap.size=X1 at *;have Hp0:=a_ tY;clear tY;go_loopw [10] (λi wr=>∃(k:Nat) (l:List Nat) (a:Option Addr) (cap:Nat) (S:Nat->Prop),i=.int .i64 ((p0+k:Nat):Int)/\k<=p1-p0+1/\l=dQ v p0 k/\NS w S0 m X1 (X1+1) d_ c_ e_ (t+k) (dL c_ v l) l a cap S wr/\v.used+l.length<=e_) (λi _=>p1+1-(intOf i).toNat);exact⟨0,[],none,0,S0,by rw[Hp0.out];rfl,e9,rfl,Mv,by simpa using husd⟩;clear Mv;obtain⟨k,l,ar,cap,S,rfl,hk,hl,hN,hfit⟩:=hrel;have IL:l.length<=k:=by rw[hl];exact oa v p0 k
 have Hl:=a_ hl;clear hl;by_cases hlt:k<p1-p0+1
 .have hle:((p0+k:Nat):Int)<=p1:=e9;have qQ:=map_vm S m d_ c_ e_ (t+k) (dL c_ v l) wr hN.vm e9 ((p0+k:Nat):Int);have hno:p0+k∉l:=λhx=>(by rw[Hl.out] at hx;have:=(jr.1 hx).1;omega);have zw:(dL c_ v l).mp (p0+k)=v.mp (p0+k):=(by rw[rh,g_ hno,Bool.or_false]);unfold KY GK at qQ;rw[b_ (ro.2 ⟨UM _,e9⟩),f_,zw] at qQ;obtain⟨c1,c2⟩:=hN.cells;obtain⟨HN,Hno,Hmp⟩:=dF hN hno zw;clear hN hno zw;by_cases hm:v.mp (p0+k)=true
  .rw[b9 hm,b_ z9] at qQ;have Dq:=a_ qQ;have yg:dQ v p0 (k+1)=dQ v p0 k:=(by rw[dQ,b9 hm,sh]);have Hsame:=a_ yg;clear qQ hm yg;go_wp2_with (go_at_call 245;refine Dq.kq λw1 hd=>?_;obtain⟨S2,tK⟩:=HN.FC hd;have zF:=a_ tK;obtain⟨e1,e2⟩:=tK.cells;clear hd tK);go_roundw;exact⟨k+1,l,ar,cap,S2,by go_num,e9,by rw[Hsame.out];exact Hl,zF,hfit⟩;simp[intOf];omega
  rw[b_ hm] at qQ;by_cases hr:(dL c_ v l).used=e_
  .rw[b9 hr,b_ z9] at qQ;have hfull:=needNV_full (c_:=c_) (e_:=e_) (v:=v) (p:=p0) hlt hm (by rw[<-Hl.out];exact hr);rw[<-Hl.out] at hfull;obtain⟨Ia,Dq⟩:=aO hfull qQ;have hmem:∀q,q∈l->q<d_/c_/\v.mp q=false:=λq hq=>(by rw[Hl.out] at hq;have:=jr.1 hq;exact⟨e9,this.2⟩);have hnd:l.Nodup:=(by rw[Hl.out];exact mL v p0 k);obtain⟨JH,Hnd⟩:=aO hmem hnd;have MR:=a_ (show l.length<=1000000 by omega);clear qQ hr hm hfull hmem hnd;go_wp2_with (first|(go_at_call 245;refine Dq.kq λw1 hd=>?_;obtain⟨S2,tK⟩:=HN.FC hd;have zF:=a_ tK;obtain⟨e1,e2⟩:=tK.cells;clear hd tK)|(go_at_call 243;refine (undo_any (H:=(dL c_ v l).aM) zF JH Hnd MR).kq ?_;rintro w2 ⟨S3,Vg⟩;have Jy:=a_ Vg;clear Vg));go_ret;rw[Ia.out.1,Ia.out.2];exact⟨rfl,S3,Jy.vm.more e9,Jy.kD,Jy.zR⟩
  rw[b_ hr,b9 rfl] at qQ;have hfit2:v.used+(l.length+1)<=e_:=(by rw[jo] at hr;omega);have IP:dQ v p0 (k+1)=dQ v p0 k++ [p0+k]:=(by rw[dQ,b_ hm]);obtain⟨Hnext,Dq⟩:=aO IP qQ;have Hsnoc:=a_ (uN c_ v l (p0+k));clear qQ hr hm IP;go_wp2_with (first|(go_at_call 245;refine Dq.kq λw1 hd=>?_;obtain⟨S2,tK⟩:=HN.FC hd;have zF:=a_ tK;obtain⟨e1,e2⟩:=tK.cells;have Wd:=tK.kD.size;clear hd tK)|(at_builtin;refine aj2 _ rfl (.tmp 51) (.tmp 53) 58 rfl w.heap.size 3 i1 (.int .i64 0) 1 8 underlying58 hj sB oQ sC rfl z9 _ _ _ rfl (World.ownsRow.alloc zF.row _) ⟨w1.heap.size,0,none⟩ 1 1 [.int .i64 ((p0:Int)+k)] rfl rfl ?k1 ?k2 ?k3 ?k4 ?k5 ?k6 (w1.heap.size+1) ?k7 ?_));case k1=>exact ai8 (ls w1 (.cells #[((p0:Int)+k:Int)] 3))
  case k2=>intro u hu;simp at hu;subst hu;rfl
  case k3=>omega
  case k4=>unfold maxLen;omega
  case k5=>omega
  case k6=>simp;omega
  case k7=>simp
  intro g5 tW w5 IS zV NP hlt5;have Mb:=zF.var5 zV;have f1:=an Mb 0 _ rfl;have f2:=br Mb 0;have HN5:=a_ (zF.push (p0+k) e9 IS zV NP);clear IS zV NP Mb e1 e2;go_wp2;go_roundw;exact⟨k+1,l++ [p0+k],some ⟨g5,0,none⟩,tW,S2,by go_num,e9,by rw[Hnext.out,<-Hl.out],by rw[Hsnoc.out];exact HN5,by simpa using hfit2⟩;simp[intOf];omega
 obtain rfl:k=p1-p0+1:=e9;have hgt:¬((p0+(p1-p0+1):Nat):Int)<=p1:=e9;have ND:jc S0 m d_ c_ e_ (t+(p1-p0+1)) (dL c_ v l) w wr:=⟨S,hN.vm,hN.kD,hN.zR⟩;have hres:qB c_ e_ v p0 (p1-p0+1)=0/\jP c_ e_ v p0 (p1-p0+1)=dL c_ v l:=by unfold qB jP;rw[<-Hl.out,b9 hfit,b9 hfit];exact⟨rfl,rfl⟩
 have xo:=a_ hres;have zF:=a_ ND;clear hN ND hres;go_wp2;go_ret;rw[xo.out.1,xo.out.2];exact⟨rfl,zF⟩
def need_vm (S0:Nat->Prop) (m d_ c_ e_ t:Nat) (v:VS) (w:World) (h:Vm S0 m d_ c_ e_ t v w) (ht:t<=999000000000000) (a b:Int): WR 165 #[Wz m,a,b] w (dc d_ c_ e_ v a b:Int) λw'=>jc S0 m d_ c_ e_ (t+d_/c_) (bH d_ c_ e_ v a b) w w':=by
 by_cases h0:(a<0\/(d_:Int)<b)\/b<=a;exact (need_simple S0 m d_ c_ e_ t v w h a b h0).mono λe w' ⟨he,hv,hb⟩=>⟨he,by rw[hv];exact (jc.of h hb).more (Y_ _ _)⟩;have h1:¬(a<0\/(d_:Int)<b):=λk=>h0 (.inl k);have h2:¬b<=a:=λk=>h0 (.inr k);obtain⟨fZ,jk,tN,-⟩:=h.fX;obtain⟨x,rfl⟩:∃x:Nat,a=x:=⟨a.toNat,e9⟩;obtain⟨y,rfl⟩:∃y:Nat,b=y:=⟨b.toNat,e9⟩;have e1:(x:Int)/(c_:Int)=((x/c_:Nat):Int):=rfl;have e2:((y:Int)-1)/(c_:Int)=(((y-1)/c_:Nat):Int):=by rw[show (y:Int)-1=((y-1:Nat):Int) by omega];rfl
 have hle:x/c_<=(y-1)/c_:=pm e9;have hlt:(y-1)/c_<d_/c_:=ah8 (by rw[ai2 (go jk)];omega);unfold dc bH;rw[b_ h1,b_ h1,b_ h2,b_ h2,f_,f_];exact (need_run S0 m d_ c_ e_ t v w h ht x y e9 e9 e9 _ _ e1 e2 hle hlt).mono λe w' ⟨he,hd⟩=>⟨he,hd.more (by generalize (y-1)/c_=u at *;generalize x/c_=z at *;generalize d_/c_=nn at *;omega)⟩
def low_cleared (k x:Nat) (hk:k<=64) (hx:x<2^64):x &&& (2^64-1-(2^k-1))=x/2^k*2^k:=by have h1:1<=2^k:=Nat.one_le_two_pow;have h2:2^k<=2^64:=pl e9 hk;have e1:2^64-1-(2^k-1)=2^64-((2^k-1)+1):=e9;rw[e1,<-Nat.shiftRight_eq_div_pow,<-Nat.shiftLeft_eq];apply vC;intro i;rw[O_,N' e9,P_,Nat.testBit_shiftLeft,Nat.testBit_shiftRight];by_cases hi:i<64;by_cases wZ:k<=i;have:k+(i-k)=i:=e9;simp[hi,wZ,this,Nat.not_lt.2 wZ];have:i<k:=e9;simp[hi,wZ,this];have h3:x.testBit i=false:=H' (x_ hx (pl e9 e9));by_cases wZ:k<=i;have:k+(i-k)=i:=e9;simp[hi,h3,this];simp[hi,h3,wZ]
def page_pow {c_:Nat} (h:Fr.dp c_):∃k,k<=8/\c_=2^k:=by unfold Fr.dp at h;rcases h with h|h|h|h|h|h|h|h|h;exact⟨0,e9,e9⟩;exact⟨1,e9,e9⟩;exact⟨2,e9,e9⟩;exact⟨3,e9,e9⟩;exact⟨4,e9,e9⟩;exact⟨5,e9,e9⟩;exact⟨6,e9,e9⟩;exact⟨7,e9,e9⟩;exact⟨8,e9,e9⟩
def up_bits {c_ n:Nat} (h:Fr.dp c_) (hn:n<=1000000):bits .andNot .i64 ((n:Int)+c_-1) ((c_:Int)-1)=(((n+c_-1)/c_*c_:Nat):Int):=by have hp:=Fr.jm h;obtain⟨k,hk,Qq⟩:=page_pow h;have e1:(n:Int)+c_-1=((n+c_-1:Nat):Int):=e9;have e2:(c_:Int)-1=((c_-1:Nat):Int):=e9;rw[e1,e2];have key:=low_cleared k (n+c_-1) e9 e9;rw[<-Qq] at key;show IntKind.i64.wrap ((BitVec.ofInt 64 ((n+c_-1:Nat):Int) &&& ~~~BitVec.ofInt 64 ((c_-1:Nat):Int)).toNat:Int)=_;rw[aj6,BitVec.toNat_not,ofInt_u64 _ e9,ofInt_u64 _ e9,key];have hle:=C_ (n+c_-1) c_;exact i_ _ e9
def fits_any (n:Nat) (c_:Nat) (h:Fr.dp c_) (hn:n<=1000000) (w:World): WR 313 #[n,c_] w true λw'=>w=w':=by have hp:=Fr.jm h;have PI:=Fr.gj c_ w e9;rw[Fr.uW _ e9,(Fr.pO _).2 h] at PI;replace PI:=a_ PI;have h1:(c_:Int)<=256:=e9;have h3:(0:Int)<=n:=e9;have h4:(n:Int)<=1000000:=e9;have q1:decide ((c_:Int)<=1073741824)=true:=kr;have q2:decide ((n:Int)<=1152921504606846976)=true:=kr;have q3:decide ((0:Int)<=n)=true:=kr;clear h hp;go_enter func313,ntmps313;go_wp2_with (go_at_call 263;refine PI.kq ?_;rintro w1 rfl);go_ret;exact⟨rfl,rfl⟩
def up_any (n:Nat) (c_:Nat) (h:Fr.dp c_) (hn:n<=1000000) (w:World): WR 276 #[n,c_] w ((n+c_-1)/c_*c_:Nat) λw'=>w=w':=by have hp:=Fr.jm h;have Hf:=a_ (fits_any n c_ h hn w);have hub:=up_bits h hn;have h1:(c_:Int)<=256:=e9;have h2:(1:Int)<=c_:=e9;have h3:(0:Int)<=n:=e9;have h4:(n:Int)<=1000000:=e9;generalize (((n+c_-1)/c_*c_:Nat):Int)=r at *;clear h hp;go_enter func276,ntmps276;go_wp2_with (go_at_call 313;refine Hf.kq ?_;rintro w1 rfl);go_ret;exact⟨rfl,rfl⟩
def VK (W0:World) (m d_ c_ e_ t:Nat) (v:VS) (K:BL) (w:World):Prop:=∃S,Vm S m d_ c_ e_ t v w/\Fr.Up W0.heap.size S/\Below W0.heap.size W0 w/\∀x∈K,¬S x.1/\w.heap[x.1]?=some x.2
variable {K K':BL}
def new_end {w w1 w2:World} {b d_ c_ e_:Nat} {S2:Nat->Prop} (hP:Fr.UI w b e_ c_ Fr.start w1) (eu:vy d_ c_) (hk:Fr.start.ok e_ c_) (hM:Pg.Mp S2 (w1.heap.size+1+1) (d_/c_) (λ_=>0) w2) (hU:Pg.Up (w1.heap.size+1) S2) (hB:Below (w1.heap.size+1) (w1.alloc (.cells #[Wz b,.pointer none,d_] 244)) w2): VK w w1.heap.size d_ c_ e_ 0 VS.zero [] (w2.setCell ⟨w1.heap.size,1,none⟩ (.pointer (some ⟨w1.heap.size+1+1,0,none⟩))):=by
 obtain⟨S1,p1,u1,b1⟩:=hP;have hin:=p1.in;have LI:Below (w1.alloc (.cells #[Wz b,.pointer none,d_] 244)).heap.size (w1.alloc (.cells #[Wz b,.pointer none,d_] 244)) w2:=by simpa using hB
 have hd:=cQ LI (bi _) (ls w1 (.cells #[Wz b,.pointer none,d_] 244));have hc:df (λk=>k=w1.heap.size) w2 (w2.setCell ⟨w1.heap.size,1,none⟩ (.pointer (some ⟨w1.heap.size+1+1,0,none⟩))):=(df.refl (λk=>k=w1.heap.size) w2).set (p:=⟨w1.heap.size,1,none⟩) (.inl rfl) _;have h1:=b1.size;have h2:=LI.size;simp at h2;have hs:(w2.setCell ⟨w1.heap.size,1,none⟩ (.pointer (some ⟨w1.heap.size+1+1,0,none⟩))).heap.size=w2.heap.size:=by simp[World.setCell]
 refine⟨λk=>S1 k\/k=w1.heap.size\/S2 k,⟨b,w1.heap.size+1+1,Fr.start,λ_=>0,⟨rp w2 _ 1 _ _ _ hd,⟨S1,S2,((p1.grow (au w1 _)).grow LI).keep hc (λk a e=>?_),hM.keep hc (λk a e=>?_),λk a c=>?_,λa=>?_,λa=>?_,λk a=> .inl a,λk a=> .inr (.inr a)⟩,.inr (.inl rfl),λk hk=>?_⟩,hk,bi _,Vr.start _ _,eu⟩,λk hk=>?_,?_,qr⟩;have:=hin k a;omega;have:=hU k a;omega;have:=hin k a;have:=hU k c;omega;have:=hin _ a;omega;have:=hU _ a;omega;rw[hs];rcases hk with a|rfl|a;have:=hin k a;omega;omega;exact hM.in k a;rcases hk with a|rfl|a;exact u1 k a;exact h1;have:=hU k a;omega;exact (b1.trans ((au w1 _).mono h1 |>.trans (LI.mono yd))).setCell h1 _
def new_vk (d_ c_ e_:Nat) (w:World) (kA:1<=d_) (hw2:d_<=524288) (jk:d_%c_=0) (mI:Fr.dp c_) (Bo:1<=e_) (kz:e_<=4096): WA 107 #[d_,c_,e_] w λe w'=>∃m,e=.returned (.tuple #[Wz m,Wy])/\VK w m d_ c_ e_ 0 VS.zero [] w':=by
 have tN:=Fr.jm mI;have Hfn:=a_ (Fr.new_ps e_ c_ w Bo kz mI);have KF:1<=d_/c_:=by rcases x' (d_/c_) with e|e;have:=ac3 d_ c_;rw[e,jk] at this;omega;exact e
 have KG:d_/c_<=524288:=by have:=rx d_ c_;omega
 have Bg:=λW=>Pg.iQ (d_/c_) W KF KG;have hq:(d_:Int)/(c_:Int)=((d_/c_:Nat):Int):=rfl;have hm:(d_:Int)%(c_:Int)=0:=by rw[<-Int.natCast_emod,jk];rfl
 have tS:=a_ (show Fr.start.ok e_ c_/\vy d_ c_ from⟨Fr.start_ok ⟨Bo,kz⟩ tN,⟨kA,hw2⟩,jk,mI⟩);obtain⟨np,Cw⟩:=kw (d_/c_);rw[Cw] at hq KF KG;simp only[Cw] at Bg;obtain⟨Hpn,Hnp⟩:=aO Bg Cw;have g1:¬(d_:Int)<1:=e9;have g2:¬524288<(d_:Int):=e9;have g3:(1:Int)<=c_:=e9;have g4:(c_:Int)<=256:=e9;have g5:(0:Int)<=d_:=e9;have g6:(np:Int)<=524288:=e9;have g7:(0:Int)<=np:=e9;have q1:decide ((d_:Int)<1)=false:=g_ g1;have q2:decide (524288<(d_:Int))=false:=g_ g2;clear Bg Cw jk mI kA hw2 Bo kz KF KG;go_enter func107,ntmps107;go_wp2_with (first|(go_at_call 190;refine Hfn.kh λw1 HP=>?_)|(go_at_call 191;refine (Hpn _).kq ?_;rintro w2 ⟨⟨S2,m2,u2⟩,b2⟩;have HM:=a_ m2;have HU:=a_ u2;have HB:=a_ b2;have CW:=cQ b2 (bi _) (ls w1 _);have f1:=an CW 1 _ rfl;have f2:=br CW 1;clear m2 u2 b2 CW));go_ret2;exact⟨_,rfl,new_end HP tS.2 tS.1 (by rw[Hnp.out];simpa using HM.out) (by simpa using HU.out) (by simpa using HB.out)⟩
open Go.Maps
variable {w2:World}
def Dt (S T:Nat->Prop) (w w2:World):Prop:=∀k cs ty,S k->w.heap[k]?=some (.cells cs ty (0,0))->T k/\w2.heap[k]?=some (.cells cs ty (0,0))
def pl_loc {b e_ c_:Nat} {s:Fr.PS} (h:Fr.Pl S b e_ c_ s w) (hT:Dt S T w w2):Fr.Pl (λk=>S k/\T k/\k<w2.heap.size) b e_ c_ s w2:=by
 obtain⟨aw,cw,at_,ct,ab,cb,hm,⟨s1,s2,s3,s4⟩,hI⟩:=h;have key:∀ {B n k:Nat} {e:TypeId} {a:Option Addr} {c':Nat} {f:Nat->Value},bL B e (.slice a n c') k f w->(∀ad,a=some ad->S ad.block)->bL B e (.slice a n c') k f w2/\∀ad,a=some ad->S ad.block/\T ad.block/\ad.block<w2.heap.size:=by intro B n k e a c' f ho hs;have hb:∀g,(Value.slice a n c').ownBlock=some g->T g/\w2.heap[g]?=w.heap[g]?:=λg hg=>(by obtain⟨cur,hc⟩:=ho.block g hg;obtain⟨ad,rfl,rfl⟩:=Fr.dZ hg;obtain⟨h1,h2⟩:=hT _ _ _ (hs ad rfl) hc;exact⟨h1,h2.trans hc.symm⟩);refine⟨ho.from λg hg=>(hb g hg).2,λad he=>?_⟩;obtain⟨h1,h2⟩:=hb ad.block (by rw[he];rfl);obtain⟨cur,hc⟩:=ho.block ad.block (by rw[he];rfl);exact⟨hs ad he,h1,bf (h2.trans hc)⟩
 obtain⟨t1,t2⟩:=hT _ _ _ s1 hm.head;obtain⟨k1,l1⟩:=key hm.d_ s2;obtain⟨k2,l2⟩:=key hm.taken s3;obtain⟨k3,l3⟩:=key hm.back s4;exact⟨aw,cw,at_,ct,ab,cb,⟨t2,k1,k2,k3⟩,⟨⟨s1,t1,bf t2⟩,l1,l2,l3⟩,λk hk=>hk.2.2⟩
def mp_loc {b np:Nat} {F:Nat->Nat} (h:Pg.Mp S b np F w) (hT:Dt S T w w2):Pg.Mp (λk=>S k/\T k/\k<w2.heap.size) b np F w2:=by obtain⟨tb,ts,hM,⟨s1,s2,s3⟩,hI,hl⟩:=h;obtain⟨t1,u1⟩:=hT _ _ _ s1 hM.head;obtain⟨t2,u2⟩:=hT _ _ _ s2 hM.row;refine⟨tb,ts,⟨u1,u2,hM.many,hM.none,λi k hi hk=>⟨(hT _ _ _ (s3 i k hi hk) (hM.some i k hi hk).1).2,(hM.some i k hi hk).2⟩,hM.apart,hM.small⟩,⟨⟨s1,t1,bf u1⟩,⟨s2,t2,bf u2⟩,λi k hi hk=>?_⟩,λk hk=>hk.2.2,hl⟩;obtain⟨t3,u3⟩:=hT _ _ _ (s3 i k hi hk) (hM.some i k hi hk).1;exact⟨s3 i k hi hk,t3,bf u3⟩
def vm_loc {m d_ c_ e_ t:Nat} {v:VS} (h:Vm S m d_ c_ e_ t v w) (hT:Dt S T w w2):Vm (λk=>S k/\T k/\k<w2.heap.size) m d_ c_ e_ t v w2:=by obtain⟨b,pb,s,F,⟨hd,⟨S1,S2,h1,h2,h3,h4,h5,h6,h7⟩,ho,hI⟩,hk,ht,hv,eu⟩:=h;obtain⟨t1,u1⟩:=hT _ _ _ ho hd;exact⟨b,pb,s,F,⟨u1,⟨_,_,pl_loc h1 (λk cs ty hk hc=>hT k cs ty (h6 k hk) hc),mp_loc h2 (λk cs ty hk hc=>hT k cs ty (h7 k hk) hc),λk a c=>h3 k a.1 c.1,λa=>h4 a.1,λa=>h5 a.1,λk a=>⟨h6 k a.1,a.2.1,a.2.2⟩,λk a=>⟨h7 k a.1,a.2.1,a.2.2⟩⟩,⟨ho,t1,bf u1⟩,λk hk=>hk.2.2⟩,hk,ht,hv,eu⟩
def aH (m d_ c_ e_ t:Nat) (v:VS) (R:BL):Prop:=(∀x∈R,x.2.isCells=true)/\∀w,Has R w->Vm (Keys R) m d_ c_ e_ t v w
variable {R:BL}
open Classical in
def Vm.list (h:Vm S m d_ c_ e_ t v w):∃R,aH m d_ c_ e_ t v R/\At R w/\∀k,Keys R k->S k:=by
 let L:BL:=((List.range w.heap.size).filterMap λk=>if S k/\∃cs ty,w.heap[k]?=some (.cells cs ty (0,0)) then (w.heap[k]?).map λo=>(k,o) else none);have hmem:∀x,x∈L↔S x.1/\(∃cs ty,x.2=.cells cs ty (0,0))/\w.heap[x.1]?=some x.2:=λx=>by
  simp only[L,List.mem_filterMap,B_];constructor
  .rintro⟨k,hk,e⟩;split at e
   .next hc=>
    obtain⟨hs,cs,ty,ho⟩:=hc;rw[ho] at e;simp at e;subst e;exact⟨hs,⟨cs,ty,rfl⟩,ho⟩
   cases e
  rintro⟨hs,⟨cs,ty,e⟩,ho⟩;refine⟨x.1,bf ho,?_⟩;rw[b9 ⟨hs,cs,ty,by rw[ho,e]⟩,ho];rfl
 have hnd:(L.map (·.1)).Nodup:=by
  have:(L.map (·.1)).Sublist (List.range w.heap.size):=by
   simp only[L,List.map_filterMap];have:∀l:List Nat,(l.filterMap λk=>Option.map (λx:Nat×Obj=>x.1) (if S k/\∃cs ty,w.heap[k]?=some (.cells cs ty (0,0)) then (w.heap[k]?).map λo=>(k,o) else none)).Sublist l:=λl=>by
    induction l with
    |nil=>exact List.Sublist.refl _
    |cons a l ih=>
     rw[List.filterMap_cons];split;exact ih.cons _;next x hx=>
     have:x=a:=by
      split at hx;cases ho:w.heap[a]? with
      |none=>rw[ho] at hx;cases hx
      |some o=>rw[ho] at hx;simpa using hx.symm
      cases hx
     subst this;exact ih.cons_cons _
   exact this _
  exact this.nodup ab4
 refine⟨L,⟨λx hx=>?_,λw2 h2=>?_⟩,⟨λx hx=>((hmem x).1 hx).2.2,hnd⟩,λk ⟨x,hx,e⟩=>e▸((hmem x).1 hx).1⟩;obtain⟨-,⟨cs,ty,e⟩,-⟩:=(hmem x).1 hx;rw[e];rfl;have:=vm_loc (T:=Keys L) h (w2:=w2) λk cs ty hs hc=>⟨⟨(k,.cells cs ty (0,0)),(hmem _).2 ⟨hs,⟨cs,ty,rfl⟩,hc⟩,rfl⟩,h2 (k,.cells cs ty (0,0)) ((hmem _).2 ⟨hs,⟨cs,ty,rfl⟩,hc⟩)⟩;have e:(λk=>S k/\Keys L k/\k<w2.heap.size)=Keys L:=by funext k;apply propext;constructor;exact λh=>h.2.1;rintro⟨x,hx,rfl⟩;exact⟨((hmem x).1 hx).1,⟨x,hx,rfl⟩,bf (h2 x hx)⟩
 rwa [e] at this
def aH.vm (h:aH m d_ c_ e_ t v R) (hR:Has R w):Vm (Keys R) m d_ c_ e_ t v w:=h.2 w hR
def aH.FC (hR:At R w) (hd:jc (Keys R) m d_ c_ e_ t v w w'):∃R',aH m d_ c_ e_ t v R'/\ag R R' w w':=by obtain⟨S',k1,k2,k3⟩:=hd;obtain⟨R',h1,h2,h3⟩:=k1.list;exact⟨R',h1,⟨k2,h2,λx hx=>k3 _ (h3 _ ⟨x,hx,rfl⟩)⟩⟩
def aH.more (h:aH m d_ c_ e_ t v R) (ht:t<=t'):aH m d_ c_ e_ t' v R:=⟨h.1,λw hw=>(h.2 w hw).more ht⟩
def oE (h:aH m d_ c_ e_ t v R) (hR:At R w) (p:Int): WR 170 #[Wz m,p] w (lj (d_/c_) v p:Int) λw'=>∃R',aH m d_ c_ e_ t (bY (d_/c_) v p) R'/\ag R R' w w':=(yO _ m d_ c_ e_ t v w (h.vm hR.1) p).mono λe w' ⟨he,hd⟩=>⟨he,aH.FC hR hd⟩
def rk (h:aH m d_ c_ e_ t v R) (hR:At R w) (ht:t<=999000000000000) (a b:Int): WR 165 #[Wz m,a,b] w (dc d_ c_ e_ v a b:Int) λw'=>∃R',aH m d_ c_ e_ (t+d_/c_) (bH d_ c_ e_ v a b) R'/\ag R R' w w':=(need_vm _ m d_ c_ e_ t v w (h.vm hR.1) ht a b).mono λe w' ⟨he,hd⟩=>⟨he,aH.FC hR hd⟩
def jN (h:aH m d_ c_ e_ t v R) (hR:Has R w) (a:Int): WR 258 #[Wz m,a] w (.tuple #[.int .u64 (eU d_ c_ v a),(ga d_ c_ v a:Int)]) λw'=>Below w.heap.size w w':=load_vm _ m d_ c_ e_ t v w (h.vm hR) a
def la (h:aH m d_ c_ e_ t v R) (hR:At R w) (a:Int) (x:Nat) (hx:x<18446744073709551616): WR 259 #[Wz m,a,.int .u64 x] w (ga d_ c_ v a:Int) λw'=>∃R',aH m d_ c_ e_ t (du d_ c_ v a x) R'/\ag R R' w w':=(store_vm _ m d_ c_ e_ t v w (h.vm hR.1) a x hx).mono λe w' ⟨he,hd⟩=>⟨he,aH.FC hR hd⟩
def used_im (h:aH m d_ c_ e_ t v R) (hR:Has R w):WR 78 #[Wz m] w v.used λw'=>w=w':=used_vm _ m d_ c_ e_ t v w (h.vm hR)
def iI (h:aH m d_ c_ e_ t v R) (hR:Has R w):WR 157 #[Wz m] w d_ λw'=>w=w':=words_vm _ m d_ c_ e_ t v w (h.vm hR)
open Go.Sort
def mK (m:Nat):jA:=⟨92,.pointer (some ⟨m,0,none⟩),258,.pointer (some ⟨m,0,none⟩)⟩
def uO (m:Nat):AB (mK m):=⟨λw=>ol,λargs w=>ol⟩
def cR (d_ c_:Nat) (v:VS) (a:Nat):Prop:=a<d_/\v.mp (a/c_)=true
def fS {d_ c_:Nat} {v:VS} {a:Nat} (h:cR d_ c_ v a):ga d_ c_ v (a:Nat)=0/\eU d_ c_ v (a:Nat)=v.wd a:=by
 have e:ga d_ c_ v (a:Nat)=0:=by unfold ga;rw[b_ (by have:=h.1;omega),f_,b9 h.2]
 refine⟨e,?_⟩;unfold eU;rw[b9 e,f_]
def nX (h:aH m d_ c_ e_ t v R):mr (mK m) R v.wd (cR d_ c_ v):=⟨uO m,λW a hR hT ha=>by obtain⟨e1,e2⟩:=fS ha;have:=jN h hR.1 (a:Nat);rw[e1,e2] at this;exact this⟩
def room_im (h:aH m d_ c_ e_ t v R) (hR:Has R w):WR 209 #[Wz m] w e_ λw'=>w=w':=by obtain⟨b,pb,s,F,hR,hk,Db,hV,eu⟩:=h.vm hR;obtain⟨c0,c1,-⟩:=hR.cells;have hx:=room_raw hR;have Hx:=a_ hx;have cg:=a_ (dt m b w c0);clear hR hk hV eu hx h;go_enter func209,ntmps209;go_wp2_with (first|(go_at_call 160;refine cg.kq ?_;rintro w1 rfl)|(go_at_call 272;refine Hx.kq ?_;rintro w1 rfl));go_ret;exact⟨rfl,rfl⟩
def lG (h:aH m d_ c_ e_ t v R) (hR:Has R w):WR 169 #[Wz m] w c_ λw'=>w=w':=page_vm _ m d_ c_ e_ t v w (h.vm hR)
def dO (b:Nat) (zs:List Nat) (R:BL):Prop:=1<=zs.length/\zs.length<=64/\∃g,R=(b,.cells #[.slice (some ⟨g,0,none⟩) zs.length zs.length] 197 (0,0)):: [(g,.cells (ez zs).toArray 3 (0,0))]
variable {zs:List Nat}
def ints (zs:List Nat):List Int:=zs.map λx:Nat=>(x:Int)
def eL (zs:List Nat):(ints zs).length=zs.length:=by simp[ints]
def yh (zs:List Nat) (k:Nat):(ints zs).getD k 0=((zs.getD k 0:Nat):Int):=by unfold ints;rw[ac,ac,o_];cases zs[k]?<;>rfl
def ints_set (zs:List Nat) (k v:Nat):(ints zs).set k (v:Int)=ints (zs.set k v):=by simp[ints,Z']
def pL (zs:List Nat):Rt.gS (ints zs)=ez zs:=rfl
def dO.Lb (h:dO b zs R) (hR:Has R w):∃g,R=(b,.cells #[.slice (some ⟨g,0,none⟩) zs.length zs.length] 197 (0,0)):: [(g,.cells (ez zs).toArray 3 (0,0))]/\Rt.qh g b (ints zs) w:=by obtain⟨h1,h2,g,rfl⟩:=h;refine⟨g,rfl,⟨?_,?_,by rw[eL];exact h2⟩⟩;unfold Rt.jb;rw[pL];exact hR.tail.head;rw[eL];exact hR.head
def BK {g:Nat} {Tt:List Nat} (hR:At ((b,WD #[.slice (some ⟨g,0,none⟩) zs.length zs.length] 197):: [(g,.cells (ez zs).toArray 3 (0,0))]) w) (hl:Tt.length=zs.length) (h1:1<=zs.length) (h2:zs.length<=64) (hT:Rt.qh g b (ints Tt) w') (ho:Rt.tT g w w'): ∃R',dO b Tt R'/\ag ((b,WD #[.slice (some ⟨g,0,none⟩) zs.length zs.length] 197):: [(g,.cells (ez zs).toArray 3 (0,0))]) R' w w':=by have hrow:=hT.row;have xX:=hT.head;rw[eL] at xX;unfold Rt.jb at hrow;rw[pL] at hrow;refine⟨_,⟨e9,e9,g,rfl⟩,⟨⟨ho.1,ho.2.1,ho.2.2.1,ho.2.2.2.1,λk hk hn=>ho.2.2.2.2 k hk λe=>hn ?_⟩,⟨(Has.nil.cons hrow).cons xX,?_⟩,λx hx=> .inl ?_⟩⟩;subst e;exact⟨_,dl _ (fd ..),rfl⟩;have:=hT.ne;simp;omega;rcases ii.1 hx with rfl|hx;exact⟨_,fd ..,rfl⟩;rw[pu] at hx;subst hx;exact⟨_,dl _ (fd ..),rfl⟩
def rts_new (n:Nat) (w:World) (h1:1<=n) (h2:n<=64): WA 109 #[n] w λe w'=>∃b,e=.returned (.tuple #[Wz b,Wy])/\∃R,dO b (List.replicate n 0) R/\ag [] R w w':=by
 refine (Rt.iQ n w h1 h2).kq ?_;rintro w1 ⟨hT,hb⟩;have hrow:=hT.row;have xX:=hT.head;unfold Rt.jb at hrow;have hi:(List.replicate n (0:Int))=ints (List.replicate n 0):=by simp[ints]
 rw[hi,pL] at hrow;rw[I_] at xX;refine⟨_,rfl,_,⟨by simpa using h1,by simpa using h2,w.heap.size,rfl⟩,ag.new hb ⟨(Has.nil.cons hrow).cons (by rw[I_];exact xX),?_⟩ λx hx=>?_⟩;simp;rcases ii.1 hx with rfl|hx;show w.heap.size<=w.heap.size+1;omega;rw[pu] at hx;subst hx;exact bi _
def qH (h:dO b zs R) (hR:Has R w) (k:Nat) (hk:k<zs.length):WR 49 #[Wz b,k] w (.tuple #[(zs.getD k 0:Nat),Wy]) λw'=>Below w.heap.size w w':=by obtain⟨g,-,hT⟩:=h.Lb hR;have:=Rt.get_yes g b (ints zs) k w hT (by rw[eL];exact hk);rw[yh] at this;exact this
def ta (h:dO b zs R) (hR:Has R w) (i:Int) (hi:i<0\/(zs.length:Int)<=i):WR 49 #[Wz b,i] w (.tuple #[Wy,(17:Int)]) λw'=>Below w.heap.size w w':=by obtain⟨g,-,hT⟩:=h.Lb hR;exact Rt.get_no g b (ints zs) i w hT (by rw[eL];exact hi)
def qI (h:dO b zs R) (hR:At R w) (k v:Nat) (hk:k<zs.length):WR 54 #[Wz b,k,v] w Wy λw'=>∃R',dO b (zs.set k v) R'/\ag R R' w w':=by obtain⟨g,rfl,hT⟩:=h.Lb hR.1;refine (Rt.set_yes g b (ints zs) k (v:Int) w hT (by rw[eL];exact hk) e9).kq ?_;rintro w1 ⟨ux,ho⟩;rw[ints_set] at ux;exact⟨rfl,BK hR qr h.1 h.2.1 ux ho⟩
def rts_set_no (h:dO b zs R) (hR:Has R w) (i v:Int) (hi:i<0\/(zs.length:Int)<=i):WR 54 #[Wz b,i,v] w (17:Int) λw'=>Below w.heap.size w w':=by obtain⟨g,-,hT⟩:=h.Lb hR;exact Rt.set_no g b (ints zs) i v w hT (by rw[eL];exact hi)
def rts_copy_yes (h:dO b zs R) (hR:At R w) (k j:Nat) (hk:k<zs.length) (hj:j<zs.length):WR 96 #[Wz b,k,j] w Wy λw'=>∃R',dO b (zs.set k (zs.getD j 0)) R'/\ag R R' w w':=by obtain⟨g,rfl,hT⟩:=h.Lb hR.1;refine (Rt.copy_yes g b (ints zs) k j w hT (by rw[eL];exact hk) (by rw[eL];exact hj)).kq ?_;rintro w1 ⟨ux,ho⟩;rw[yh,ints_set] at ux;exact⟨rfl,BK hR qr h.1 h.2.1 ux ho⟩
def rts_copy_no (h:dO b zs R) (hR:Has R w) (i j:Int) (hi:(i<0\/(zs.length:Int)<=i)\/(j<0\/(zs.length:Int)<=j)):WR 96 #[Wz b,i,j] w (17:Int) λw'=>Below w.heap.size w w':=by obtain⟨g,-,hT⟩:=h.Lb hR;exact Rt.copy_no g b (ints zs) i j w hT (by rw[eL];exact hi)
def wI (h:dO b zs R) (hR:Has R w):WR 213 #[Wz b] w zs.length λw'=>w=w':=by obtain⟨g,-,hT⟩:=h.Lb hR;have:=Rt.len_any g b (ints zs) w hT;rw[eL] at this;exact this
def clone_i {rb:Nat} {zs:List Value} {off:Nat} (cap:Nat) (hz:∀j u,zs[j]?=some u->w.cell? ⟨rb,off+j,none⟩=some u) (h1:∀u∈zs,u.oneCell'=true) (hm:zs.length<=1000000): WA 179 #[.slice (some ⟨rb,off,none⟩) zs.length cap] w λe w'=>∃al iV,e=.returned (.slice al zs.length iV)/\∃R,Rz 3 1 zs.length zs al iV R/\ag [] R w w':=by obtain⟨i1,hj,sB,oQ,sC⟩:=BT fP;have q22:∀(w:World) (a:Option Addr) (n c n' c':Nat),(binOp .eql 58 (.slice a n c) (.slice none n' c')).run prog w=.ok (.bool a.isNone) w:=λw a n c n' c'=>ah9 w _ _ a n c n' c' underlying58;have hB:=(ag.refl (At.nil (w:=w))).box #[] 3;have tO:Rz 3 1 0 [] (some ⟨w.heap.size,0,none⟩) 0 [(w.heap.size,.cells #[] 3 (0,0))]:= .inr ⟨w.heap.size,#[],rfl,lc _,bi _,by unfold maxLen;omega,rfl,rfl,rfl,rfl⟩;obtain⟨Dy,iV,w5,R',hrun,hr,hN⟩:=tO.RY hB.at_ hj sB oQ sC rfl z9 underlying58 (news:=zs) (m:=zs.length) qr (a:=some ⟨rb,off,none⟩) cap (λh0=>⟨rb,off,rfl,λj u hu=>bA (au w _) (bi _) (hz j u hu)⟩) h1 (by unfold maxLen;omega) e9;rw[C'] at hrun hr;obtain⟨HR,Hr⟩:=aO hrun hr;have HN:=a_ (ag.step hB hN);clear hrun hr hN hB tO hz;go_enter func179,ntmps179;go_wp2_with (at_builtin;refine cP _ rfl (.tmp 5) (.tmp 6) 58 rfl _ _ _ _ rfl rfl HR ?_);go_ret;exact⟨_,_,rfl,_,Hr,by simpa using HN.out⟩
def ru (h:dO b zs R) (hR:Has R w):WA 88 #[Wz b] w λe w'=>∃al cap,e=.returned (.slice al zs.length cap)/\∃R',Rz 3 1 zs.length (ez zs) al cap R'/\ag [] R' w w':=by
 obtain⟨h1,h2,g,rfl⟩:=h;have hl:(ez zs).length=zs.length:=by simp[ez,mJ]
 have hc:=clone_i (w:=w) (rb:=g) (zs:=ez zs) (off:=0) zs.length (λj u hu=>an hR.tail.head (0+j) u (by rw[C'];simpa using hu)) (λu hu=>by unfold ez mJ at hu;obtain⟨x,-,rfl⟩:=mt.1 hu;rfl) e9;rw[hl] at hc;have HC:=a_ hc;have c0:=an hR.head 0 _ rfl;clear hR hc;go_enter func88,ntmps88;go_wp2_with (go_at_call 179;refine HC.mono ?_;rintro e w1 ⟨al,cap,rfl,R',hr,hd⟩;have Hr:=a_ hr;have HD:=a_ hd;clear hr hd);go_ret;exact⟨al,cap,rfl,R',Hr,HD⟩
def aZ {σ:Type} (step:σ->Nat->σ×Nat):σ->List Nat->σ×List Nat
 |st,[]=>(st,[])
 |st,x::l=>if x=0 then ((aZ step st l).1,0::(aZ step st l).2) else ((aZ step (step st x).1 l).1,(step st x).2::(aZ step (step st x).1 l).2)
variable {σ:Type}{step:σ->Nat->σ×Nat}
def ka:∀(l:List Nat) (st:σ),(aZ step st l).2.length=l.length
 |[],st=>rfl
 |x::l,st=>by unfold aZ;split<;>simp[ka l]
def iS:∀(l:List Nat) (st:σ) (x:Nat),aZ step st (l++ [x])=if x=0 then ((aZ step st l).1,(aZ step st l).2++ [0]) else ((step (aZ step st l).1 x).1,(aZ step st l).2++ [(step (aZ step st l).1 x).2])
 |[],st,x=>by show aZ step st [x]=_;simp only[aZ];rfl
 |y::l,st,x=>by show aZ step st (y::(l++ [x]))=_;simp only[aZ];by_cases hy:y=0;simp only[hy,QQ,iS l];split<;>rfl;simp only[hy,Y',iS l];split<;>rfl
def nY (step:σ->Nat->σ×Nat) (st:σ) (zs:List Nat) (m:Nat):List Nat:=(aZ step st (zs.take m)).2++zs.drop m
def yn (st:σ) (zs:List Nat) (m:Nat) (h:m<zs.length):(nY step st zs m)[m]?=some zs[m]:=by
 unfold nY;have hl:(aZ step st (zs.take m)).2.length=m:=by rw[ka,lq7];omega
 rw[y' e9,hl,ad0,aa3];simp[h]
def midT_zero (st:σ) (zs:List Nat) (m:Nat) (h:m<zs.length) (h0:zs[m]=0):nY step st zs (m+1)=nY step st zs m/\(aZ step st (zs.take (m+1))).1=(aZ step st (zs.take m)).1:=by unfold nY;rw[y_ h,iS,b9 h0];refine⟨?_,rfl⟩;rw[t_,VD h,h0];rfl
def midT_step (st:σ) (zs:List Nat) (m:Nat) (h:m<zs.length) (h0:zs[m]≠0):nY step st zs (m+1)=(nY step st zs m).set m (step (aZ step st (zs.take m)).1 zs[m]).2/\(aZ step st (zs.take (m+1))).1=(step (aZ step st (zs.take m)).1 zs[m]).1:=by
 have hl:(aZ step st (zs.take m)).2.length=m:=by rw[ka,lq7];omega
 unfold nY;rw[y_ h,iS,b_ h0];refine⟨?_,rfl⟩;rw[VD h,List.set_append_right _ _ e9,hl,ad0,t_];rfl
variable {R0 Rst:BL}{w0:World}
def within_yes (q n:Nat) (f:Nat->Int) (hn:n<=100) (hc:∀j,j<3*n->w.cell? ⟨q,j,none⟩=some (.int .i64 (f j))) (hok:∀i,i<n->f (i*3)<=f (i*3+1)/\f (i*3+1)<=f (i*3+2)): WR 275 #[.slice (some ⟨q,0,none⟩) n n] w true λw'=>Below w.heap.size w w':=by
 obtain⟨HC,HO⟩:=aO hc hok;clear hc hok;go_enter func275,ntmps275;go_wp2;go_loopw [7] (λiv wr=>∃i:Nat,iv=.int .i64 i/\i<=n/\Below w.heap.size w wr) (λiv _=>n-(intOf iv).toNat);exact⟨0,rfl,lc _,Below.refl _ _⟩;obtain⟨i,rfl,hi,hb⟩:=hrel;have HB:=a_ hb;by_cases hlt:i<n
 .have a0:=bA hb (bi _) (HC (i*3) e9);have a1:=bA hb (bi _) (HC (i*3+1) e9);have a2:=bA hb (bi _) (HC (i*3+2) e9);obtain⟨o1,o2⟩:=HO i hlt;generalize f (i*3)=x at *;generalize f (i*3+1)=y at *;generalize f (i*3+2)=z at *;have s1:=eH ((i:Int)+1);have g1:decide (y<x)=false:=dP;have g2:decide (z<y)=false:=dP;have jB:=a_ (HB.trans ((au wr (.cells #[x,y,z] 198)).mono HB.size));clear hb;go_wp2;go_roundw;exact⟨i+1,by go_num,hlt,jB⟩;simp[intOf];omega
 obtain rfl:i=n:=e9;clear hb;go_wp2;go_ret;exact⟨rfl,HB⟩
end Go.Proofs.YtmdgfpeglgpiiaaGreatDoor

import Derived.Shelf.RegionOpen
import Derived.Lib.QuietBelow
import Derived.Test.YtmdgfpeglgpiiaaGreatDoorB02
set_option linter.all false
set_option maxRecDepth 100000
set_option maxHeartbeats 16000000
namespace Go.Proofs.YtmdgfpeglgpiiaaGreatDoor
open Go.ChangeShapes Go.WideShapes Go.ChangeAt Go.RowKit Go.Maps
open Vq Oq Go.Proofs.Tryz
section
attribute [local go_sem] Oper.semAt_some
def nd.map {α β:Type} {J:List β->BL->World->Prop} (h:nd J) (F:List α->List β):nd (λs K W=>J (F s) K W):=⟨λs=>h.has _,λs=>h.obj _,λs=>h.turn _,λs=>h.tail _,λs=>h.perm _,λs=>h.grow _,λs=>h.tz _⟩
def nd.and {α:Type} {J:List α->BL->World->Prop} (h:nd J) (p:Prop):nd (λs K W=>p/\J s K W):=⟨λs K W ⟨_,hj⟩=>h.has _ _ _ hj,λs K W ⟨a,hj⟩ o=>⟨a,h.obj _ _ _ hj o⟩,λs K W q o ⟨a,hj⟩ o'=>⟨a,h.turn _ _ _ _ _ hj o'⟩,λs K W x ⟨a,hj⟩=>⟨a,h.tail _ _ _ _ hj⟩,λs K K' W ⟨a,hj⟩ p=>⟨a,h.perm _ _ _ _ hj p⟩,λs K W W' ⟨a,hj⟩ c=>⟨a,h.grow _ _ _ _ hj c⟩,λs K W ⟨a,hj⟩=>h.tz _ _ _ hj⟩
def ones_mk (b:Nat) (w:World):WR 256 #[Wz b] w (.func (.func 303) #[] #[.pointer (some ⟨w.heap.size,0,none⟩)]) λw'=>w'=w.alloc (.cells #[Wz b] 315):=by go_enter func256,ntmps256;go_wp2;go_ret;exact⟨rfl,rfl⟩
def all_mk (m:Nat) (w:World):WR 175 #[Wz m] w (.func (.func 254) #[] #[.pointer (some ⟨w.heap.size,0,none⟩)]) λw'=>w'=w.alloc (.cells #[Wz m] 215):=by go_enter func175,ntmps175;go_wp2;go_ret;exact⟨rfl,rfl⟩
def enter_ones (args:Array Value) (w:World):(callFunc 303 args).run prog w=.ok (.enter 303 args) w:=ol
def dS (args:Array Value) (w:World):(callFunc 254 args).run prog w=.ok (.enter 254 args) w:=ol
def dU (E:Nat->Nat) (N:Nat):List (Nat×Nat):=(cN (gL E) N).map λs=>(s,E s)
def gg (p:Nat×Nat):Array Value:= #[.int .i64 p.1,.int .i64 p.2]
section
variable {m N Bm:Nat}{E:Nat->Nat}{R:BL}{T:TypeId}
def fL (h:dg m N E R): JR prog 254 #[.pointer (some ⟨Bm,0,none⟩)] gg (dU E N) ((Bm,.cells #[Wz m] T (0,0))::R):=by
 intro l J Jx K W hK hJ FF hY h0;have h1:=hJ.obj _ _ _ h0 (.cells #[.func (.yield l) #[] #[]] 178 (0,0));have LL:=(hJ.has _ _ _ h1).tail.sub hK;have c0:=an LL.head 0 _ rfl;have HN:=a_ (fD h LL.tail);have h2:=hJ.obj _ _ _ h1;obtain⟨bs,be,R1,R2,CT,v1,v2,hok⟩:=id h;have m0:(W.alloc (.cells #[.func (.yield l) #[] #[]] 178)).cell? ⟨m,0,none⟩=some (.pointer (some ⟨bs,0,none⟩)):=an (LL.tail.one (by rw[CT];exact fd ..)) 0 _ rfl;replace h2:=h2 (.cells #[Wz bs] 315 (0,0));rw[ww] at h2;have hsub:∀x∈(W.heap.size+1,.cells #[Wz bs] 315 (0,0))::R1,x∈(W.heap.size+1,.cells #[Wz bs] 315 (0,0))::(W.heap.size,.cells #[.func (.yield l) #[] #[]] 178 (0,0))::K:=λx hx=>by rcases ii.1 hx with rfl|hx;exact fd ..;exact dl _ (dl _ (hK x (dl _ (by rw[CT];exact dl _ (io _ hx)))))
 refine callsIn_of_wp_marks func254 rfl trivial ?_ rfl;simp only[ntmps254,M_,r',O',Nat.reduceAdd,Nat.reduceSub,H_,Le,P',L',p',m_];gi_wp2_with (first|(refine⟨trivial,?_⟩;gi_at_call 255;refine (u_.2 HN).mono ?_;rintro e w' ⟨rfl,rfl⟩)|(refine⟨trivial,?_⟩;gi_at_call 256;refine (u_.2 (ones_mk _ _)).mono ?_;rintro e w' ⟨rfl,rfl⟩));refine dC (gf:=303) (lb:= #[.pointer (some ⟨W.heap.size+1,0,none⟩)]) rfl enter_ones (ones_seq (Bn:=W.heap.size+1) (T:=315) v1) (λ_=>rfl) _ hsub (λpre K W=>J (pre.map λs=>(s,E s)) K W) (λc pre K W=>c=.ret/\Jx (pre.map λs=>(s,E s)) K W) (hJ.map _) (λc=>(FF.map _).and _) h2 ?a1 ?assign ?body ?done ?stop;case assign=>intro l x W K hK;simp only[Aj,fold_one,q_,Fl,Pr];gi_wp2;exact hK
 case body=>
  clear c0 m0 HN;intro l' pre x post K' W1 gz IY hi;have hx:E x≠0:=(by have hm:x∈cN (gL E) N:=(by rw[gz];simp);unfold cN at hm;exact dR.1 (GS.1 hm).2);have hH:Has ((W.heap.size+1,.cells #[Wz bs] 315 (0,0))::(W.heap.size,.cells #[.func (.yield l) #[] #[]] 178 (0,0))::K) W1:=(hJ.has _ _ _ hi).sub IY;replace hi:=hJ.grow _ _ _ _ hi (ay W1);have y0:W1.cell? ⟨W.heap.size,0,none⟩=some (.func (.yield l) #[] #[]):=an hH.tail.head 0 _ rfl;have hB:=hH.tail.tail.sub hK;have b0:W1.cell? ⟨Bm,0,none⟩=some (.pointer (some ⟨m,0,none⟩)):=an hB.head 0 _ rfl;have HS:=a_ (lz x h (hB.tail.grow (ay W1)) (hJ.tz _ _ _ hi) hx);obtain⟨fn,tmps,assign,body,hy,hR⟩:=hY (pre.map λs=>(s,E s)) (x,E x) (post.map λs=>(s,E s)) K' W1.drew (by unfold dU;rw[gz];simp) (λz hz=>IY z (dl _ (dl _ hz))) hi;dsimp only[gg] at hy;rw[show (pre.map λs=>(s,E s))++ [(x,E x)]=(pre++ [x]).map λs=>(s,E s) from qr] at hR;have NH:=(round_wide (l':=l') (m:=0) hR).mono (R':=λe W'=>∃q:Bool,e=.returned q/\Hid ((q=true/\J ((pre++ [x]).map λs=>(s,E s)) K' W')\/(q=false/\Jx ((pre++ [x]).map λs=>(s,E s)) K' W'))) (λe W' hq=>by rcases hq with⟨rfl,hj⟩|⟨rfl,hj⟩;exact⟨true,rfl,a_ (.inl ⟨rfl,hj⟩)⟩;exact⟨false,rfl,a_ (.inr ⟨rfl,hj⟩)⟩);clear hH hB hi hR gz hY h h0 h1 h2 LL hok;have hmix:prog.follows .mixedOrders=true:=ol;generalize E x=z at *;gi_wp2;gi_region_with_o (first|(refine⟨trivial,rfl,?_⟩;gi_at_call 257;refine (CallsIn.inRound l' (u_.2 HS)).mono ?_;rintro e w' ⟨rfl,rfl⟩)|(refine⟨rfl,?_⟩;refine NH.mono ?_;rintro e W' ⟨q,rfl,HQ⟩));all_goals
   rcases HQ.out with⟨rfl,hj⟩|⟨rfl,hj⟩
   .have HJ:=a_ hj;clear hj HQ;gi_wp2;exact HJ
   have HJ:=a_ hj;clear hj HQ;gi_wp2;exact⟨rfl,HJ⟩
 case done=>
  intro D W1 hi;have hD:=(hJ.has _ _ _ hi).head;have HI:=a_ (hJ.tail _ _ _ _ (hJ.tail _ _ _ _ (hJ.tail _ _ _ _ (hJ.turn _ _ _ _ _ hi (.deferred none)))));clear c0 m0 HN hY h h0 h1 h2 LL hok hi;gi_wp2;refine⟨qr,.inl ⟨_,_,rfl,run_takeDeferred hD,?_⟩⟩;exact⟨_,ah3 rfl _ _ _,⟨_,rfl⟩,.inl HI⟩
 case stop=>
  intro D c pre W1 hp hi;obtain⟨rfl,hi⟩:=hi;have hD:=(FF.has _ _ _ hi).head;have HI:=a_ (FF.tail _ _ _ _ (FF.tail _ _ _ _ (FF.tail _ _ _ _ (FF.turn _ _ _ _ _ hi (.deferred none)))));clear c0 m0 HN hY h h0 h1 h2 LL hok hi;gi_wp2;refine⟨qr,.inl ⟨_,_,rfl,run_takeDeferred hD,?_⟩⟩;exact⟨_,ah3 rfl _ _ _,⟨_,rfl⟩,.inr ⟨pre.map λs=>(s,E s),by unfold dU;exact hp.map _,HI⟩⟩
end
def aD (R:BL):Prop:=¬Keys R 1
section
variable {w0 w w':World}{R0 R K:BL}
def ag.tz (d:ag R0 R w0 w) (hT:ax w0) (hg:aD R0):ax w:=λi hi=>d.kD.cell (hT i hi) hg
def aD.app {A B:BL}:aD (A++B)↔aD A/\aD B:=by unfold aD;rw[Keys.app,not_or]
def ag.putObj {q:Nat} {o:Obj} (d:ag R0 ((q,o)::R) w0 w) (o':Obj):ag R0 ((q,o')::R) w0 (w.putObj q o'):=by have hlt:q<w.heap.size:=bf d.has.head;refine d.turn ⟨rfl,rfl,rfl,qr,λk hk hn=>World.putObj_heap_other hn⟩ (World.putObj_heap_same hlt)
def eM {α:Type} (Q:List α->BL->Prop) (R0:BL) (w0:World) (hT:ax w0) (hg:aD R0):nd (λs K W=>∃Rl,Q s Rl/\ag R0 (Rl++K) w0 W):=⟨λs K W ⟨Rl,_,d⟩=>d.has.right,λs K W ⟨Rl,q,d⟩ o=>⟨Rl,q,(d.obj o).perm (R':=Rl++((W.heap.size,o)::K)) aF⟩,λs K W b o ⟨Rl,q,d⟩ o'=>⟨Rl,q,((d.perm (R':=(b,o)::(Rl++K)) aF).putObj o').perm (R':=Rl++((b,o')::K)) aF⟩,λs K W x ⟨Rl,q,d⟩=>⟨Rl,q,ag.tail (x:=x) (d.perm aF)⟩,λs K K' W ⟨Rl,q,d⟩ p=>⟨Rl,q,d.perm (List.Perm.append_left _ p)⟩,λs K W W' ⟨Rl,q,d⟩ c=>⟨Rl,q,d.grow c⟩,λs K W ⟨Rl,q,d⟩=>d.tz hT hg⟩
end
def ek (pre:List (Nat×Nat)):Nat->Bool:=λx=>pre.any λp=>decide (p.1<=x) && decide (x<p.1+p.2)
def cov_fill (pre:List (Nat×Nat)) (s z N:Nat) (h:s+z<=N):ix (ek pre) s (min (s+z) N:Nat)=ek (pre++ [(s,z)]):=funext λx=>by
 unfold ix ek;rw[List.any_append,ah0 h];simp only[List.any_cons,List.any_nil,Bool.or_false];congr 1;rw[GT];simp only[lw,l_];omega
def vF {E:Nat->Nat} {N:Nat} (h:bS E N):ek (dU E N)=dI E:=funext λx=>by
 rw[GT,fR];unfold ek;rw[af9];constructor;rintro⟨p,hp,hx⟩;unfold dU at hp;obtain⟨s,hs,rfl⟩:=mt.1 hp;simp only[lw,l_] at hx;exact⟨s,hx⟩;rintro⟨s,h1,h2⟩;refine⟨(s,E s),mt.2 ⟨s,?_,rfl⟩,by simp[h1,h2]⟩;unfold cN;rw[GS,B_];have:=h.fits s e9;exact⟨e9,dR.2 e9⟩
def eC {E:Nat->Nat} {N:Nat} (h:bS E N) {pre post:List (Nat×Nat)} {x:Nat×Nat} (e:dU E N=pre++x::post):x.2=E x.1/\E x.1≠0/\x.1+x.2<=N:=by
 have hm:x∈dU E N:=by rw[e];simp
 unfold dU at hm;obtain⟨s,hs,rfl⟩:=mt.1 hm;unfold cN at hs;have IX:=dR.1 (GS.1 hs).2;exact⟨rfl,IX,h.fits s IX⟩
def rC (b N z:Nat) (f:Nat->Bool) (R:BL):Prop:=∃lv xb Rl Rx,R=(b,.cells #[Wz lv,Wz xb] 376 (0,0))::(Rl++Rx)/\cY lv N f Rl/\zI xb N z f Rx
section
variable {m N z:Nat}{E:Nat->Nat}{R K:BL}{w w':World}
def off_new (h:dg m N E R) (hR:At R w) (hT:ax w) (hg:aD R) (hz:iq z): WA 251 #[Wz m,z] w λe w'=>∃b,e=.returned (.tuple #[Wz b,Wy])/\∃R',rC b N z (dI E) R'/\ag R (R'++R) w w':=by
 have hd:=h.ij;have hW:=a_ (eJ h hR.1);have hV:=a_ (wN N w hd.1 hd.2);have g1:((N:Int)==0)=false:=yd;refine (u_ (n:=3)).1 ?_;refine callsIn_of_wp_marks func251 rfl trivial ?_ rfl;simp only[ntmps251,M_,r',O',Nat.reduceAdd,Nat.reduceSub,H_,Le,P',L',p',m_];gi_wp2_with (first|(refine⟨trivial,?_⟩;gi_at_call 238;refine (u_.2 hW.out).mono ?_;rintro e w' ⟨rfl,rfl⟩)|(refine⟨trivial,?_⟩;gi_at_call 237;refine (u_.2 hV.out).mono ?_;rintro e w1 ⟨lv,rfl,Rl,v1,d1⟩;have V1:=a_ v1;have D1:=a_ (((ag.refl hR).bh d1).box #[Wz lv] 315);clear v1 d1)|(refine⟨trivial,?_⟩;gi_at_call 175;refine (u_.2 (all_mk _ _)).mono ?_;rintro e w2 ⟨rfl,rfl⟩));have D2:=a_ (D1.box #[Wz m] 215);rw[ww] at D2;obtain⟨B1,FD⟩:=kw w1.heap.size;simp only[ww,FD] at D2 ⊢;generalize (w1.alloc (.cells #[Wz lv] 315)).alloc (.cells #[Wz m] 215)=w3 at *;clear D1 FD hW hV;have gv:=eM (λ(pre:List (Nat×Nat)) Rl=>cY lv N (ek pre) Rl) R w hT hg;refine dC (gf:=254) (lb:= #[.pointer (some ⟨B1+1,0,none⟩)]) rfl dS (fL (Bm:=B1+1) (T:=215) h) (λ_=>rfl) ((B1+1,WD #[Wz m] 215)::(B1,WD #[Wz lv] 315)::R) (λx hx=>by rcases ii.1 hx with rfl|hx;exact fd ..;exact dl _ (dl _ hx)) (λpre K W=>∃Rl,cY lv N (ek pre) Rl/\ag R (Rl++K) w W) (λc pre K W=>False/\∃Rl,cY lv N (ek pre) Rl/\ag R (Rl++K) w W) gv (λc=>gv.and _) ⟨Rl,V1,D2.perm aF⟩ ?a1 ?assign ?body ?done ?stop;case assign=>intro l x W K hK;simp only[gg,eK,q_,Fl,Pr];gi_wp2;exact hK
 case body=>
  clear D2 V1;intro l' pre x post K' W gz hsub hi;obtain⟨e1,e2,e3⟩:=eC h.ok gz;obtain⟨x,z0⟩:=x;simp only at e1 e2 e3;obtain⟨Rl,hv,hD⟩:=hi;have jJ:=hD.has.right.one (hsub (B1,.cells #[Wz lv] 315 (0,0)) qr);have c0:=an jJ 0 _ rfl;have hF:=vfill_any x (x+z0) e9 e9 hv hD.at_.left;rw[cov_fill pre x z0 N e3,show ((x+z0:Nat):Int)=(x:Int)+z0 from e9] at hF;obtain⟨HF,HD⟩:=aO hF hD;have x1:(x:Int)<=1048576:=e9;have x2:(z0:Int)<=1048576:=e9;clear hF hD hv jJ e1 e2 e3 gz hT hg h gv;gi_wp2_with (refine⟨trivial,rfl,?_⟩;gi_at_call 299;refine (CallsIn.inRound l' (u_.2 HF)).mono ?_;rintro e W' ⟨zz,rfl,R',v',d'⟩;have V2:=a_ v';have D3:=a_ (HD.step d');clear v' d');exact⟨R',V2,D3⟩
 case done=>
  intro D W hi;obtain⟨Rl,hv,hD⟩:=hi;rw[vF h.ok] at hv;have HX:=a_ (rank_new hv hD.at_.left hz);have HV:=a_ hv;have c0:=an (hD.has.right.tail.tail.head) 0 _ rfl;have HD:=a_ hD;clear hD hv hT hg h gv D2 V1;gi_wp2_with (refine⟨trivial,?_⟩;gi_at_call 300;refine (u_.2 HX).mono ?_;rintro e w5 ⟨xb,rfl,Rx,x5,d5⟩;have X5:=a_ x5;have c1:=bA d5.below (bi _) c0;have D5:=a_ ((HD.bh d5).box #[Wz lv,Wz xb] 376);clear x5 d5);have tX:=D5.has.tail.right.right.head;have D6:=(D5.perm (R':=(D,.deferred (some []))::(B1+1,.cells #[Wz m] 215 (0,0))::(B1,.cells #[Wz lv] 315 (0,0))::((w5.heap.size,.cells #[Wz lv,Wz xb] 376 (0,0))::(Rl++Rx))++R) aF).putObj (.deferred none);refine⟨qr,.inl ⟨_,_,rfl,run_takeDeferred tX,?_⟩⟩;exact⟨_,by simp[results,results251,go_sem],_,rfl,_,⟨lv,xb,Rl,Rx,rfl,HV,X5⟩,D6.tail.tail.tail⟩
 case stop=>
  rintro D c pre W hp ⟨hf,-⟩;exact hf.elim
end
end
open Go.Sort
def fV {P:Program} {f:FuncId} {args:Array Value} {v:Value} {w:World} (h:∀W,Below w.heap.size w W->Calls P f args W λe w'=>e=.returned v/\Below W.heap.size W w'): ∀d os,Calls P f args (grow (redrawn w d) os) λe Mi=>e=.returned v/\∃p:Regrown,Mi=grow (redrawn w p.d) p.os:=λd os=>Calls.regrown_of (h _ (below_regrown w d os))
def Calls.gE {P:Program} {f:FuncId} {args:Array Value} {w:World} {v:Value} (h:Calls P f args w λe w'=>e=.returned v/\w=w'):Calls P f args w λe w'=>e=.returned v/\Below w.heap.size w w':=h.mono λ_ _ ⟨a,b⟩=>⟨a,b▸Below.refl _ _⟩
section
variable {b N z:Nat}{f:Nat->Bool}{R K:BL}{w w':World}
def rC.parts (h:rC b N z f R) (hR:At R w):∃lv xb Rl Rx,w.cell? ⟨b,0,none⟩=some (.pointer (some ⟨lv,0,none⟩))/\w.cell? ⟨b,1,none⟩=some (.pointer (some ⟨xb,0,none⟩))/\cY lv N f Rl/\zI xb N z f Rx/\At Rl w/\At Rx w:=by obtain⟨lv,xb,Rl,Rx,rfl,h1,h2⟩:=h;have q:=hR.1.head;exact⟨lv,xb,Rl,Rx,an q 0 _ rfl,an q 1 _ rfl,h1,h2,hR.tail.left,hR.tail.right⟩
def rC.ij (h:rC b N z f R):1<=N/\N<=1048576:=by obtain⟨lv,xb,Rl,Rx,rfl,h1,h2⟩:=h;exact h1.ij
def EI (a:Int) (h:rC b N z f R) (hR:At R w):WR 260 #[Wz b,a] w (.bool (lh f a)) λw'=>w=w':=by obtain⟨lv,xb,Rl,Rx,c0,c1,v1,v2,h1,h2⟩:=h.parts hR;have H:=a_ (vtest_any a v1 h1.1);clear h hR v1 v2 h1 h2;go_enter func260,ntmps260;go_wp2_with (go_at_call 307;refine H.kq ?_;rintro w1 rfl);go_ret;exact⟨rfl,rfl⟩
def tbefore_any (i:Nat) (h:rC b N z f R) (hR:At R w) (hi:i<=2097152):WR 261 #[Wz b,i] w (aG f (min i N):Nat) λw'=>Below w.heap.size w w':=by obtain⟨lv,xb,Rl,Rx,c0,c1,v1,v2,h1,h2⟩:=h.parts hR;have H:=a_ (before_any i v2 h2 hi);clear h hR v1 v2 h1 h2;go_enter func261,ntmps261;go_wp2_with (go_at_call 308;refine H.kh λw1 HB=>?_);go_ret;exact⟨rfl,HB⟩
def tword_any (k:Nat) (h:rC b N z f R) (hR:At R w) (hT:ax w) (hk:k<aG f N):WR 334 #[Wz b,k] w (.tuple #[(qR f N k:Nat),true]) λw'=>Below w.heap.size w w':=by obtain⟨lv,xb,Rl,Rx,c0,c1,v1,v2,h1,h2⟩:=h.parts hR;have H:=a_ (pick_any v2 h2.1 hT hk);clear h hR v1 v2 h1 h2;go_enter func334,ntmps334;go_wp2_with (go_at_call 341;refine H.kh λw1 HB=>?_);go_ret2;exact⟨rfl,HB⟩
def ve (h:rC b N z f R) (hR:At R w):WR 253 #[Wz b] w (aG f N:Nat) λw'=>w=w':=by obtain⟨lv,xb,Rl,Rx,c0,c1,v1,v2,h1,h2⟩:=h.parts hR;have H:=a_ (rones_any v2 h2.1);clear h hR v1 v2 h1 h2;go_enter func253,ntmps253;go_wp2_with (go_at_call 302;refine H.kq ?_;rintro w1 rfl);go_ret;exact⟨rfl,rfl⟩
end
structure jA where
 T:TypeId
 v:Value
 F:FuncId
 rv:Value
def jA.val (s:jA):Value:= .iface s.T s.v
structure AB (s:jA):Prop where
 EN:∀w,(method 516 s.T s.v "Load").run Tryz.prog w=.ok (s.F,s.rv) w
 call:∀args w,(callFunc s.F args).run prog w=.ok (.enter s.F args) w
structure mr (s:jA) (Rs:BL) (g:Nat->Nat) (D:Nat->Prop):Prop where
 ok:AB s
 load:∀W a,At Rs W->ax W->D a->Calls prog s.F #[s.rv,.int .i64 (a:Nat)] W λe w'=>e=.returned (.tuple #[WB (g a),Wy])/\Below W.heap.size W w'
def bC (x:Nat):Nat:=1+(Hd.tp x+Hd.tf x+Hd.to x)
structure Whole (g:Nat->Nat) (St:Nat->Prop) (D:Nat->Prop) (N:Nat):Prop where
 is:∀a,St a->Hd.Is (g a)
 small:∀a,g a<18446744073709551616
 mD:∀a,St a->∀i,i<bC (g a)->D (a+i)
 pos:∀a,St a->0<a
 fit:∀a,St a->a+bC (g a)<=N
 apart:∀a b,St a->St b->a<b->a+bC (g a)<=b
 ptr:∀a i,St a->i<Hd.tp (g a)->g (a+1+i)=0\/St (g (a+1+i))
def wL {x:Nat} (h:Hd.Is x):bC x<=256:=by obtain⟨⟨h1,h2,h3,h4,h5,h6,h7⟩,-⟩:=h;unfold bC;omega
section
variable {s:jA}{Rs:BL}{g:Nat->Nat}{St D:Nat->Prop}{N:Nat}{w w':World}
def wE (hs:mr s Rs g D) (hw:Whole g St D N) (hN:N<=1048576) (hR:At Rs w) (hT:ax w) (a:Nat) (ha:St a): WR 98 #[s.val,(a:Nat)] w (.tuple #[.agg #[(Hd.tp (g a):Nat),(Hd.tf (g a):Nat),(Hd.to (g a):Nat)],Wy]) λw'=>Below w.heap.size w w':=by
 have hp:=hw.pos a ha;have hf:=hw.fit a ha;have fY:=hw.is a ha;have HL:=a_ (λW (hW:Below w.heap.size w W)=>hs.load W a (hR.grow hW) (hT.grow hW) (hw.mD a ha 0 (by unfold bC;omega)));have MK:=a_ (λW=>by have:=Hd.yJ (g a) W (hw.small a);rw[b9 fY,b9 fY] at this;exact this);have hm:=hs.ok.EN;have hc:=hs.ok.call;have wS:=a_ (au w (.cells #[Wy,Wy,Wy] 31));have QZ:=a_ ((ag.refl (At.nil (w:=w))).box #[Wy,Wy,Wy] 31);unfold Hd.hv at MK;generalize g a=x at *;generalize Hd.tp x=p at *;generalize Hd.tf x=f at *;generalize Hd.to x=o at *;have e1:¬(a:Int)=0:=e9;have e2:¬(a:Int)<0:=e9;have e3:(a:Int)<=1048576:=e9;unfold jA.val;clear hs hw hR hT ha fY hf;go_enter func98,ntmps98;go_wp2_with (first|(go_at_call 185;refine (MK _).kq λw2 hb=>?_;have gq:=a_ (qU.grow hb);have q:=gq.has.head;have f0:=br q 0;have f1:=br q 1;have f2:=br q 2;have d0:=an q 0 _ rfl;have d1:=an q 1 _ rfl;have d2:=an q 2 _ rfl;clear hb q)|((with_reducible refine (HL.out _ wS.out).mono ?_);rintro e w1 ⟨rfl,hb⟩;have qU:=a_ (QZ.grow hb);clear hb));obtain⟨w3,oP⟩:=kw (((w2.setCell ⟨w.heap.size,0,none⟩ (.int .i64 p)).setCell ⟨w.heap.size,1,none⟩ (.int .i64 f)).setCell ⟨w.heap.size,2,none⟩ (.int .i64 o));have h3:ag [] [(w.heap.size,.cells #[p,f,o] 31 (0,0))] w w3:=by rw[<-oP];exact ((gq.set 0 p).set 1 f).set 2 o
 rw[oP];have q:=h3.has.head;have q0:w3.cell? ⟨w.heap.size,0,none⟩=some (.int .i64 p):=an q 0 _ rfl;have q1:w3.cell? ⟨w.heap.size,1,none⟩=some (.int .i64 f):=an q 1 _ rfl;have q2:w3.cell? ⟨w.heap.size,2,none⟩=some (.int .i64 o):=an q 2 _ rfl;exact nl (v:= .tuple #[.agg #[p,f,o],Wy]) (by simp[results,results98,go_sem,q0,q1,q2]) rfl ⟨rfl,h3.below⟩
def kind_ptr {x i:Nat} (h:Hd.Is x) (hi:i<Hd.tp x):Hd.kindOf (Hd.tp x) (Hd.tf x) (Hd.to x) i=1:=by unfold Hd.kindOf;rw[b9 ⟨h.1,e9,e9⟩,iY]
def place_s (hs:mr s Rs g D) (hw:Whole g St D N) (hN:N<=1048576) (hR:At Rs w) (hT:ax w) (a i:Nat) (ha:St a) (hi:i<Hd.tp (g a)): WR 221 #[s.val,(a:Nat),(i:Nat),(1:Int)] w (.tuple #[(a+1+i:Nat),Wy]) λw'=>Below w.heap.size w w':=by
 have fY:=hw.is a ha;have hf:=hw.fit a ha;have hsz:=wL fY;have HR:=a_ (wE hs hw hN hR hT a ha);have hk:=λW=>Hd.nR (Hd.tp (g a)) (Hd.tf (g a)) (Hd.to (g a)) i W;rw[kind_ptr fY hi] at hk;unfold Hd.hv at hk;have qw:i<=255:=by unfold bC at hsz;omega
 have e1:((a+1+i:Nat):Int)=(a:Int)+1+i:=e9;rw[e1];generalize Hd.tp (g a)=p at *;generalize Hd.tf (g a)=f at *;generalize Hd.to (g a)=o at *;have HK:=a_ hk;have e3:(a:Int)<=1048576:=e9;have e4:(i:Int)<=255:=e9;clear hs hw hR hT ha fY hf hk e1;go_enter func221,ntmps221;go_wp2_with (first|(go_at_call 98;refine HR.kq λw1 hb=>?_;have HB:=a_ (seq hb (au w1 (.cells #[p,f,o] 31)));clear hb)|(go_at_call 180;refine (HK _).kq λw2 hb=>?_;have jB:=a_ (seq HB hb);clear hb));go_ret2;exact⟨rfl,jB⟩
def get_s (hs:mr s Rs g D) (hw:Whole g St D N) (hN:N<=1048576) (hR:At Rs w) (hT:ax w) (a i:Nat) (ha:St a) (hi:i<Hd.tp (g a)): WR 137 #[s.val,(a:Nat),(i:Nat),(1:Int)] w (.tuple #[WB (g (a+1+i)),Wy]) λw'=>Below w.heap.size w w':=by have HP:=a_ (place_s hs hw hN hR hT a i ha hi);have HL:=a_ (λW (hW:Below w.heap.size w W)=>hs.load W (a+1+i) (hR.grow hW) (hT.grow hW) (by have:=hw.mD a ha (1+i) (by unfold bC;omega);rw[<-Nat.add_assoc] at this;exact this));have hm:=hs.ok.EN;have hc:=hs.ok.call;generalize a+1+i=q at *;generalize g q=x at *;unfold jA.val at *;clear hs hw hR hT ha hi;go_enter func137,ntmps137;go_wp2_with (first|(go_at_call 221;refine HP.kh λw1 HB=>?_)|((with_reducible refine (HL.out _ HB.out).mono ?_);rintro e w2 ⟨rfl,hb⟩;have jB:=a_ (seq HB hb);clear hb));go_ret2;exact⟨rfl,jB⟩
def pointer_s (hs:mr s Rs g D) (hw:Whole g St D N) (hN:N<=1048576) (hR:At Rs w) (hT:ax w) (a i:Nat) (ha:St a) (hi:i<Hd.tp (g a)): WR 97 #[s.val,(a:Nat),(i:Nat)] w (.tuple #[(g (a+1+i):Nat),Wy]) λw'=>Below w.heap.size w w':=by
 have HG:=a_ (get_s hs hw hN hR hT a i ha hi);have hle:g (a+1+i)<=1048576:=by rcases hw.ptr a i ha hi with e|e;omega;have:=hw.fit _ e;omega
 generalize g (a+1+i)=x at *;have x1:(x:Int)<=1048576:=e9;have g1:¬(2147483647:Int)<x:=e9;have g2:decide ((2147483647:Int)<x)=false:=g_ g1;have s1:IntKind.i64.wrap (x:Int)=(x:Int):=i_ _ e9;clear hs hw hR hT ha hi;go_enter func97,ntmps97;go_wp2_with (go_at_call 137;refine HG.kh λw1 HB=>?_);go_ret2;exact⟨rfl,HB⟩
end
section
variable {w0 w w':World}{R0 A A' K:BL}{x y z:Nat×Obj}
def ag.in1 (h:ag R0 (x::(A++K)) w0 w) (d:ag A A' w w'):ag R0 (x::(A'++K)) w0 w':=((h.perm (R':=A++(x::K)) aF).step d).perm aF
def ag.in2 (h:ag R0 (x::y::(A++K)) w0 w) (d:ag A A' w w'):ag R0 (x::y::(A'++K)) w0 w':=((h.perm (R':=A++(x::y::K)) aF).step d).perm aF
def ag.ON (h:ag R0 (x::(K++A)) w0 w) (d:ag A A' w w'):ag R0 (x::(K++A')) w0 w':=((h.perm (R':=A++(x::K)) aF).step d).perm aF
def ag.inR2 (h:ag R0 (x::y::(K++A)) w0 w) (d:ag A A' w w'):ag R0 (x::y::(K++A')) w0 w':=((h.perm (R':=A++(x::y::K)) aF).step d).perm aF
def ag.tj (h:ag R0 (x::y::K) w0 w):ag R0 (y::x::K) w0 w:=h.perm (Tu ..)
end
def bd (E:Nat->Nat):Nat->Nat
 |0=>0
 |k+1=>bd E k+E k
def yG {E:Nat->Nat} {s n:Nat} (h0:E s=0):∀k,bd (eG E s n) k=bd E k+if s<k then n else 0
 |0=>by simp[bd]
 |k+1=>by show bd (eG E s n) k+eG E s n k=bd E k+E k+_;rw[yG h0 k];unfold eG;by_cases e:k=s;subst e;simp[h0];by_cases q:s<k;simp[e,q,show s<k+1 by omega];omega;simp[e,q,show ¬s<k+1 by omega]
def BP {E:Nat->Nat} {M:Nat} (h:∀x,E x<=M):∀k,bd E k<=k*M
 |0=>by simp[bd]
 |k+1=>by show bd E k+E k<=_;have:=BP h k;have:=h k;rw[ut];omega
def sumE_lt {E:Nat->Nat} {N:Nat} (h:bS E N) (hN:N<=1048576):bd E N<=1099511627776:=by have:=BP (E:=E) (M:=N) (λx=>by rcases su (E x=0) with e|e;omega;have:=h.fits x e;omega) N;have:=TI hN hN;omega
def sumE_no (k:Nat):bd wo k=0:=by
 induction k with
 |zero=>rfl
 |succ k ih=>show bd wo k+0=0;omega
structure MS where
 E:Nat->Nat
 l:List Int
 lost:Bool
def cW (mk:Nat) (s:jA) (wk ob gb N e_:Nat) (z:MS) (R:BL):Prop:=∃(r v:Int) (Re Rg:BL),R=(mk,.cells #[s.val,Wz ob,Wz gb,Wz wk,(bQ z.E N:Nat),(bd z.E N:Nat),r,v] 325 (0,0))::(Re++Rg)/\dg ob N z.E Re/\oV gb e_ z.l z.lost Rg
def gU (e_:Nat) (g:Nat->Nat) (z:MS) (a:Nat):MS:=if a=0\/z.E a≠0 then z else⟨eG z.E a (bC (g a)),om e_ z.l a,uX e_ z.l z.lost⟩
def Marks (g:Nat->Nat) (St:Nat->Prop) (E:Nat->Nat):Prop:=∀x,E x≠0->St x/\E x=bC (g x)
section
variable {s:jA}{Rs:BL}{g:Nat->Nat}{St D:Nat->Prop}{N mk wk ob gb e_:Nat}{z:MS}{R K:BL}{w w':World}
def sN (mk:Nat) (w:World):WR 320 #[Wz mk,true] w (.tuple #[]) λw'=>w=w':=by go_enter func320,ntmps320;go_wp2;go_end0;exact⟨rfl,rfl⟩
def Marks.add (h:Marks g St z.E) {a:Nat} (ha:St a):Marks g St (eG z.E a (bC (g a))):=λx hx=>by
 unfold eG at hx ⊢;split
 .next e=>subst e;exact⟨ha,rfl⟩
 next e=>rw[b_ e] at hx;exact h x hx
def Marks.gU (h:Marks g St z.E) {a:Nat} (ha:a=0\/St a):Marks g St (gU e_ g z a).E:=by
 unfold Go.Proofs.YtmdgfpeglgpiiaaGreatDoor.gU;split;exact h;next hn=>
 rcases ha with e|e;exact absurd (.inl e) hn;exact h.add e
def Marks.free (hw:Whole g St D N) (h:Marks g St z.E) {a:Nat} (ha:St a) (h0:z.E a=0):∀x,z.E x≠0->x+z.E x<=a\/a+bC (g a)<=x:=λx hx=>by
 obtain⟨h1,h2⟩:=h x hx;rcases T_ x a with q|q|q;left;rw[h2];exact hw.apart x a h1 ha q;subst q;exact absurd h0 hx;right;exact hw.apart a x ha h1 q
def BI (hs:mr s Rs g D) (hw:Whole g St D N) (hN:N<=1048576) (a:Nat) (ha:a=0\/St a) (hm:cW mk s wk ob gb N e_ z R) (hM:Marks g St z.E) (hR:At (R++Rs) w) (hT:ax w) (hg:aD (R++Rs)): WR 286 #[Wz mk,(a:Nat)] w (.tuple #[]) λw'=>∃R',cW mk s wk ob gb N e_ (gU e_ g z a) R'/\ag R R' w w':=by
 obtain⟨r,v,Re,Rg,rfl,he,hk⟩:=hm;have q:=hR.1.head;have c1:w.cell? ⟨mk,1,none⟩=some (.pointer (some ⟨ob,0,none⟩)):=an q 1 _ rfl;have NU:At Re w:=hR.tail.left.left;rcases su (a=0) with h0|h0
 .subst h0;unfold gU;rw[b9 (.inl rfl)];have D0:=a_ (ag.refl hR.left);obtain⟨HE,HK⟩:=aO he hk;clear hs hw hM hR hT hg q NU ha he hk;go_enter func286,ntmps286;go_wp2;refine nl (ah3 rfl _ _ _) rfl ?_;exact⟨rfl,_,⟨r,v,Re,Rg,rfl,HE,HK⟩,D0⟩
 have LN:St a:=ha.resolve_left h0;have hf:=hw.fit a LN;have g0:((a:Int)==0)=false:=yd;by_cases h1:z.E a≠0
 .unfold gU;rw[b9 (.inr h1)];have NZ:=py (w:=w) a a he NU.1 hT ⟨bi _,e9⟩;have D0:=a_ (ag.refl hR.left);obtain⟨HE,HK,HF⟩:=dF he hk NZ;generalize z.E a=ea at *;clear hs hw hM hR hT hg q NU ha he hk NZ h1 LN hf;go_enter func286,ntmps286;go_wp2_with (go_at_call 280;refine HF.kq ?_;rintro w1 rfl);refine nl (ah3 rfl _ _ _) rfl ?_;exact⟨rfl,_,⟨r,v,Re,Rg,rfl,HE,HK⟩,D0⟩
 have Ka:z.E a=0:=ro.1 h1;have dm:=Marks.free hw hM LN Ka;have fY:=hw.is a LN;have vR:1<=bC (g a):=by unfold bC;omega
 have Ae:=wL fY;have vK:=rL (N:=N) vR Ka e9;have bu:=qW z.E N;have Ac:bd (eG z.E a (bC (g a))) N=bd z.E N+bC (g a):=by rw[yG Ka,iY]
 have hsl:=sumE_lt he.ok hN;have Oy:gU e_ g z a=⟨eG z.E a (bC (g a)),om e_ z.l a,uX e_ z.l z.lost⟩:=b_ (by rintro (e|e)<;>contradiction);rw[Oy];have NZ:=rT (w:=w) a he NU.1 hT (λx hx=>by rcases su (z.E x=0) with e|e;omega;have:=dm x e;omega) e9;have Oz:=wE hs hw hN hR.right hT a LN;have GD:=λW=>Hd.iC (Hd.tp (g a)) (Hd.tf (g a)) (Hd.to (g a)) W;rw[show Hd.dH (Hd.tp (g a)) (Hd.tf (g a)) (Hd.to (g a))=((bC (g a):Nat):Int) from by unfold Hd.dH;rw[b9 fY.1];unfold bC;omega] at GD;unfold Hd.hv at GD;have D0:=a_ (ag.refl hR.left);have HADD:=a_ (λW hW hTT=>AQ (w:=W) a (bC (g a)) he hW hTT vR e9 dm);have HPUSH:=a_ (λW hW=>stk_push (w:=W) (a:Int) hk hW);obtain⟨HF,qf,nc⟩:=dF NZ Oz GD;have HT:=a_ (λR' W (hd:ag ((mk,.cells #[s.val,Wz ob,Wz gb,Wz wk,(bQ z.E N:Nat),(bd z.E N:Nat),r,v] 325 (0,0))::(Re++Rg)) R' w W)=>hd.tz hT (aD.app.1 hg).1);have HB:∀w1 w2,Below w.heap.size w w1->Below w1.heap.size w1 w2->Below w.heap.size w w2:=λw1 w2 hb AZ=>seq hb AZ;generalize Hd.tp (g a)=p at *;generalize Hd.tf (g a)=f at *;generalize Hd.to (g a)=o at *;generalize hn:bC (g a)=n at *;generalize hc:bQ z.E N=c at *;generalize zx:bd z.E N=m at *;obtain⟨HC,HM⟩:=aO vK Ac;have x1:(c:Int)<=1048576:=e9;have x2:(m:Int)<=1099511627776:=e9;have x3:(n:Int)<=256:=e9;obtain⟨c0,-,c2,-⟩:=ft q;clear hs hw hR hT hg q NU ha he hk NZ h1 LN hf hM dm vK Ac hsl bu Oy Oz GD hn hc zx Ka fY Ae hN HB;unfold jA.val at *;go_enter func286,ntmps286;go_wp2_with (first|(go_at_call 280;refine HF.kq ?_;rintro w1 rfl)|(go_at_call 98;refine qf.kq λw1 hb=>?_;have D1:=a_ ((D0.grow hb).box #[p,f,o] 31);clear hb c0 c1 c2 D0)|(go_at_call 320;refine (sN mk _).kq ?_;rintro w1 rfl)|(go_at_call 52;refine (nc _).kg D1.grow λw2 D2=>?_;have qq:=D2.has.tail.head;have c1:=an qq 1 _ rfl;have c2:=an qq 2 _ rfl;clear qq)|(go_at_call 252;refine (HADD _ D2.at_.tail.tail.left (HT _ _ D2)).kq ?_;rintro w3 ⟨ew,LR,d3⟩;have D3:=a_ (D2.in2 d3);have Rh:=a_ LR;clear LR d3 c1 c2;have qq:=D3.has.tail.head;have c2:=an qq 2 _ rfl;have c4:=an qq 4 _ rfl;have c5:=an qq 5 _ rfl;have f4:=br qq 4;have f5:=br qq 5;clear qq));have D4:=a_ ((D3.tj.set 4 ((c:Int)+1:Int)).set 5 ((m:Int)+n:Int));clear D3 D2 D1 c2 c4 c5 f4 f5;generalize ((w3.setCell ⟨mk,4,none⟩ (.int .i64 ((c:Int)+1))).setCell ⟨mk,5,none⟩ (.int .i64 ((m:Int)+n)))=w4 at *;refine (HPUSH _ D4.at_.tail.tail.right).mono ?_;rintro e w5 ⟨pq,rfl,Ic,IG,d5⟩;have D5:=a_ (D4.inR2 d5);have HG':=a_ IG;clear IG d5 D4;go_wp2;go_end0;refine⟨rfl,_,⟨r,v,ew,Ic,?_,Rh,HG'⟩,D5.tj.tail⟩;show _=(mk,_)::(ew++Ic);rw[HC.out,HM.out];rfl
end
section
variable {w0 w w':World}{R0 R R' A A' K:BL}
def ag.oD (h:ag (R++K) (R'++K) w w') (h0:At (R++K) w):ag R R' w w':=by refine⟨?_,h.at_.left,λx hx=>?_⟩;refine⟨h.kD.1,h.kD.2.1,h.kD.2.2.1,h.kD.size,λk hk hn=>?_⟩;rcases su (Keys K k) with⟨x,hx,rfl⟩|hq;rw[h.at_.1.right x hx,h0.1.right x hx];exact h.kD.2.2.2.2 k hk λha=>(Keys.app.1 ha).elim hn hq;rcases h.low x (io _ hx) with a|a;rcases Keys.app.1 a with b|b;exact .inl b;exact (h.at_.apart ⟨x,hx,rfl⟩ b).elim;exact .inr a
def ag.cK (d:ag R0 R w0 w) (hT:ax w0) (hg:aD R0):aD R:=fun⟨x,hx,e⟩=>by
 rcases d.low x hx with a|a;exact hg (e▸a);rw[e] at a;exact ai3 _ (x_ (al1 (hT 0 z9)) a)
end
def jt (e_:Nat) (g:Nat->Nat) (z:MS) (l:List Nat):MS:=l.foldl (gU e_ g) z
def dA (g:Nat->Nat) (a:Nat):List Nat:=(List.range (Hd.tp (g a))).map λi=>g (a+1+i)
def rchs_snoc (e_:Nat) (g:Nat->Nat) (z:MS) (l:List Nat) (x:Nat):jt e_ g z (l++ [x])=gU e_ g (jt e_ g z l) x:=by unfold jt;rw[aa9];rfl
def Marks.jt {g:Nat->Nat} {St:Nat->Prop} {e_:Nat}:∀ {l:List Nat} {z:MS},Marks g St z.E->(∀x∈l,x=0\/St x)->Marks g St (jt e_ g z l).E
 |[],z,h,_=>h
 |x::l,z,h,hl=>Marks.jt (l:=l) (h.gU (hl x (fd ..))) λy hy=>hl y (dl _ hy)
section
variable {s:jA}{Rs:BL}{g:Nat->Nat}{St D:Nat->Prop}{N mk wk ob gb e_:Nat}{z:MS}{R K:BL}{w w':World}
def BH (hw:Whole g St D N) {a:Nat} (ha:St a):∀x∈dA g a,x=0\/St x:=λx hx=>by
 unfold dA at hx;obtain⟨i,hi,rfl⟩:=mt.1 hx;exact hw.ptr a i ha (B_.1 hi)
def vd (g:Nat->Nat) (a i:Nat) (h:i<Hd.tp (g a)):(dA g a).take (i+1)=(dA g a).take i++ [g (a+1+i)]:=by
 have hl:i<(dA g a).length:=by simp[dA,h]
 rw[y_ hl];simp[dA]
def BW (hs:mr s Rs g D) (hw:Whole g St D N) (hN:N<=1048576) (a:Nat) (ha:St a) (hm:cW mk s wk ob gb N e_ z R) (hM:Marks g St z.E) (hR:At (R++Rs) w) (hT:ax w) (hg:aD (R++Rs)): WR 291 #[Wz mk,(a:Nat)] w (.tuple #[]) λw'=>∃R',cW mk s wk ob gb N e_ (jt e_ g z (dA g a)) R'/\ag R R' w w':=by
 obtain⟨cs,hcs,Rt,NL⟩:∃cs,cs[0]?=some s.val/\∃Rt,R=(mk,.cells cs 325 (0,0))::Rt:=by obtain⟨r,v,Re,Rg,rfl,he,hk⟩:=hm;exact⟨_,rfl,_,rfl⟩
 have c0:w.cell? ⟨mk,0,none⟩=some s.val:=an (by rw[NL] at hR;exact hR.1.head) 0 _ hcs;have hf:=hw.fit a ha;have fY:=hw.is a ha;have hsz:=wL fY;have hp:Hd.tp (g a)<=255:=by unfold bC at hsz;omega
 have Oz:=wE hs hw hN hR.right hT a ha;have qf:=a_ Oz;have D0:=a_ (ag.refl hR);have Jr:=D0;have JA:=a_ (λi (hi:i<Hd.tp (g a)) W (hd:At Rs W) (hT:ax W)=>pointer_s hs hw hN hd hT a i ha hi);have Fw:=a_ (λx (hx:x=0\/St x) y R' W (hm:cW mk s wk ob gb N e_ y R') hM hR hT hg=>BI (w:=W) hs hw hN x hx hm hM hR hT hg);have HP:=a_ (λi (hi:i<Hd.tp (g a))=>hw.ptr a i ha hi);obtain⟨HT,Hg,Hm⟩:=dF hT hg hm;have TU:=a_ (BH hw ha);have TO:=a_ (λl (hl:∀x∈l,x=0\/St x)=>Marks.jt (l:=l) (e_:=e_) hM hl);have Mt:=a_ (show (dA g a).length=Hd.tp (g a) from by simp[dA]);have TN:=a_ hM;generalize SP:Hd.tp (g a)=p at *;generalize Hd.tf (g a)=f at *;generalize Hd.to (g a)=o at *;have x1:(p:Int)<=255:=e9;replace SP:=a_ SP;clear hs hT hg hm hM Oz fY hsz hf hcs NL hR hw ha hN;unfold jA.val at *;go_enter func291,ntmps291;go_wp2_with (first|(go_at_call 98;refine qf.kq λw1 hb=>?_;have D1:=a_ ((D0.grow hb).box #[p,f,o] 31);clear hb c0 D0)|(go_at_call 320;refine (sN mk _).kq ?_;rintro w1 rfl));generalize w1.heap.size=hb at *;generalize w1.alloc (.cells #[p,f,o] 31)=w2 at *;go_loopw [24] (λiv wr=>∃(i:Nat) (R':BL),iv=.int .i64 i/\i<=p/\cW mk s wk ob gb N e_ (jt e_ g z ((dA g a).take i)) R'/\ag (R++Rs) ((hb,.cells #[p,f,o] 31 (0,0))::(R'++Rs)) w wr) (λiv _=>p-(intOf iv).toNat);exact⟨0,R,rfl,lc _,Hm,D1⟩;obtain⟨i,R',rfl,hi,ky,hD⟩:=hrel;have Mu:=a_ ky;have HD:=a_ hD;clear D1;obtain⟨cs,hcs,Rt,NL⟩:∃cs,cs[0]?=some (.iface s.T s.v)/\∃Rt,R'=(mk,.cells cs 325 (0,0))::Rt:=by obtain⟨r,v,Re,Rg,rfl,he,hk⟩:=ky;exact⟨_,rfl,_,rfl⟩
 have c0:wr.cell? ⟨mk,0,none⟩=some (.iface s.T s.v):=an (by rw[NL] at hD;exact hD.has.tail.left.head) 0 _ hcs;clear ky hD NL hcs;have s1:=eH ((i:Int)+1);by_cases hlt:i<p
 .have Uk:=a_ (HD.tz HT Hg);have HPi:=a_ (JA i hlt wr HD.at_.tail.right Uk);have HREi:=a_ (λw2 (dw:Below wr.heap.size wr w2)=>Fw _ (HP i hlt) _ R' w2 Mu (TO _ λx hx=>TU x (ab3 hx)) (HD.at_.tail.grow dw) (Uk.grow dw) (λh=>HD.cK HT Hg (Keys.cons.2 (.inr h))));have HS:=a_ (vd g a i (SP.out▸hlt));generalize g (a+1+i)=x at *;go_wp2_with (first|(go_at_call 97;refine HPi.kh λw2 jB=>?_)|(go_at_call 320;refine (sN mk _).kq ?_;rintro w1 rfl)|(go_at_call 286;refine (HREi _ jB).kq ?_;rintro w3 ⟨R2,uC,d2⟩;have Ax:=a_ uC;have gq:=a_ ((HD.grow jB).in1 d2);clear uC d2));go_roundw;exact⟨i+1,R2,by go_num,hlt,by rw[HS.out,rchs_snoc];exact Ax,gq⟩;simp[intOf];omega
 obtain rfl:i=p:=e9;have hall:(dA g a).take i=dA g a:=by rw[<-Mt.out];exact Pu
 have Ax:=Mu.out;rw[hall] at Ax;obtain⟨r,v,Re,Rg,rfl,he,hk⟩:=Ax;obtain⟨HE,HK⟩:=aO he hk;have q:=HD.has.tail.left.head;have c7:=an q 7 _ rfl;have f7:=br q 7;clear Mu he hk q hall JA Fw HP TU TO Mt;go_wp2;go_end0;have D5:=(HD.tail.set 7 (wrap64 (v+1):Int));refine⟨rfl,_,⟨r,wrap64 (v+1),Re,Rg,rfl,HE,HK⟩,?_⟩;exact ag.oD (K:=Rs) D5 Jr.at_
end
inductive fF (g:Nat->Nat) (rs:List Nat):Nat->Prop
 |root {a:Nat} (h:a∈rs) (h0:a≠0):fF g rs a
 |ptr {a p:Nat} (h:fF g rs a) (hp:p∈dA g a) (h0:p≠0):fF g rs p
def fF.st {g:Nat->Nat} {St D:Nat->Prop} {N:Nat} (hw:Whole g St D N) {rs:List Nat} (hr:∀a∈rs,a=0\/St a) {a:Nat} (h:fF g rs a):St a:=by
 induction h with
 |root h h0=>exact (hr _ h).resolve_left h0
 |ptr h hp h0 ih=>exact (BH hw ih _ hp).resolve_left h0
def PM (g:Nat->Nat) (E:Nat->Nat) (a:Nat):Prop:=∀p∈dA g a,p=0\/E p≠0
structure kB (g:Nat->Nat) (St:Nat->Prop) (rs:List Nat) (z:MS):Prop where
 marks:Marks g St z.E
 cq:∀a,z.E a≠0->fF g rs a
 lies:∀v∈z.l,∃a:Nat,v=a/\z.E a≠0
def JS (g:Nat->Nat) (z:MS) (T:Nat->Prop):Prop:=z.lost=true\/∀a,z.E a≠0->(a:Int)∈z.l\/T a\/PM g z.E a
def mu (N:Nat) (z:MS):Nat:=2*(N-bQ z.E N)+z.l.length
structure kn (g:Nat->Nat) (St:Nat->Prop) (rs:List Nat) (N:Nat) (z z':MS):Prop where
 inv:kB g St rs z'
 FM:∀T,JS g z T->JS g z' T
 fT:∀c,c<=bQ z.E N->(z.lost=true->c<bQ z.E N)->z'.lost=true->c<bQ z'.E N
 aG:bQ z.E N<=bQ z'.E N
 ext:∀a,z.E a≠0->z'.E a≠0
 mu:mu N z'<=mu N z
section
variable {g:Nat->Nat}{St D:Nat->Prop}{rs:List Nat}{N e_:Nat}{z z1 z2:MS}
def kn.refl (h:kB g St rs z):kn g St rs N z z:=⟨h,λ_ h=>h,λ_ _ h=>h,bi _,λ_ h=>h,bi _⟩
def kn.trans (h:kn g St rs N z z1) (k:kn g St rs N z1 z2):kn g St rs N z z2:=⟨k.inv,λT t=>k.FM T (h.FM T t),λc hc hl=>k.fT c (h_ hc h.aG) (h.fT c hc hl),h_ h.aG k.aG,λa ha=>k.ext a (h.ext a ha),h_ k.mu h.mu⟩
def AD {E:Nat->Nat} {s n a:Nat} (hn:n≠0):eG E s n a≠0↔a=s\/E a≠0:=by
 unfold eG;split
 .next e=>simp[e,hn]
 next e=>simp[e]
def PM.mono {E E':Nat->Nat} {a:Nat} (h:PM g E a) (he:∀a,E a≠0->E' a≠0):PM g E' a:=λp hp=>(h p hp).imp id (he p)
def lJ (x:Nat):bC x≠0:=by unfold bC;omega
def gr_rch (hw:Whole g St D N) (hr:∀a∈rs,a=0\/St a) (h:kB g St rs z) {a:Nat} (ha:a=0\/fF g rs a):kn g St rs N z (gU e_ g z a):=by
 unfold gU;split;exact kn.refl h;next hn=>
 have h0:a≠0:=λe=>hn (.inl e);have h1:z.E a=0:=ro.1 λe=>hn (.inr e);have IW:=ha.resolve_left h0;have hst:=IW.st hw hr;have hfit:=hw.fit a hst;have hz:=lJ (g a);have vK:=rL (N:=N) (E:=z.E) (s:=a) (n:=bC (g a)) e9 h1 e9;have hne:=λx=>AD (E:=z.E) (s:=a) (a:=x) hz;have bu:=qW (eG z.E a (bC (g a))) N;have Kr:∀x,z.E x≠0->eG z.E a (bC (g a)) x≠0:=λx hx=>(hne x).2 (.inr hx);refine⟨⟨h.marks.add hst,λx hx=>?_,λv hv=>?_⟩,λT ht=>?_,λc hc hl hl'=>?_,?_,Kr,?_⟩;rcases (hne x).1 hx with e|e;exact e▸IW;exact h.cq x e;have EG:v=a\/v∈z.l:=by simp only[om] at hv;split at hv;rcases z_.1 hv with q|q;exact .inr q;exact .inl (by simpa using q);exact .inr hv
 rcases EG with e|e;exact⟨a,e,(hne a).2 (.inl rfl)⟩;obtain⟨x,hx,jl⟩:=h.lies v e;exact⟨x,hx,Kr x jl⟩;unfold JS;simp only;by_cases hp:z.l.length<e_;simp only[uX,om,hp,QQ];rcases ht with e|e;exact .inl e;refine .inr λx hx=>?_;rcases (hne x).1 hx with q|q;exact .inl (by simp[q]);rcases e x q with u|u|u;exact .inl (io _ u);exact .inr (.inl u);exact .inr (.inr (u.mono Kr));exact .inl (by simp[uX,hp]);show c<bQ (eG _ _ _) N;omega;show bQ z.E N<=bQ (eG _ _ _) N;omega;show 2*(N-bQ (eG _ _ _) N)+(om e_ z.l a).length<=2*(N-bQ z.E N)+z.l.length;have:(om e_ z.l a).length<=z.l.length+1:=by unfold om;split;simp;omega
 omega
def rch_marked (g:Nat->Nat) (e_:Nat) (z:MS) (a:Nat):a=0\/(gU e_ g z a).E a≠0:=by
 unfold gU;split
 .next h=>exact h
 exact .inr ((AD (lJ _)).2 (.inl rfl))
def vJ (hw:Whole g St D N) (hr:∀a∈rs,a=0\/St a):∀ {l:List Nat} {z:MS},kB g St rs z->(∀a∈l,a=0\/fF g rs a)->kn g St rs N z (jt e_ g z l)/\∀a∈l,a=0\/(jt e_ g z l).E a≠0
 |[],z,h,_=>⟨kn.refl h,λa ha=>by cases ha⟩
 |x::l,z,h,hl=>by have g1:=gr_rch (e_:=e_) hw hr h (hl x (fd ..));obtain⟨g2,k⟩:=vJ (l:=l) hw hr g1.inv λy hy=>hl y (dl _ hy);refine⟨g1.trans g2,λa ha=>?_⟩;rcases ii.1 ha with rfl|ha;exact (rch_marked g e_ z a).imp id (g2.ext a);exact k a ha
def xL (hw:Whole g St D N) (hr:∀a∈rs,a=0\/St a) (h:kB g St rs z) {a:Nat} (ha:z.E a≠0):kn g St rs N z (jt e_ g z (dA g a))/\∀T,JS g z (λx=>T x\/x=a)->JS g (jt e_ g z (dA g a)) T:=by
 obtain⟨g1,k⟩:=vJ (e_:=e_) hw hr (l:=dA g a) h λp hp=>by rcases su (p=0) with e|e;exact .inl e;exact .inr (.ptr (h.cq a ha) hp e)
 refine⟨g1,λT ht=>?_⟩;rcases g1.FM _ ht with e|e;exact .inl e;refine .inr λx hx=>?_;rcases e x hx with u|u|u;exact .inl u;rcases u with u|rfl;exact .inr (.inl u);exact .inr (.inr k);exact .inr (.inr u)
def gr_pop (hw:Whole g St D N) (hr:∀a∈rs,a=0\/St a) {E:Nat->Nat} {l:List Int} {lost:Bool} {a:Nat} (h:kB g St rs ⟨E,l++ [(a:Int)],lost⟩): kn g St rs N ⟨E,l++ [(a:Int)],lost⟩ (jt e_ g ⟨E,l,lost⟩ (dA g a))/\mu N (jt e_ g ⟨E,l,lost⟩ (dA g a))<mu N ⟨E,l++ [(a:Int)],lost⟩:=by
 obtain⟨x,hx,ha⟩:=h.lies a qr;obtain rfl:x=a:=e9;have h1:kB g St rs ⟨E,l,lost⟩:=⟨h.marks,h.cq,λv hv=>h.lies v (io _ hv)⟩;obtain⟨g1,k⟩:=xL (e_:=e_) hw hr h1 ha;have hm:mu N ⟨E,l,lost⟩<mu N ⟨E,l++ [(x:Int)],lost⟩:=by unfold mu;simp
 have:=g1.mu;refine⟨⟨g1.inv,λT ht=>k T ?_,g1.fT,g1.aG,g1.ext,e9⟩,e9⟩;rcases ht with e|e;exact .inl e;refine .inr λy hy=>?_;rcases e y hy with u|u|u;rcases z_.1 u with u|u;exact .inl u;exact .inr (.inl (.inr (by have e2:(y:Int)=x:=(by simpa using u);omega)));exact .inr (.inl (.inl u));exact .inr (.inr u)
def all_marked (hl:z.lost=false) (he:z.l=[]) (ht:JS g z λ_=>False) (h0:∀a∈rs,a=0\/z.E a≠0) {a:Nat} (h:fF g rs a):z.E a≠0:=by
 have ht2:=ht.resolve_left (by rw[hl];decide);induction h with
 |root h Sk=>exact (h0 _ h).resolve_left Sk
 |ptr h hp Sk ih=>
  rcases ht2 _ ih with u|u|u;rw[he] at u;cases u;exact u.elim;exact (u _ hp).resolve_left Sk
end
def ql (w:World) (b i:Nat):Nat:=match w.cell? ⟨b,i,none⟩ with
 |some (.int _ k)=>k.toNat
 |some (.slice _ n _)=>n
 |_=>0
def QC (N mk gb:Nat) (w:World):Nat:=2*(N-ql w mk 4)+ql w gb 0
def xu:Value->Nat
 |.bool true=>1
 |_=>0
def JM (mk:Nat) (s:jA) (wk ob gb N e_:Nat) (z:MS) (av:Int) (b:Bool) (R:BL):Prop:=(∃(a:Nat) (l:List Int),av=a/\b=true/\z.l=l++ [(a:Int)]/\cW mk s wk ob gb N e_ ⟨z.E,l,z.lost⟩ R)\/(b=false/\z.l=[]/\cW mk s wk ob gb N e_ z R)
section
variable {s:jA}{Rs:BL}{g:Nat->Nat}{St D:Nat->Prop}{rs:List Nat}{N mk wk ob gb e_:Nat}{z:MS}{R K:BL}{w w':World}
def OP (h:cW mk s wk ob gb N e_ z R) (hR:Has R w):QC N mk gb w=mu N z:=by obtain⟨r,v,Re,Rg,rfl,he,hk⟩:=h;obtain⟨hi,al,cap,Ra,rfl,h1,h2,h3,h4⟩:=hk;have c4:=an hR.head 4 _ rfl;have c0:=an hR.tail.right.head 0 _ rfl;unfold QC mu ql;rw[c4,c0];rfl
def BG {av:Int} {b:Bool} (h:JM mk s wk ob gb N e_ z av b R) (hR:Has R w):QC N mk gb w+xu (.bool b)=mu N z:=by rcases h with⟨a,l,rfl,rfl,hl,hm⟩|⟨rfl,hl,hm⟩;rw[OP hm hR];unfold mu xu;rw[hl];simp;omega;rw[OP hm hR];rfl
def pop_m (hm:cW mk s wk ob gb N e_ z R) (hn:∀v∈z.l,∃a:Nat,v=a/\z.E a≠0) (hR:At R w): WA 322 #[Wz gb] w λe w'=>∃av b,e=.returned (.tuple #[.int .i64 av,.bool b])/\∃R',JM mk s wk ob gb N e_ z av b R'/\ag R R' w w':=by obtain⟨r,v,Re,Rg,rfl,he,hk⟩:=hm;rcases aa6 z.l with e|⟨l,x,e⟩;rw[e] at hk;refine (stk_pop_none hk hR.1.tail.right).mono ?_;rintro e' w1 ⟨rfl,rfl⟩;exact⟨0,false,rfl,_,.inr ⟨rfl,e,r,v,Re,Rg,rfl,he,by rw[e];exact hk⟩,ag.refl hR⟩;rw[aa7] at e;obtain⟨a,rfl,ha⟩:=hn x (by rw[e];simp);rw[e] at hk;refine (stk_pop (a:Int) hk hR.tail.right).mono ?_;rintro e' w1 ⟨rfl,Ic,IG,d⟩;exact⟨a,true,rfl,_,.inl ⟨a,l,rfl,rfl,e,r,v,Re,Ic,rfl,he,IG⟩,(ag.refl hR).ON d⟩
def drain_s (hs:mr s Rs g D) (hw:Whole g St D N) (hN:N<=1048576) (hr:∀a∈rs,a=0\/St a) (hm:cW mk s wk ob gb N e_ z R) (hI:kB g St rs z) (hR:At (R++Rs) w) (hT:ax w) (hg:aD (R++Rs)): WR 287 #[Wz mk] w (.tuple #[]) λw'=>∃z' R',cW mk s wk ob gb N e_ z' R'/\z'.l=[]/\kn g St rs N z z'/\ag R R' w w':=by
 have hc:∀(z1:MS) (R':BL) (W:World),cW mk s wk ob gb N e_ z1 R'->Has R' W->W.cell? ⟨mk,2,none⟩=some (.pointer (some ⟨gb,0,none⟩)):=λz1 R' W ky hW=>by obtain⟨r,v,Re,Rg,rfl,he,hk⟩:=ky;exact an hW.head 2 _ rfl
 have c2:=hc _ _ _ hm hR.1.left;have HC:=a_ hc;have MA:=a_ (λz1 R' W (ky:cW mk s wk ob gb N e_ z1 R') hn hW=>pop_m (w:=W) ky hn hW);have HV:=a_ (λa (ha:St a) z1 R' W (ky:cW mk s wk ob gb N e_ z1 R') hM hR hT hg=>BW (w:=W) hs hw hN a ha ky hM hR hT hg);have D0:=a_ (ag.refl hR);obtain⟨HT,Hg,Hm,HI,Hw,Hr⟩:=uB hT hg hm hI hw hr;have My:=a_ (MA z R w hm hI.lies hR.left);clear hs hw hr hm hI hR hT hg hc;go_enter func287,ntmps287;go_wp2_with (go_at_call 322;refine My.mono ?_;rintro e w1 ⟨av,b,rfl,R1,p1,d1⟩;have wT:=a_ p1;have D1:=a_ (D0.step d1);clear p1 d1);go_loopw [2,3] (λav bv wr=>∃(a:Int) (b:Bool) (z1:MS) (R':BL),av=.int .i64 a/\bv=.bool b/\kn g St rs N z z1/\JM mk s wk ob gb N e_ z1 a b R'/\ag (R++Rs) (R'++Rs) w wr) (λav bv wr=>QC N mk gb wr+xu bv);exact⟨av,b,z,R1,rfl,rfl,kn.refl HI,wT,D1⟩;clear c2 D1 wT;obtain⟨a,b,z1,R',rfl,rfl,Ep,hp,hD⟩:=hrel;have LW:=BG hp hD.has.left;rcases hp with⟨a,l,rfl,rfl,hl,hm⟩|⟨rfl,hl,hm⟩
 .obtain⟨E,l1,lost⟩:=z1;simp only at hl hm;subst hl;obtain⟨x,hx,ha⟩:=Ep.inv.lies a qr;obtain rfl:x=a:=e9;obtain⟨g2,hlt⟩:=gr_pop (e_:=e_) Hw Hr Ep.inv;have c2:=HC _ _ _ hm hD.has.left;have HVa:=a_ (HV x (Ep.inv.marks x ha).1 _ R' wr hm Ep.inv.marks hD.at_ (hD.tz HT Hg) (hD.cK HT Hg));have HD:=a_ hD;have Pz:=a_ (Ep.trans g2);obtain⟨PD,HLt⟩:=aO LW hlt;clear hD Ep g2 LW hlt hm hx ha;generalize jt e_ g ⟨E,l,lost⟩ (dA g x)=z2 at *;go_wp2_with (first|(go_at_call 291;refine HVa.kq ?_;rintro w2 ⟨R2,m2,d2⟩;have gq:=a_ (HD.step d2);have MB:=a_ (MA z2 R2 w2 m2 Pz.inv.lies gq.at_.left);clear c2;have c2:=HC _ _ _ m2 gq.has.left;clear m2 d2)|(go_at_call 322;refine MB.mono ?_;rintro e w3 ⟨av,b,rfl,R3,p3,d3⟩;have lZ:=a_ p3;have Jt:=a_ (gq.step d3);clear p3 d3));go_roundw;exact⟨av,b,z2,R3,rfl,rfl,Pz,lZ,Jt⟩;have h1:=BG lZ Jt.has.left;have h2:=PD.out;have h3:=HLt.out;show _+xu (.bool b)<_+xu (.bool true);omega
 have HD:=a_ hD;obtain⟨Pz,HM,HL⟩:=dF Ep hm hl;clear hD Ep hm hl LW;go_wp2;go_end0;exact⟨rfl,z1,R',HM,HL,Pz,ag.oD (K:=Rs) HD D0.at_⟩
end
noncomputable def bB (E:Nat->Nat) (N:Nat):Nat:=aG (dI E) N
def gO (b N z:Nat) (E:Nat->Nat) (aa:Nat) (R:BL):Prop:=∃tb ob Rt Ro,R=(b,.cells #[Wz tb,Wz ob,aa] 336 (0,0))::(Rt++Ro)/\rC tb N z (dI E) Rt/\dg ob N E Ro/\aa<2147483648
section
variable {b N z aa:Nat}{E:Nat->Nat}{R K:BL}{w w':World}
def eE (E:Nat->Nat) (N:Nat):bB E N<=N:=bE _ _
def gO.parts (h:gO b N z E aa R) (hR:At R w):∃tb Rt,w.cell? ⟨b,0,none⟩=some (.pointer (some ⟨tb,0,none⟩))/\w.cell? ⟨b,2,none⟩=some (.int .i64 aa)/\rC tb N z (dI E) Rt/\At Rt w:=by obtain⟨tb,ob,Rt,Ro,rfl,h1,h2,h3⟩:=h;have q:=hR.1.head;exact⟨tb,Rt,an q 0 _ rfl,an q 2 _ rfl,h1,hR.tail.left⟩
def gO.ij (h:gO b N z E aa R):1<=N/\N<=1048576/\aa<2147483648:=by obtain⟨tb,ob,Rt,Ro,rfl,h1,h2,h3⟩:=h;exact⟨h1.ij.1,h1.ij.2,h3⟩
def gO.ok (h:gO b N z E aa R):bS E N/\iq z:=by obtain⟨tb,ob,Rt,Ro,rfl,⟨lv,xb,Rl,Rx,-,h4,vb,Rv,al,cap,Ra,-,-,-,h5⟩,h2,h3⟩:=h;exact⟨h2.ok,h5⟩
def uo (h:gO b N z E aa R) (hR:At R w):WR 278 #[Wz b] w aa λw'=>w=w':=by obtain⟨tb,Rt,c0,c2,h1,h2⟩:=h.parts hR;clear h hR h1 h2;go_enter func278,ntmps278;go_wp2;go_ret;exact⟨rfl,rfl⟩
def rY (h:gO b N z E aa R) (hR:At R w):WR 218 #[Wz b] w (bB E N:Nat) λw'=>w=w':=by obtain⟨tb,Rt,c0,c2,h1,h2⟩:=h.parts hR;have H:=a_ (ve h1 h2);clear h hR h1 h2;go_enter func218,ntmps218;go_wp2_with (go_at_call 253;refine H.kq ?_;rintro w1 rfl);go_ret;exact⟨rfl,rfl⟩
def kL (h:gO b N z E aa R) (hR:At R w):WR 174 #[Wz b] w (aa+bB E N:Nat) λw'=>Below w.heap.size w w':=by
 obtain⟨tb,Rt,c0,c2,h1,h2⟩:=h.parts hR;have hd:=h.ij;have hl:=eE E N;have Q:=a_ (fV (w:=w) λW hW=>Calls.gE (ve h1 (h2.grow hW)));rw[show aG (dI E) N=bB E N from rfl] at Q;generalize bB E N=L at *;have s1:IntKind.i64.wrap ((aa:Int)+L)=((aa+L:Nat):Int):=kh;have S1:=a_ s1;have k0:=cell_regrown c0;have k2:=cell_regrown c2;clear h hR h1 h2 s1 c0 c2;go_enter func174,ntmps174;go_wp2;refine wp_region_quiet_below ol ol ?_;repeat (quiet_step ((go_at_call 253;exact Q _ _)))
 refine aa4 ?_;intro _ tZ;obtain⟨⟨dq,sQ⟩,iW⟩:=tZ;subst iW;go_wp2;go_ret;exact⟨NE (λq=>Ending.returned (.int .i64 q)) S1.out,below_regrown w dq sQ⟩
def Ea (a:Int) (h:gO b N z E aa R) (hR:At R w) (ha:lh (dI E) a=false):WR 178 #[Wz b,a] w (.tuple #[Wy,(6:Int)]) λw'=>w=w':=by obtain⟨tb,Rt,c0,c2,h1,h2⟩:=h.parts hR;have hi:=EI a h1 h2;rw[ha] at hi;have HI:=a_ hi;clear h hR h1 h2 hi ha;go_enter func178,ntmps178;go_wp2_with (go_at_call 260;refine HI.kq ?_;rintro w1 rfl);go_ret2;exact⟨rfl,rfl⟩
noncomputable def qp (E:Nat->Nat) (aa a:Nat):Nat:=aa+aG (dI E) a
def AS (a:Nat) (h:gO b N z E aa R) (hR:At R w) (ha:dI E a=true):WR 178 #[Wz b,a] w (.tuple #[(qp E aa a:Nat),Wy]) λw'=>Below w.heap.size w w':=by
 obtain⟨tb,Rt,c0,c2,h1,h2⟩:=h.parts hR;have hd:=h.ij;have haN:a<N:=by rcases ip a N with q|q;exact q;rw[h.ok.1.vW a q] at ha;cases ha
 have hi:=EI (w:=w) (a:Int) h1 h2;rw[show lh (dI E) (a:Int)=true from by unfold lh;simp[ha]] at hi;have HI:=a_ hi;have kP:min a N=a:=e9;have Q:=a_ (fV (w:=w) λW hW=>tbefore_any a h1 (h2.grow hW) e9);rw[kP] at Q;have bu:=bE (dI E) a;unfold qp;generalize aG (dI E) a=L at *;have s1:IntKind.i64.wrap ((aa:Int)+L)=((aa+L:Nat):Int):=kh;have S1:=a_ s1;have k0:=cell_regrown c0;have k2:=cell_regrown c2;clear h hR h1 h2 s1 hi bu kP;go_enter func178,ntmps178;go_wp2_with (go_at_call 260;refine HI.kq ?_;rintro w1 rfl);clear c0 c2;refine wp_region_quiet_below ol ol ?_;repeat (quiet_step ((go_at_call 261;exact Q _ _)))
 refine aa4 ?_;intro _ tZ;obtain⟨⟨dq,sQ⟩,iW⟩:=tZ;subst iW;go_wp2;go_ret2;exact⟨NE (λq=>Ending.returned (.tuple #[.int .i64 q,.int .i64 0])) S1,below_regrown w dq sQ⟩
def ffrom_no (p:Int) (h:gO b N z E aa R) (hR:At R w) (hp:p<aa\/((aa+bB E N:Nat):Int)<=p):WR 314 #[Wz b,p] w (.tuple #[Wy,(11:Int)]) λw'=>Below w.heap.size w w':=by
 obtain⟨tb,Rt,c0,c2,h1,h2⟩:=h.parts hR;have hd:=h.ij;have HT:=a_ (kL h hR);generalize aa+bB E N=tp at *;by_cases hlt:p<aa
 .have g1:decide (p<aa)=true:=rc hlt;clear h hR h1 h2 hp;go_enter func314,ntmps314;go_wp2;go_ret2;exact⟨rfl,Below.refl _ _⟩
 have g1:decide (p<aa)=false:=g_ hlt;have g2:decide ((tp:Int)<=p)=true:=kr;clear h hR h1 h2 hp;go_enter func314,ntmps314;go_wp2_with (go_at_call 174;refine HT.kh λw1 HB=>?_);go_ret2;exact⟨rfl,HB⟩
noncomputable def vD (E:Nat->Nat) (N j:Nat):Nat:=qR (dI E) N j
def pA (j:Nat) (h:gO b N z E aa R) (hR:At R w) (hT:ax w) (hj:j<bB E N):WR 314 #[Wz b,((aa:Int)+j:Int)] w (.tuple #[(vD E N j:Nat),Wy]) λw'=>Below w.heap.size w w':=by
 obtain⟨tb,Rt,c0,c2,h1,h2⟩:=h.parts hR;have hd:=h.ij;have hl:=eE E N;have HT:=a_ (kL h hR);have QW:=a_ (λw1 (kA:Below w.heap.size w w1)=>fV (w:=w1) λW hW=>tword_any j h1 ((h2.grow kA).grow hW) ((hT.grow kA).grow hW) hj);have e2:((aa+bB E N:Nat):Int)=(aa:Int)+(bB E N:Nat):=e9;rw[e2] at HT;unfold vD;generalize bB E N=L at *;generalize qR (dI E) N j=pk at *;have g1:decide ((aa:Int)+j<aa)=false:=dP;have g2:decide ((aa:Int)+L<=(aa:Int)+j)=false:=dP;have s1:IntKind.i64.wrap ((aa:Int)+j-aa)=(j:Int):=kh;obtain⟨C0,C2⟩:=aO c0 c2;clear h hR h1 h2 hT e2 hl hd;go_enter func314,ntmps314;go_wp2_with (go_at_call 174;refine HT.kh λw1 HB=>?_);clear c0 c2;have k0:=cell_regrown (bA HB (bi _) C0);have k2:=cell_regrown (bA HB (bi _) C2);have Q:=a_ (QW _ HB);refine wp_region_quiet_below ol ol ?_;repeat (quiet_step ((go_at_call 334;exact Q _ _)))
 refine aa4 ?_;intro _ tZ;obtain⟨⟨dq,sQ⟩,iW⟩:=tZ;subst iW;go_wp2;go_ret2;exact⟨rfl,seq HB (below_regrown w1 dq sQ)⟩
end
section
attribute [local go_sem] Oper.semAt_some
def oh (E:Nat->Nat) (pre:List (Nat×Nat)):Nat->Nat:=λa=>if a∈pre.map (·.1) then E a else 0
def preE_nil (E:Nat->Nat):oh E []=wo:=funext λa=>by simp[oh,wo]
def onesB_nodup (f:Nat->Bool) (n:Nat):(cN f n).Nodup:=aa2 Q_ ab4
def all_keys (E:Nat->Nat) (N:Nat):(dU E N).map (·.1)=cN (gL E) N:=by unfold dU;rw[Pi];exact List.map_id _
def preE_all {E:Nat->Nat} {N:Nat} (h:bS E N):oh E (dU E N)=E:=funext λa=>by
 unfold oh;rw[all_keys];unfold cN;split;rfl;next hn=>
 rcases su (E a=0) with e|e;exact e.symm;exact absurd (GS.2 ⟨B_.2 (by have:=h.fits a e;omega),dR.2 e⟩) hn
def preE_step {E:Nat->Nat} {pre:List (Nat×Nat)} {s:Nat}:eG (oh E pre) s (E s)=oh E (pre++ [(s,E s)]):=funext λa=>by
 unfold eG oh;by_cases e:a=s;subst e;simp;rw[b_ e];have:(a∈(pre++ [(s,E s)]).map (·.1))↔a∈pre.map (·.1):=by simp[e]
 simp only[this]
def pre_new {E:Nat->Nat} {N:Nat} {pre post:List (Nat×Nat)} {x:Nat×Nat} (e:dU E N=pre++x::post):x.1∉pre.map (·.1):=by have hn:=onesB_nodup (gL E) N;rw[<-all_keys,e,DV,t9,Fd] at hn;exact λhm=>hn.2.2 _ hm _ (fd ..) rfl
def pre_free {E:Nat->Nat} {N:Nat} (h:bS E N) {pre post:List (Nat×Nat)} {x:Nat×Nat} (e:dU E N=pre++x::post):∀a,oh E pre a≠0->a+oh E pre a<=x.1\/x.1+x.2<=a:=λa ha=>by
 obtain⟨h1,h2,h3⟩:=eC h e;have hne:a≠x.1:=λq=>by subst q;unfold oh at ha;rw[b_ (pre_new e)] at ha;exact ha rfl
 unfold oh at ha ⊢;split at ha
 .next hm=>
  rw[b9 hm];rcases ip a x.1 with q|q;left;rcases ip x.1 (a+E a) with r|r;exact absurd (h.apart a x.1 ha q r) h2;exact r;right;rcases ip a (x.1+x.2) with r|r;rw[h1] at r;exact absurd (h.apart x.1 a h2 e9 r) ha;exact r
 exact absurd rfl ha
section
variable {m N z aa:Nat}{E:Nat->Nat}{R K:BL}{w w':World}
def AT (h:dg m N E R) (hR:At R w) (hT:ax w) (hg:aD R) (hz:iq z) (hb:aa<2147483648): WA 173 #[Wz m,z,aa] w λe w'=>∃b,e=.returned (.tuple #[Wz b,Wy])/\∃R',gO b N z E aa R'/\ag R (R'++R) w w':=by
 have hd:=h.ij;have HO:=a_ (off_new h hR hT hg hz);have HW:=a_ (λW (hW:Has R W)=>eJ (w:=W) h hW);have HX:=a_ (λW=>nF N W hd.1 hd.2);have g1:decide ((aa:Int)<0)=false:=dP;have g2:decide ((2147483648:Int)<=(aa:Int))=false:=dP;refine (u_ (n:=3)).1 ?_;refine callsIn_of_wp_marks func173 rfl trivial ?_ rfl;simp only[ntmps173,M_,r',O',Nat.reduceAdd,Nat.reduceSub,H_,Le,P',L',p',m_];gi_wp2_with (first|(refine⟨trivial,?_⟩;gi_at_call 251;refine (u_.2 HO).mono ?_;rintro e w1 ⟨tb,rfl,Rt,t1,d1⟩;have T1:=a_ t1;have D1:=a_ d1;clear t1 d1;have ML:=a_ (HW _ D1.has.right))|(refine⟨trivial,?_⟩;gi_at_call 238;refine (u_.2 ML).mono ?_;rintro e w' ⟨rfl,rfl⟩)|(refine⟨trivial,?_⟩;gi_at_call 156;refine (u_.2 (HX _)).mono ?_;rintro e w2 ⟨ob,rfl,Ro,o2,d2⟩;have O2:=a_ o2;have D2:=a_ ((D1.bh d2).box #[Wz ob] 215);clear o2 d2)|(refine⟨trivial,?_⟩;gi_at_call 175;refine (u_.2 (all_mk _ _)).mono ?_;rintro e w3 ⟨rfl,rfl⟩));have D3:=a_ (D2.box #[Wz m] 215);rw[ww] at D3;obtain⟨B1,FD⟩:=kw w2.heap.size;simp only[ww,FD] at D3 ⊢;generalize (w2.alloc (.cells #[Wz ob] 215)).alloc (.cells #[Wz m] 215)=w4 at *;clear D1 D2 FD HW HX HO ML;have gv:=eM (λ(pre:List (Nat×Nat)) Rl=>dg ob N (oh E pre) Rl) R w hT hg;refine dC (gf:=254) (lb:= #[.pointer (some ⟨B1+1,0,none⟩)]) rfl dS (fL (Bm:=B1+1) (T:=215) h) (λ_=>rfl) ((B1+1,.cells #[Wz m] 215 (0,0))::(B1,.cells #[Wz ob] 215 (0,0))::(R++Rt)) (λx hx=>by rcases ii.1 hx with rfl|hx;exact fd ..;exact dl _ (dl _ (io _ hx))) (λpre K W=>∃Rl,dg ob N (oh E pre) Rl/\ag R (Rl++K) w W) (λc pre K W=>False/\∃Rl,dg ob N (oh E pre) Rl/\ag R (Rl++K) w W) gv (λc=>gv.and _) ⟨Ro,by rw[preE_nil];exact O2,D3.perm aF⟩ ?a1 ?assign ?body ?done ?stop;case assign=>intro l x W K hK;simp only[gg,eK,q_,Fl,Pr];gi_wp2;exact hK
 case body=>
  clear D3 O2;intro l' pre x post K' W gz hsub hi;obtain⟨e1,e2,e3⟩:=eC h.ok gz;have dm:=pre_free h.ok gz;obtain⟨x,z0⟩:=x;simp only at e1 e2 e3 dm;obtain⟨Rl,hv,hD⟩:=hi;have jJ:=hD.has.right.one (hsub (B1,.cells #[Wz ob] 215 (0,0)) qr);have c0:=an jJ 0 _ rfl;have hF:=AQ x z0 hv hD.at_.left (hD.tz hT hg) e9 e3 dm;rw[e1,preE_step,<-e1] at hF;obtain⟨HF,HD⟩:=aO hF hD;have x1:(x:Int)<=1048576:=e9;have x2:(z0:Int)<=1048576:=e9;clear hF hD hv jJ e1 e2 e3 gz hT hg h gv dm;gi_wp2_with (refine⟨trivial,rfl,?_⟩;gi_at_call 252;refine (CallsIn.inRound l' (u_.2 HF)).mono ?_;rintro e W' ⟨rfl,R',v',d'⟩;have V2:=a_ v';have D3:=a_ (HD.step d');clear v' d');exact⟨R',V2,D3⟩
 case done=>
  intro D W hi;obtain⟨Rl,hv,hD⟩:=hi;rw[preE_all h.ok] at hv;have HV:=a_ hv;have c0:=an (hD.has.right.tail.tail.head) 0 _ rfl;have HD:=a_ hD;clear hD hv hT hg h gv D3 O2;gi_wp2;have D5:=HD.box #[Wz tb,Wz ob,aa] 336;have tX:=D5.has.tail.right.head;have D6:=(D5.perm (R':=(D,.deferred (some []))::(B1+1,.cells #[Wz m] 215 (0,0))::(B1,.cells #[Wz ob] 215 (0,0))::((W.heap.size,.cells #[Wz tb,Wz ob,aa] 336 (0,0))::(Rt++Rl))++R) aF).putObj (.deferred none);refine⟨qr,.inl ⟨_,_,rfl,run_takeDeferred tX,?_⟩⟩;exact⟨_,by simp[results,results173,go_sem],_,rfl,_,⟨tb,ob,Rt,Rl,rfl,T1,HV,hb⟩,D6.tail.tail.tail⟩
 case stop=>
  rintro D c pre W hp ⟨hf,-⟩;exact hf.elim
end
def wpListIn_append_run {F:Fence} {n:Nat} {P:Program} (w:World) {ops:Array Oper} {rest:List Oper} {o:Oper} {a:Act} {Q:Exit->Act->World->Prop} (hgd:o.guard=none) (s x:Operand) (t:TypeId) (ho:o.op=.call {callee:= .builtin .append,args:= #[s,x],argTypes:= #[t,t]}) (v vx v':Value) (w':World) (hs:a.eval s=v) (hx:a.eval x=vx) (hr:(Builtin.append_ #[t,t] o.type #[v,vx]).run P w=.ok v' w') (h:wpListIn F n P ops Q rest (a.put o.dst v') w'):wpListIn F n P ops Q (o::rest) a w:=by refine wpListIn_plain hgd λK' hK'=>?_;unfold Oper.wpIn;refine⟨?_,?_⟩;simp[Oper.about,ho,resolve,Target.leads,ak1];rw[Oper.semAt_plain F _ _ (by rw[ho];intro c Ba;cases Ba)];unfold execOp;simp only[ho,resolve,invoke,builtin,Sem.run_bind,ak1,ak2,aj4,t9,ae4,hs,hx,hr];exact hK' _ _ h
def nQ (l:List (Nat×Nat)):List Int:=l.map λp=>(p.1:Int)
def AF {E:Nat->Nat} {N:Nat} {pre post:List (Nat×Nat)} {x:Nat×Nat} (e:dU E N=pre++x::post):pre.length<N:=by
 have h1:(dU E N).length<=N:=by unfold dU cN;rw[i8];exact h_ (List.length_filter_le ..) qr
 rw[e] at h1;simp at h1;omega
section
variable {s:jA}{Rs:BL}{g:Nat->Nat}{St D:Nat->Prop}{rs:List Nat}{N mk wk ob gb e_:Nat}{z:MS}{R K:BL}{w w':World}
def starts_s (hm:cW mk s wk ob gb N e_ z R) (hR:At R w) (hT:ax w) (hg:aD R): WA 290 #[Wz mk] w λe w'=>∃al cap n,e=.returned (.slice al n cap)/\n=(dU z.E N).length/\∃Ra,Rz 3 1 n (mJ (nQ (dU z.E N))) al cap Ra/\ag R (Ra++R) w w':=by
 obtain⟨r,v,Re,Rg,Sy,he,hk⟩:=hm;have CT:=hR;rw[Sy] at CT;have c1:=an CT.1.head 1 _ rfl;have hsub:∀x∈Re,x∈R:=λx hx=>by rw[Sy];exact dl _ (io _ hx)
 have D1:=a_ ((ag.refl hR).box #[.slice none 0 0] 58);have HE:=a_ he;have LG:(w.alloc (.cells #[.slice none 0 0] 58)).cell? ⟨mk,1,none⟩=some (.pointer (some ⟨ob,0,none⟩)):=bA (au w _) (bi _) c1;clear hk Sy CT c1;refine (u_ (n:=3)).1 ?_;refine callsIn_of_wp_marks func290 rfl trivial ?_ rfl;simp only[ntmps290,M_,r',O',Nat.reduceAdd,Nat.reduceSub,H_,Le,P',L',p',m_];gi_wp2_with (refine⟨trivial,?_⟩;gi_at_call 175;refine (u_.2 (all_mk _ _)).mono ?_;rintro e w3 ⟨rfl,rfl⟩);have D2:=a_ (D1.box #[Wz ob] 215);rw[ww] at D2;obtain⟨B1,FD⟩:=kw w.heap.size;simp only[ww,FD] at D2 ⊢;generalize (w.alloc (.cells #[.slice none 0 0] 58)).alloc (.cells #[Wz ob] 215)=w3 at *;clear D1 LG FD;have gv:=eM (λ(pre:List (Nat×Nat)) Rl=>∃al cap Ra,Rl=(B1,.cells #[.slice al pre.length cap] 58 (0,0))::Ra/\Rz 3 1 pre.length (mJ (nQ pre)) al cap Ra) R w hT hg;refine dC (gf:=254) (lb:= #[.pointer (some ⟨B1+1,0,none⟩)]) rfl dS (fL (Bm:=B1+1) (T:=215) HE) (λ_=>rfl) ((B1+1,WD #[Wz ob] 215)::R) (λx hx=>by rcases ii.1 hx with rfl|hx;exact fd ..;exact dl _ (hsub x hx)) (λpre K W=>∃Rl,(∃al cap Ra,Rl=(B1,.cells #[.slice al pre.length cap] 58 (0,0))::Ra/\Rz 3 1 pre.length (mJ (nQ pre)) al cap Ra)/\ag R (Rl++K) w W) (λc pre K W=>False/\∃Rl,(∃al cap Ra,Rl=(B1,.cells #[.slice al pre.length cap] 58 (0,0))::Ra/\Rz 3 1 pre.length (mJ (nQ pre)) al cap Ra)/\ag R (Rl++K) w W) gv (λc=>gv.and _) ⟨_,⟨none,0,[],rfl,Rw.nil _ _ _⟩,D2.perm aF⟩ ?a1 ?assign ?body ?done ?stop;case assign=>intro l x W K hK;simp only[gg,eK,q_,Fl,Pr];gi_wp2;exact hK
 case body=>
  clear D2;intro l' pre x post K' W gz hsub2 hi;obtain⟨x,z0⟩:=x;obtain⟨Rl,⟨al,cap,Ra,rfl,hr⟩,hD⟩:=hi;have hlen:=AF gz;have c3:=an hD.has.head 0 _ rfl;obtain⟨j1,hj,sB,oQ,sC⟩:=BT fP;obtain⟨HD,Hr⟩:=aO hD hr;have hN20:N<=1048576:=HE.ij.2;obtain⟨wU,eO,w5,AA,hrun,kz,hN⟩:=Hr.LD (K:=(B1,.cells #[.slice al pre.length cap] 58 (0,0))::K') (HD.perm (R':=Ra++((B1,.cells #[.slice al pre.length cap] 58 (0,0))::K')) aF) hj sB oQ sC rfl z9 underlying58 #[.int .i64 x] rfl (by intro u hu;simp only[ii,ul,N_] at hu;rw[hu];rfl) (by unfold maxLen;omega) e9;obtain⟨et,Az,HN⟩:=dF hrun kz hN;have q5:=hN.has.right.head;have b0:=an q5 0 _ rfl;have f0:=br q5 0;clear hrun kz hN q5 hD hr hT hg gv gz hsub2 hlen;generalize kj:pre.length=n at *;have Hpl:=a_ kj;clear kj;gi_wp2_with (gi_at_builtin;refine wpListIn_append_run _ rfl (.tmp 12) (.tmp 14) 58 rfl _ _ _ _ rfl rfl et ?_);have Bd:(pre++ [(x,z0)]).length=n+1:=(by rw[ge,Hpl.out];rfl);have wZ:mJ (nQ (pre++ [(x,z0)]))=mJ (nQ pre)++ [.int .i64 x]:=(by simp[mJ,nQ]);refine⟨_,⟨wU,eO,AA,rfl,?_⟩,?_⟩;rw[Bd,wZ];exact Az;rw[Bd];exact ((HN.perm (R':=(B1,.cells #[.slice al n cap] 58 (0,0))::(AA++K')) aF).set 0 (.slice wU (n+1) eO))
 case done=>
  intro D W hi;obtain⟨Rl,⟨al,cap,Ra,rfl,hr⟩,hD⟩:=hi;obtain⟨HD,Hr⟩:=aO hD hr;have c3:=an hD.has.head 0 _ rfl;clear hD hr hT hg gv D2;gi_wp2;have tX:=HD.has.tail.right.head;have D6:=(HD.perm (R':=(D,.deferred (some []))::(B1+1,.cells #[Wz ob] 215 (0,0))::(B1,.cells #[.slice al (dU z.E N).length cap] 58 (0,0))::(Ra++R)) aF).putObj (.deferred none);refine⟨qr,.inl ⟨_,_,rfl,run_takeDeferred tX,?_⟩⟩;exact⟨_,by simp[results,results290,go_sem],al,cap,_,rfl,rfl,Ra,Hr,D6.tail.tail.tail⟩
 case stop=>
  rintro D c pre W hp ⟨hf,-⟩;exact hf.elim
end
end
def At.QA {A B C:BL} {w:World} (h:At (A++(B++C)) w):At (A++B) w:=by rw[<-List.append_assoc] at h;exact h.left
def qA (gb:Nat) (w:World):Nat:=match w.cell? ⟨gb,3,none⟩ with
 |some (.bool true)=>1
 |_=>0
def kQ (E:Nat->Nat) (N:Nat):List Nat:=(dU E N).map (·.1)
def keysN_mem {E:Nat->Nat} {N:Nat} (h:bS E N) {a:Nat}:a∈kQ E N↔E a≠0:=by
 unfold kQ;rw[all_keys];unfold cN;rw[GS,B_];constructor;exact fun⟨_,h2⟩=>dR.1 h2
 exact λh2=>⟨by have:=h.fits a h2;omega,dR.2 h2⟩
def ez (l:List Nat):List Value:=mJ (l.map λx:Nat=>(x:Int))
def sM (l:List Nat) (i:Nat) (hi:i<l.length):(ez l)[i]?=some (.int .i64 (l[i]:Nat)):=by simp[ez,mJ,hi]
def keys_nats (E:Nat->Nat) (N:Nat):mJ (nQ (dU E N))=ez (kQ E N):=by unfold ez nQ kQ;rw[Pi];rfl
section
variable {s:jA}{Rs:BL}{g:Nat->Nat}{St D:Nat->Prop}{rs:List Nat}{N mk wk ob gb e_:Nat}{z:MS}{R R0 K:BL}{w0 w w':World}
def cW.ext (h:cW mk s wk ob gb N e_ z R):bS z.E N:=by obtain⟨r,v,Re,Rg,rfl,he,hk⟩:=h;exact he.ok
def cW.qA (h:cW mk s wk ob gb N e_ z R) (hR:Has R w):Go.Proofs.YtmdgfpeglgpiiaaGreatDoor.qA gb w=if z.lost then 1 else 0:=by obtain⟨r,v,Re,Rg,rfl,he,hk⟩:=h;obtain⟨hi,al,cap,Ra,rfl,h1,h2,h3,h4⟩:=hk;have c3:=an hR.tail.right.head 3 _ rfl;unfold Go.Proofs.YtmdgfpeglgpiiaaGreatDoor.qA;rw[c3];cases z.lost<;>rfl
def reach_k (hs:mr s Rs g D) (hw:Whole g St D N) (hN:N<=1048576) (hr:∀a∈rs,a=0\/St a) (hT:ax w0) (hg:aD R0) (a:Nat) (ha:a=0\/fF g rs a) (hm:cW mk s wk ob gb N e_ z R) (hI:kB g St rs z) (hD:ag R0 (R++(Rs++K)) w0 w): WR 286 #[Wz mk,(a:Nat)] w (.tuple #[]) λw'=>∃R',cW mk s wk ob gb N e_ (gU e_ g z a) R'/\ag R0 (R'++(Rs++K)) w0 w':=by refine (BI hs hw hN a (ha.imp id (fF.st hw hr)) hm hI.marks hD.at_.QA (hD.tz hT hg) (λh=>hD.cK hT hg (by rw[<-List.append_assoc];exact Keys.app.2 (.inl h)))).kq ?_;rintro w1 ⟨R',h1,d⟩;exact⟨rfl,R',h1,hD.step d⟩
def visit_k (hs:mr s Rs g D) (hw:Whole g St D N) (hN:N<=1048576) (hr:∀a∈rs,a=0\/St a) (hT:ax w0) (hg:aD R0) (a:Nat) (ha:z.E a≠0) (hm:cW mk s wk ob gb N e_ z R) (hI:kB g St rs z) (hD:ag R0 (R++(Rs++K)) w0 w): WR 291 #[Wz mk,(a:Nat)] w (.tuple #[]) λw'=>∃R',cW mk s wk ob gb N e_ (jt e_ g z (dA g a)) R'/\ag R0 (R'++(Rs++K)) w0 w':=by refine (BW hs hw hN a (hI.marks a ha).1 hm hI.marks hD.at_.QA (hD.tz hT hg) (λh=>hD.cK hT hg (by rw[<-List.append_assoc];exact Keys.app.2 (.inl h)))).kq ?_;rintro w1 ⟨R',h1,d⟩;exact⟨rfl,R',h1,hD.step d⟩
def drain_k (hs:mr s Rs g D) (hw:Whole g St D N) (hN:N<=1048576) (hr:∀a∈rs,a=0\/St a) (hT:ax w0) (hg:aD R0) (hm:cW mk s wk ob gb N e_ z R) (hI:kB g St rs z) (hD:ag R0 (R++(Rs++K)) w0 w): WR 287 #[Wz mk] w (.tuple #[]) λw'=>∃z' R',cW mk s wk ob gb N e_ z' R'/\z'.l=[]/\kn g St rs N z z'/\ag R0 (R'++(Rs++K)) w0 w':=by refine (drain_s hs hw hN hr hm hI hD.at_.QA (hD.tz hT hg) (λh=>hD.cK hT hg (by rw[<-List.append_assoc];exact Keys.app.2 (.inl h)))).kq ?_;rintro w1 ⟨z',R',h1,h2,h3,d⟩;exact⟨rfl,z',R',h1,h2,h3,hD.step d⟩
def cW.aG (h:cW mk s wk ob gb N e_ z R) (hR:Has R w):ql w mk 4=bQ z.E N:=by obtain⟨r,v,Re,Rg,rfl,he,hk⟩:=h;have c4:=an hR.head 4 _ rfl;unfold ql;rw[c4];rfl
def lost_m (h:cW mk s wk ob gb N e_ z R) (hR:Has R w):WR 288 #[Wz gb] w (.bool z.lost) λw'=>w=w':=by obtain⟨r,v,Re,Rg,rfl,he,hk⟩:=h;exact stk_lost hk hR.tail.right
def found_k (h:cW mk s wk ob gb N e_ z R) (hD:ag R0 (R++K) w0 w):WR 289 #[Wz gb] w (.tuple #[]) λw'=>∃R',cW mk s wk ob gb N e_ ⟨z.E,z.l,false⟩ R'/\ag R0 (R'++K) w0 w':=by obtain⟨r,v,Re,Rg,rfl,he,hk⟩:=h;refine (stk_found hk hD.at_.left.tail.right).kq ?_;rintro w1 ⟨Ic,IG,d⟩;exact⟨rfl,_,⟨r,v,Re,Ic,rfl,he,IG⟩,hD.step ((ag.refl hD.at_.left).ON d)⟩
def starts_k (hT:ax w0) (hg:aD R0) (h:cW mk s wk ob gb N e_ z R) (hD:ag R0 (R++(Rs++K)) w0 w):WA 290 #[Wz mk] w λe w'=>∃al cap n,e=.returned (.slice al n cap)/\n=(kQ z.E N).length/\∃Ra,Rz 3 1 n (ez (kQ z.E N)) al cap Ra/\ag R0 (R++(Rs++(Ra++K))) w0 w':=by refine (starts_s h hD.at_.left (hD.tz hT hg) (λh=>hD.cK hT hg (Keys.app.2 (.inl h)))).mono ?_;rintro e w1 ⟨al,cap,n,rfl,hn,Ra,hr,d⟩;refine⟨al,cap,n,rfl,by rw[hn];unfold kQ;rw[i8],Ra,by rw[<-keys_nats];exact hr,(hD.step d).perm aF⟩
end
structure Calm (g:Nat->Nat) (St:Nat->Prop) (rs:List Nat) (T:Nat->Prop) (z:MS):Prop where
 inv:kB g St rs z
 bare:z.l=[]
 FM:JS g z T
def Calm.start (g:Nat->Nat) (St:Nat->Prop) (rs:List Nat) (T:Nat->Prop):Calm g St rs T ⟨wo,[],false⟩:=⟨⟨λx hx=>absurd rfl hx,λx hx=>absurd rfl hx,λv hv=>by cases hv⟩,rfl,.inr λa ha=>absurd rfl ha⟩
section
variable {s:jA}{Rs Rr:BL}{g:Nat->Nat}{St D:Nat->Prop}{rs:List Nat}{N mk wk ob gb e_:Nat}{z:MS}{R R0 K:BL}{w0 w w':World}{T T':Nat->Prop}
def Calm.weak (h:Calm g St rs T z) (ht:∀a,T a->T' a):Calm g St rs T' z:=⟨h.inv,h.bare,h.FM.imp id λq a ha=>(q a ha).imp id (Or.imp (ht a) id)⟩
def run_s (hs:mr s Rs g D) (hw:Whole g St D N) (hN:N<=1048576) (hr:∀a∈rs,a=0\/St a) (hm:cW mk s wk ob gb N e_ ⟨wo,[],false⟩ R) {al:Option Addr} {cap:Nat} (row:Rz 3 1 rs.length (ez rs) al cap Rr) (Cz:rs.length<=1048576) (hR:At (R++(Rs++Rr)) w) (hT:ax w) (hg:aD (R++(Rs++Rr))): WR 242 #[Wz mk,.slice al rs.length cap] w (.tuple #[]) λw'=>∃z' R',cW mk s wk ob gb N e_ z' R'/\kB g St rs z'/\(∀a,fF g rs a->z'.E a≠0)/\ag R R' w w':=by
 have hc:∀(z1:MS) (R':BL) (W:World),cW mk s wk ob gb N e_ z1 R'->Has R' W->W.cell? ⟨mk,2,none⟩=some (.pointer (some ⟨gb,0,none⟩)):=λz1 R' W ky hW=>by obtain⟨r,v,Re,Rg,rfl,he,hk⟩:=ky;exact an hW.head 2 _ rfl
 have HC:=a_ hc;have HREACH:=a_ (λ(K:BL) (z:MS) (R:BL) (W:World) (a:Nat) (ha:a=0\/fF g rs a) (hm:cW mk s wk ob gb N e_ z R) (hI:kB g St rs z) hD=>reach_k (K:=K) (w:=W) hs hw hN hr hT hg a ha hm hI hD);have HVISIT:=a_ (λ(K:BL) (z:MS) (R:BL) (W:World) (a:Nat) (ha:z.E a≠0) (hm:cW mk s wk ob gb N e_ z R) (hI:kB g St rs z) hD=>visit_k (K:=K) (w:=W) hs hw hN hr hT hg a ha hm hI hD);have Di:=a_ (λ(K:BL) (z:MS) (R:BL) (W:World) (hm:cW mk s wk ob gb N e_ z R) (hI:kB g St rs z) hD=>drain_k (K:=K) (w:=W) hs hw hN hr hT hg hm hI hD);obtain⟨HT,Hg,Hm,Hw,Hr,HRow⟩:=uB hT hg hm hw hr row;have D0:=a_ (ag.refl hR);have f6:=a_ (λ(R':BL) (z1:MS) (W:World) (ky:cW mk s wk ob gb N e_ z1 R') (hW:Has R' W) (v:Int)=>(show W.frozen? ⟨mk,6,none⟩=false from by obtain⟨r,v,Re,Rg,rfl,he,hk⟩:=ky;exact br hW.head 6));have Si:=f6 R _ w hm hR.1.left 0;have H6:=a_ (λ(K R':BL) (z1:MS) (W:World) (ky:cW mk s wk ob gb N e_ z1 R') (hW:ag (R++(Rs++Rr)) (R'++K) w W) (v:Int)=>(show ∃R2,cW mk s wk ob gb N e_ z1 R2/\ag (R++(Rs++Rr)) (R2++K) w (W.setCell ⟨mk,6,none⟩ (.int .i64 v)) from by obtain⟨r,v0,Re,Rg,rfl,he,hk⟩:=ky;exact⟨_,⟨v,v0,Re,Rg,rfl,he,hk⟩,hW.set 6 v⟩));have SD:=λ(R':BL) (z1:MS) (W:World) (ky:cW mk s wk ob gb N e_ z1 R') (hW:Has R' W)=>(show ∃r:Int,W.cell? ⟨mk,6,none⟩=some (.int .i64 r) from by obtain⟨r,v,Re,Rg,rfl,he,hk⟩:=ky;exact⟨r,an hW.head 6 _ rfl⟩);obtain⟨r6,c6⟩:=SD R _ w hm hR.1.left;have HC6:=a_ SD;clear hs hw hr hm hR hT hg hc row SD;go_enter func242,ntmps242;go_wp2;obtain⟨R1,tM,d1⟩:=H6 _ _ _ _ Hm D0 1;obtain⟨xj,D1⟩:=aO tM d1;clear tM d1 c6 Si;generalize w.setCell ⟨mk,6,none⟩ (.int .i64 1)=w1 at *;go_loopw [14] (λiv wr=>∃(i:Nat) (z1:MS) (R':BL),iv=.int .i64 i/\i<=rs.length/\cW mk s wk ob gb N e_ z1 R'/\Calm g St rs (λ_=>False) z1/\(∀a∈rs.take i,a=0\/z1.E a≠0)/\ag (R++(Rs++Rr)) (R'++(Rs++Rr)) w wr) (λiv _=>rs.length-(intOf iv).toNat);exact⟨0,_,R1,rfl,lc _,xj,Calm.start g St rs _,λa ha=>by simp at ha,D1⟩;clear D1 xj;obtain⟨i,z1,R',rfl,hi,ky,hC,hA,hD⟩:=hrel;have HM:=a_ ky;obtain⟨kg,HA,HD⟩:=dF hC hA hD;clear ky hC hA hD;by_cases hlt:i<rs.length
 .obtain⟨rb,hal,LU,hcell⟩:=HRow.cellAt e9;subst hal;have ca:=hcell wr i _ HD.has.right.right (sM rs i hlt);have hroot:rs[i]=0\/fF g rs rs[i]:=(by rcases su (rs[i]=0) with e|e;exact .inl e;exact .inr (.root (ri hlt) e));have EE:rs.take (i+1)=rs.take i++ [rs[i]]:=y_ hlt;obtain⟨hG,nP⟩:=vJ (l:= [rs[i]]) (e_:=e_) Hw Hr kg.inv (by simpa using hroot);have ug:=a_ (HREACH _ _ _ wr rs[i] hroot HM kg.inv HD);obtain⟨HG,HMk,Dr⟩:=dF hG nP EE;have e0:gU e_ g z1 rs[i]=jt e_ g z1 [rs[i]]:=rfl;rw[e0] at ug;generalize hx:rs[i]=x at *;generalize jt e_ g z1 [x]=z2 at *;have s1:=eH ((i:Int)+1);clear hcell hroot EE hG nP e0 hx;go_wp2_with (first|(go_at_call 286;refine ug.kq ?_;rintro w2 ⟨R2,m2,d2⟩;have GZ:=a_ (Di _ _ _ w2 m2 HG.inv d2);clear m2 d2)|(go_at_call 287;refine GZ.kq ?_;rintro w3 ⟨z3,R3,m3,e3,g3,d3⟩;have PC:=a_ m3;have E3:=a_ e3;have G3:=a_ g3;have D3:=a_ d3;clear m3 e3 g3 d3));go_roundw;case rel=>
   have So:=HG.trans G3;refine⟨i+1,z3,R3,by go_num,hlt,PC,⟨So.inv,E3,So.FM _ kg.FM⟩,?_,D3⟩;intro a ha;rw[Dr.out] at ha;rcases z_.1 ha with q|q;exact (HA a q).imp id (So.ext a);exact (HMk a q).imp id (G3.ext a)
  case measure=>simp[intOf];omega
 obtain rfl:i=rs.length:=e9;have Tx:=a_ (show ∀a∈rs,a=0\/z1.E a≠0 from λa ha=>HA a (by rw[Pu];exact ha));clear HA;generalize NM:wr=W1 at *;clear NM;go_wp2;go_loopw [7] (λxv wr=>∃(z2:MS) (R2:BL),cW mk s wk ob gb N e_ z2 R2/\Calm g St rs (λ_=>False) z2/\(∀a∈rs,a=0\/z2.E a≠0)/\ag (R++(Rs++Rr)) (R2++(Rs++Rr)) w wr) (λ_ wr=>N-ql wr mk 4+qA gb wr);exact⟨z1,R',HM,kg,Tx,HD⟩;clear HM kg Tx HD;obtain⟨z2,R2,uC,Gj,Ef,oN⟩:=hrel;obtain⟨HM,kg,HA,HD⟩:=qx uC Gj Ef oN;have LW:N-ql wr mk 4+qA gb wr=N-bQ z2.E N+if z2.lost then 1 else 0:=by rw[uC.aG oN.has.left,uC.qA oN.has.left]
 have PD:=a_ LW;have c2:=HC _ _ _ uC oN.has.left;have HL:=a_ (lost_m uC oN.has.left);clear uC Gj Ef oN LW;generalize FG:wr=W2 at *;clear FG;obtain⟨E2,l2,lost2⟩:=z2;obtain rfl:l2=[]:=kg.bare;cases lost2
 .go_wp2_with (go_at_call 288;refine HL.kq ?_;rintro w2 rfl);go_end0;refine⟨rfl,_,R2,HM,kg.inv,λa ha=>all_marked rfl rfl kg.FM HA ha,?_⟩;exact ag.oD (K:=Rs++Rr) HD D0.at_
 have Mr:=a_ (found_k HM HD);go_wp2_with (first|(go_at_call 288;refine HL.kq ?_;rintro w2 rfl)|(go_at_call 289;refine Mr.kq ?_;rintro w3 ⟨R3,m3,d3⟩;have PC:=a_ m3;have D3:=a_ d3;obtain⟨r3,c6⟩:=HC6 _ _ _ m3 d3.has.left;have Si:=f6 _ _ _ m3 d3.has.left 0;clear m3 d3 c2));obtain⟨R4,Qk,d4⟩:=H6 _ _ _ _ PC D3 (wrap64 (r3+1));generalize w3.setCell ⟨mk,6,none⟩ (.int .i64 (wrap64 (r3+1)))=w4 at *;refine (starts_k HT Hg Qk d4).mono ?_;rintro e w5 ⟨wU,eO,n,rfl,hn,Ra,IW,d5⟩;obtain⟨TM,UC,D5,Hn⟩:=qx Qk IW d5 hn;have hnN:n<=1048576:=by have h1:(dU E2 N).length<=N:=(by unfold dU cN;rw[i8];exact h_ (List.length_filter_le ..) qr);have h2:n=(kQ E2 N).length:=hn;unfold kQ at h2;rw[i8] at h2;omega
 have TJ:=a_ (λa=>keysN_mem (a:=a) (show bS E2 N from Qk.ext));have QX:=a_ (show Calm g St rs (λa=>a∈kQ E2 N) ⟨E2,[],false⟩ from⟨⟨kg.inv.marks,kg.inv.cq,λv hv=>by cases hv⟩,rfl,.inr λa ha=> .inr (.inl (TJ a |>.2 ha))⟩);have HAll:=a_ (show ∀a∈rs,a=0\/(⟨E2,[],false⟩:MS).E a≠0 from HA);have HMu2:=a_ (show N-ql W2 mk 4+qA gb W2=N-bQ E2 N+1 from PD);clear Qk d4 hn IW d5 PC D3 c6 Si Mr HL HM kg HA HD PD;simp only at UC Hn;generalize vN:kQ E2 N=kl at *;go_wp2;go_loopw [46] (λjv wr=>∃(j:Nat) (z3:MS) (R5:BL),jv=.int .i64 j/\j<=n/\cW mk s wk ob gb N e_ z3 R5/\Calm g St rs (λa=>a∈kl.drop j) z3/\kn g St rs N ⟨E2,[],false⟩ z3/\ag (R++(Rs++Rr)) (R5++(Rs++(Ra++Rr))) w wr) (λjv _=>n-(intOf jv).toNat);exact⟨0,_,R4,rfl,lc _,TM,QX,kn.refl QX.inv,D5⟩;obtain⟨j,z3,R5,rfl,hj,Ql,LJ,PR,Nz⟩:=hrel;obtain⟨RB,QS,Py,Ju⟩:=qx Ql LJ PR Nz;clear TM QX D5;have Uy:Hid (n=kl.length):=Hn;by_cases hlt:j<n
 .have IL:j<kl.length:=(by rw[<-Uy.out];exact hlt);obtain⟨rb2,Gm,hkc2,Ej⟩:=UC.cellAt e9;subst Gm;have ca:=Ej wr j _ Nz.has.right.right.left (sM kl j IL);have hdr:kl.drop j=kl[j]::kl.drop (j+1):=VD IL;have hne:z3.E kl[j]≠0:=PR.ext _ ((TJ _).1 (ri IL));obtain⟨hG,nP⟩:=xL (e_:=e_) Hw Hr LJ.inv hne;have ug:=a_ (HVISIT _ _ _ wr kl[j] hne Ql LJ.inv Nz);have HG:=a_ hG;have HTd:=a_ (nP (λa=>a∈kl.drop (j+1)) (LJ.FM.imp id λq a ha=>(q a ha).imp id (Or.imp (λu=>(ii.1 (hdr▸u)).elim .inr .inl) id)));generalize hx:kl[j]=x at *;generalize jt e_ g z3 (dA g x)=z4 at *;have s1:=eH ((j:Int)+1);clear Ej hG nP hx hdr hne Ql LJ PR Nz;go_wp2_with (first|(go_at_call 291;refine ug.kq ?_;rintro w2 ⟨R6,m6,d6⟩;have GZ:=a_ (Di _ _ _ w2 m6 HG.inv d6);clear m6 d6)|(go_at_call 287;refine GZ.kq ?_;rintro w3 ⟨z5,R7,m7,e7,g7,d7⟩;have HM7:=a_ m7;have E7:=a_ e7;have G7:=a_ g7;have D7:=a_ d7;clear m7 e7 g7 d7));go_roundw;exact⟨j+1,z5,R7,by go_num,hlt,HM7,⟨G7.inv,E7,G7.FM _ HTd⟩,(Py.trans HG).trans G7,D7⟩;simp[intOf];omega
 obtain rfl:j=n:=e9;clear Ql LJ PR Nz;go_wp2;go_roundw;refine⟨z3,R5,RB,QS.weak λa ha=>?_,λa ha=>(HAll a ha).imp id (Py.ext a),?_⟩;rw[Uy.out,ad4] at ha;cases ha;exact ag.drop (A:=Ra) (Ju.perm aF);have h1:=RB.aG Ju.has.left;have h2:=RB.qA Ju.has.left;have h3:=Py.aG;have h4:=Py.fT (bQ E2 N) (bi _) (λh=>by cases h);have h5:=qW z3.E N;have h6:=HMu2.out;simp only at h3;rw[h1,h2];cases hl:z3.lost;simp;omega;have:=h4 hl;simp;omega
end
def slots22' (a b c x u:Value):(#[a,b,c]++((Array.replicate 19 u).setIfInBounds 3 x).setIfInBounds 0 x)= #[a,b,c,x,u,u,x,u,u,u,u,u,u,u,u,u,u,u,u,u,u,u]:=by simp[H_,Array.setIfInBounds]
section
variable {R0 R K:BL}{w0 w w':World}{B2 B4 B5 wk:Nat}
def qD (w:World): CallsD prog 273 #[.pointer (some ⟨B2,0,none⟩),.pointer (some ⟨B5,0,none⟩),.pointer (some ⟨B4,0,none⟩)] .returning w λe u' w'=>e=.returned (.tuple #[])/\u'=.returning/\w'=w:=by refine callsD_of_wpS func273 rfl λc₀ cs hu=>?_;apply wpS_seq;apply wpS_region;simp[wpOpsS,go_sem,recoverD,hu,ntmps273,Exit.thenS];rw[slots22'];refine wpS_of_wp ?_;go_wp2;cases c₀;simp_all [bodyPostS,results,results273]
def part_did {F:FuncId} {caps:Array Value} (hF:∀args w,(callFunc F args).run prog w=.ok (.enter F args) w) {sv:Value} {Post:BL->Prop} (hD:ag R0 ((wk,WD #[sv,.slice none 0 0] 284)::R) w0 w) (hd:∀E W,ag R0 (E++R) w0 W->Calls prog F (#[.pointer (some ⟨wk,0,none⟩)]++caps) W λe W'=>e=.returned (.tuple #[])/\∃R',Post R'/\ag R0 (E++R') w0 W'): WR 210 #[Wz wk,.func (.func F) #[] caps] w (.agg #[Wy,Wy]) λw'=>∃R',Post R'/\ag R0 R' w0 w':=by have SQ:∀(fn:Fn) (first cap:Array Value) (w:World),(Instr.makeFunc fn first cap).run prog w=.ok (.func fn first cap) w:=λ_ _ _ _=>rfl;have nJ:=hD.box #[Wz wk] 204;have wV:=nJ.box #[Wy,Wy] 202;have FE:=wV.box #[Wy] 3;have c1:((w.alloc (.cells #[Wz wk] 204)).alloc (.cells #[Wy,Wy] 202)).cell? ⟨wk,1,none⟩=some (.slice none 0 0):=an wV.has.tail.tail.head 1 _ rfl;obtain⟨HD,H⟩:=aO hd FE;clear nJ wV FE hD hd;go_enter_defers func210,ntmps210;go_wp2_with (fail);refine (HD ((_,WD #[Wy] 3)::(_,WD #[Wy,Wy] 202)::(_,WD #[Wz wk] 204)::(wk,WD #[sv,.slice none 0 0] 284):: []) _ H).mono ?_;rintro e1 w1 ⟨rfl,R',hp,h1⟩;simp only[aU,m_,p'] at h1;have hb4:=h1.has.tail.head;obtain⟨d4,d5,-⟩:=qN hb4;obtain⟨f4,f5,-⟩:=Nd hb4;have H1:=a_ ((h1.tj.set 0 Wy).set 1 Wy);have HP:=a_ hp;clear h1 hb4 hp;go_wp2;refine leaves_cons (f:=273) (args:= #[.pointer (some ⟨w.heap.size,0,none⟩),.pointer (some ⟨w.heap.size+1+1,0,none⟩),.pointer (some ⟨w.heap.size+1,0,none⟩)]) qr (by simp[go_sem]) ?_;refine (qD _).mono ?_;rintro e u' Mi ⟨rfl,rfl,rfl⟩;have H2:=H1;generalize (w1.setCell ⟨w.heap.size+1,0,none⟩ (.int .i64 0)).setCell ⟨w.heap.size+1,1,none⟩ (.int .i64 0)=w2 at *;have dw:=H2.has.head;have q4:w2.cell? ⟨w.heap.size+1,0,none⟩=some (.int .i64 0):=an dw 0 _ rfl;have q5:w2.cell? ⟨w.heap.size+1,1,none⟩=some (.int .i64 0):=an dw 1 _ rfl;simp[Leaves,settle,results,results210,go_sem,q4,q5];exact⟨R',HP,H2.tail.tail.tail.tail⟩
def run_did {F:FuncId} {caps:Array Value} (hF:∀args w,(callFunc F args).run prog w=.ok (.enter F args) w) {sT:TypeId} {sV:Value} {Post:BL->Prop} (hD:ag R0 R w0 w) (hd:∀wk E W,ag R0 (E++R) w0 W->Calls prog F (#[.pointer (some ⟨wk,0,none⟩)]++caps) W λe W'=>e=.returned (.tuple #[])/\∃R',Post R'/\ag R0 (E++R') w0 W'): WR 130 #[.iface sT sV,.func (.func F) #[] caps] w (.agg #[Wy,Wy]) λw'=>∃R',Post R'/\ag R0 R' w0 w':=by have hB:=hD.box #[Wy,Wy] 202;have nJ:=hB.box #[.iface sT sV,.slice none 0 0] 284;have HP:=a_ (part_did (R:=(w.heap.size,.cells #[Wy,Wy] 202 (0,0))::R) hF (Post:=λR1=>∃R',R1=(w.heap.size,.cells #[Wy,Wy] 202 (0,0))::R'/\Post R') nJ (λE W hW=>(hd _ (E++ [(w.heap.size,.cells #[Wy,Wy] 202 (0,0))]) W (hW.perm aF)).mono λe W' ⟨h1,R',h2,h3⟩=>⟨h1,_,⟨R',rfl,h2⟩,h3.perm aF⟩));clear hD hd hB nJ;go_enter func130,ntmps130;go_wp2_with (go_at_call 210;have hp:=HP.out;simp only[aU] at hp;refine hp.mono ?_;rintro e1 w1 ⟨rfl,R1,⟨R',rfl,hp1⟩,h1⟩;have hb4:=h1.has.head;have f4:=br hb4 0;have f5:=br hb4 1;have d4:=an hb4 0 _ rfl;have d5:=an hb4 1 _ rfl;have H1:=a_ ((h1.set 0 Wy).set 1 Wy);have wT:=a_ hp1;clear h1 hb4 hp1 hp);have H2:=H1;generalize (w1.setCell ⟨w.heap.size,0,none⟩ (.int .i64 0)).setCell ⟨w.heap.size,1,none⟩ (.int .i64 0)=w2 at *;have dw:=H2.has.head;have q4:w2.cell? ⟨w.heap.size,0,none⟩=some (.int .i64 0):=an dw 0 _ rfl;have q5:w2.cell? ⟨w.heap.size,1,none⟩=some (.int .i64 0):=an dw 1 _ rfl;exact nl (v:= .agg #[Wy,Wy]) (by simp[results,results130,go_sem,q4,q5]) rfl ⟨rfl,R',wT,H2.tail⟩
end
open Classical in
noncomputable def aj (g:Nat->Nat) (rs:List Nat):Nat->Nat:=λa=>if fF g rs a then bC (g a) else 0
section
variable {s:jA}{Rs Rr:BL}{g:Nat->Nat}{St D:Nat->Prop}{rs:List Nat}{N mk wk ob gb e_ b12 b5:Nat}{z:MS}{R R0 K:BL}{w0 w w':World}
def reach_of (hI:kB g St rs z) (hA:∀a,fF g rs a->z.E a≠0):z.E=aj g rs:=funext λa=>by
 unfold aj;split
 .next h=>exact (hI.marks a (hA a h)).2
 next h=>
 rcases su (z.E a=0) with e|e;exact e;exact absurd (hI.cq a e) h
def run1_s (hs:mr s Rs g D) (hw:Whole g St D N) (hN:N<=1048576) (hr:∀a∈rs,a=0\/St a) {al:Option Addr} {cap:Nat} (row:Rz 3 1 rs.length (ez rs) al cap Rr) (Cz:rs.length<=1048576) (hT:ax w0) (hg:aD R0) {Re Rg:BL} (he:dg ob N wo Re) (hk:oV gb e_ [] false Rg) (x:Value) (hD:ag R0 (((mk,.cells #[s.val,Wz ob,Wz gb,x,Wy,Wy,Wy,Wy] 325 (0,0))::(Re++Rg))++((Rs++Rr)++((b12,.cells #[Wz mk] 323 (0,0))::(b5,.cells #[.slice al rs.length cap] 58 (0,0))::K))) w0 w): WR 241 #[Wz wk,Wz b12,Wz b5] w (.tuple #[]) λw'=>∃z' R',cW mk s wk ob gb N e_ z' R'/\z'.E=aj g rs/\ag R0 (R'++((Rs++Rr)++((b12,.cells #[Wz mk] 323 (0,0))::(b5,.cells #[.slice al rs.length cap] 58 (0,0))::K))) w0 w':=by have hb:=hD.has;have nk:=an hb.right.right.head 0 _ rfl;have q:=hb.head;have c3:=an q 3 _ rfl;have f3:=br q 3;rw[m_] at hD;have HD:=a_ (hD.set 3 (Wz wk));have dw:=HD.has.tail.right.right;have d12:(w.setCell ⟨mk,3,none⟩ (.pointer (some ⟨wk,0,none⟩))).cell? ⟨b12,0,none⟩=some (.pointer (some ⟨mk,0,none⟩)):=an dw.head 0 _ rfl;have d5:(w.setCell ⟨mk,3,none⟩ (.pointer (some ⟨wk,0,none⟩))).cell? ⟨b5,0,none⟩=some (.slice al rs.length cap):=an dw.tail.head 0 _ rfl;have et:=a_ (λR W (hm:cW mk s wk ob gb N e_ ⟨wo,[],false⟩ R) hR hT hg=>run_s (w:=W) hs hw hN hr hm row Cz hR hT hg);obtain⟨HE,HK,HT,Hg⟩:=qx he hk hT hg;clear hs hw hN hr row hD hb q dw he hk hT hg Cz;go_enter func241,ntmps241;go_wp2_with (fail);have hm:cW mk s wk ob gb N e_ ⟨wo,[],false⟩ ((mk,.cells #[s.val,Wz ob,Wz gb,Wz wk,Wy,Wy,Wy,Wy] 325 (0,0))::(Re++Rg)):=⟨0,0,Re,Rg,by simp only[wq,sumE_no];rfl,HE,HK⟩;have Kf:=HD.out;simp only[q_,Pr,Fl] at Kf;rw[<-List.cons_append] at Kf;refine (et _ _ hm Kf.at_.QA (Kf.tz HT Hg) (λh=>Kf.cK HT Hg (by rw[<-List.append_assoc];exact Keys.app.2 (.inl h)))).kq ?_;rintro w2 ⟨z',R',ky,hI,hA,d⟩;have D2:=a_ (Kf.step d);have Mu:=a_ ky;have HZ:=a_ (reach_of hI hA);clear ky hI hA d Kf hm;go_wp2;go_end0;exact⟨rfl,z',R',Mu,HZ,D2⟩
def nW {E:Nat->Nat} {Re:BL} (hs:mr s Rs g D) (hw:Whole g St D N) (hr:∀a∈rs,a=0\/St a) {al:Option Addr} {cap:Nat} (row:Rz 3 1 rs.length (ez rs) al cap Rr) (Cz:rs.length<=1048576) (h1:1<=e_) (h2:e_<=4096) (he:dg ob N E Re) (hR:At (Re++(Rs++Rr)) w) (hT:ax w) (hg:aD (Re++(Rs++Rr))): WA 158 #[s.val,.slice al rs.length cap,Wz ob,e_] w λe w'=>∃r v:Int,e=.returned (.tuple #[.agg #[(bQ (aj g rs) N:Nat),(bd (aj g rs) N:Nat),r,v],Wy])/\∃ew,dg ob N (aj g rs) ew/\ag Re ew w w':=by
 have hd:=he.ij;have ug:=a_ (λ(mk gb b12 b5 wk:Nat) (Re Rg K:BL) (W:World) (he:dg ob N wo Re) (hk:oV gb e_ [] false Rg) x hD=>run1_s (mk:=mk) (gb:=gb) (b12:=b12) (b5:=b5) (wk:=wk) (w:=W) (K:=K) hs hw hd.2 hr row Cz hT hg he hk x hD);have oS:=a_ (λW=>stk_new e_ W h1 h2);have HW:=a_ (λW (hW:Has Re W)=>eJ he hW);have Ht:=a_ (λW (hW:At Re W)=>ewipe_any he hW);have D0:=a_ (((ag.refl hR).box #[.slice al rs.length cap] 58).box #[Wy,Wy,Wy,Wy] 236);have g0:((N:Int)==0)=false:=yd;have HR:=a_ hR;have Ce:=a_ (HW _ D0.has.tail.tail.left);clear hs hw hr row Cz h1 h2 he hR hT hg hd;obtain⟨sT,sv,sF,srv⟩:=s;unfold jA.val at *;simp only at ug;go_enter func158,ntmps158;go_wp2_with (go_at_call 238;refine Ce.kq ?_;rintro w1 rfl);have D1:=D0;simp only[ww] at D1;generalize (w.alloc (.cells #[.slice al rs.length cap] 58)).alloc (.cells #[Wy,Wy,Wy,Wy] 236)=w1 at *;generalize w.heap.size=b5 at *;refine (oS w1).mono ?_;rintro e w2 ⟨gb,rfl,Rg,hk,d2⟩;have HK:=a_ hk;have D2:=a_ (D1.bh d2);clear hk d2 D0 D1;have QI:=a_ (D2.perm (R':=Re++((b5+1,.cells #[Wy,Wy,Wy,Wy] 236 (0,0))::(b5,.cells #[.slice al rs.length cap] 58 (0,0))::(Rg++(Rs++Rr)))) aF);have MN:=a_ (Ht w2 QI.at_.left);go_wp2_with (first|(go_at_call 240;refine MN.kq ?_;rintro w3 ⟨MV,NT,d3⟩;have HE1:=a_ NT;have D3:=a_ ((QI.step d3).box #[.iface sT sv,Wz ob,Wz gb,.pointer none,Wy,Wy,Wy,Wy] 325);clear NT d3 D2 QI MN;have D4:=a_ (D3.box #[Wz w3.heap.size] 323))|fail);simp only[ww] at D4;generalize (w3.alloc (.cells #[.iface sT sv,Wz ob,Wz gb,.pointer none,Wy,Wy,Wy,Wy] 325)).alloc (.cells #[Wz w3.heap.size] 323)=w4 at *;generalize w3.heap.size=mk at *;clear D3;have D5:=D4.perm (R':=(b5+1,.cells #[Wy,Wy,Wy,Wy] 236 (0,0))::(((mk,.cells #[.iface sT sv,Wz ob,Wz gb,.pointer none,Wy,Wy,Wy,Wy] 325 (0,0))::(MV++Rg))++((Rs++Rr)++((mk+1,.cells #[Wz mk] 323 (0,0))::(b5,.cells #[.slice al rs.length cap] 58 (0,0)):: [])))) aF;clear D4;have HX:∀(wk:Nat) (E:BL) (W:World),ag (Re++(Rs++Rr)) (E++((b5+1,.cells #[Wy,Wy,Wy,Wy] 236 (0,0))::(((mk,.cells #[.iface sT sv,Wz ob,Wz gb,.pointer none,Wy,Wy,Wy,Wy] 325 (0,0))::(MV++Rg))++((Rs++Rr)++((mk+1,.cells #[Wz mk] 323 (0,0))::(b5,.cells #[.slice al rs.length cap] 58 (0,0)):: []))))) w W->ag (Re++(Rs++Rr)) (((mk,.cells #[.iface sT sv,Wz ob,Wz gb,.pointer none,Wy,Wy,Wy,Wy] 325 (0,0))::(MV++Rg))++((Rs++Rr)++((mk+1,.cells #[Wz mk] 323 (0,0))::(b5,.cells #[.slice al rs.length cap] 58 (0,0))::((b5+1,.cells #[Wy,Wy,Wy,Wy] 236 (0,0))::E)))) w W:=λwk E W hW=>hW.perm aF;have Uo:∀(R' E:BL) (W:World),ag (Re++(Rs++Rr)) (R'++((Rs++Rr)++((mk+1,.cells #[Wz mk] 323 (0,0))::(b5,.cells #[.slice al rs.length cap] 58 (0,0))::((b5+1,.cells #[Wy,Wy,Wy,Wy] 236 (0,0))::E)))) w W->ag (Re++(Rs++Rr)) (E++((b5+1,.cells #[Wy,Wy,Wy,Wy] 236 (0,0))::(R'++((Rs++Rr)++((mk+1,.cells #[Wz mk] 323 (0,0))::(b5,.cells #[.slice al rs.length cap] 58 (0,0)):: []))))) w W:=λR' E W hW=>hW.perm aF;have hF:∀(args:Array Value) (w:World),(callFunc 241 args).run prog w=.ok (.enter 241 args) w:=λ_ _=>ol;have HD:∀(wk:Nat) (E:BL) (W:World),ag (Re++(Rs++Rr)) (E++((b5+1,.cells #[Wy,Wy,Wy,Wy] 236 (0,0))::(((mk,.cells #[.iface sT sv,Wz ob,Wz gb,.pointer none,Wy,Wy,Wy,Wy] 325 (0,0))::(MV++Rg))++((Rs++Rr)++((mk+1,.cells #[Wz mk] 323 (0,0))::(b5,.cells #[.slice al rs.length cap] 58 (0,0)):: []))))) w W->WA 241 (#[.pointer (some ⟨wk,0,none⟩)]++ #[.pointer (some ⟨mk+1,0,none⟩),.pointer (some ⟨b5,0,none⟩)]) W λe W'=>e=.returned (.tuple #[])/\∃R1,(∃(z':MS) (R':BL) (wk:Nat),R1=(b5+1,.cells #[Wy,Wy,Wy,Wy] 236 (0,0))::(R'++((Rs++Rr)++((mk+1,.cells #[Wz mk] 323 (0,0))::(b5,.cells #[.slice al rs.length cap] 58 (0,0)):: [])))/\cW mk ⟨sT,sv,sF,srv⟩ wk ob gb N e_ z' R'/\z'.E=aj g rs)/\ag (Re++(Rs++Rr)) (E++R1) w W':=λwk E W hW=>by refine (ug mk gb (mk+1) b5 wk MV Rg ((b5+1,WD #[Wy,Wy,Wy,Wy] 236)::E) W HE1 HK (.pointer none) (HX wk E W hW)).mono ?_;rintro e W' ⟨h1,z',R',h2,h3,h4⟩;exact⟨h1,_,⟨z',R',wk,rfl,h2,h3⟩,Uo R' E W' h4⟩
 have ME:=a_ (run_did (sT:=sT) (sV:=sv) hF D5 HD);clear HD HX Uo hF D5 ug HW Ht Ce oS;refine ME.kq ?_;rintro w5 ⟨R1,⟨z',R',wk,rfl,ky,Wh⟩,d5⟩;obtain⟨r,v,ew,Ic,rfl,LR,jj⟩:=ky;rw[Wh] at LR d5;have D6:=a_ (d5.box #[Wy,Wy] 202);have Rh:=a_ LR;clear d5 LR jj Wh ME;generalize hc:bQ (aj g rs) N=c at *;generalize uD:bd (aj g rs) N=sm at *;have hb:=D6.has;have nP:=hb.tail.tail.left.head;obtain⟨-,-,-,-,m4,m5,m6,m7,-⟩:=gD nP;have m12:=an hb.tail.tail.right.right.head 0 _ rfl;have CV:=hb.tail.head;obtain⟨e0,e1,e2,e3,-⟩:=jD CV;obtain⟨f0,f1,f2,f3,-⟩:=tU CV;have a0:=an hb.head 0 _ rfl;clear hb nP CV;go_wp2;have D7:=a_ ((((D6.tj.set 0 (c:Nat)).set 1 (sm:Nat)).set 2 r).set 3 v);clear m4 m5 m6 m7 m12 e0 e1 e2 e3 f0 f1 f2 f3 a0 D6;generalize ((((w5.alloc (.cells #[Wy,Wy] 202)).setCell ⟨b5+1,0,none⟩ (.int .i64 (c:Nat))).setCell ⟨b5+1,1,none⟩ (.int .i64 (sm:Nat))).setCell ⟨b5+1,2,none⟩ (.int .i64 r)).setCell ⟨b5+1,3,none⟩ (.int .i64 v)=w7 at *;have dw:=D7.has.head;have q0:w7.cell? ⟨b5+1,0,none⟩=some (.int .i64 (c:Nat)):=an dw 0 _ rfl;have q1:w7.cell? ⟨b5+1,1,none⟩=some (.int .i64 (sm:Nat)):=an dw 1 _ rfl;have q2:w7.cell? ⟨b5+1,2,none⟩=some (.int .i64 r):=an dw 2 _ rfl;have q3:w7.cell? ⟨b5+1,3,none⟩=some (.int .i64 v):=an dw 3 _ rfl;clear dw;refine nl (v:= .tuple #[.agg #[(c:Nat),(sm:Nat),r,v],Wy]) (by simp[results,results158,go_sem,q0,q1,q2,q3]) rfl ⟨r,v,by rw[hc,uD],ew,Rh,?_⟩;have D8:=D7.tail.tail;have D9:ag (Re++(Rs++Rr)) (ew++(Rs++Rr)) w w7:=ag.drop (A:=(mk,_)::(Ic++((mk+1,.cells #[Wz mk] 323 (0,0))::(b5,.cells #[.slice al rs.length cap] 58 (0,0)):: []))) (D8.perm aF);exact ag.oD (K:=Rs++Rr) D9 HR
end
def fK (b N z:Nat) (E:Nat->Nat) (aa:Nat) (R:BL):Prop:=∃fb Rf,R=(b,.cells #[Wz fb,z] 361 (0,0))::Rf/\gO fb N z E aa Rf
section
variable {b m N z aa:Nat}{E:Nat->Nat}{R K:BL}{w w':World}
def fK.parts (h:fK b N z E aa R) (hR:At R w):∃fb Rf,w.cell? ⟨b,0,none⟩=some (.pointer (some ⟨fb,0,none⟩))/\w.cell? ⟨b,1,none⟩=some (.int .i64 z)/\gO fb N z E aa Rf/\At Rf w:=by obtain⟨fb,Rf,rfl,h1⟩:=h;have q:=hR.1.head;exact⟨fb,Rf,an q 0 _ rfl,an q 1 _ rfl,h1,hR.tail⟩
def fK.ij (h:fK b N z E aa R):1<=N/\N<=1048576/\aa<2147483648:=by obtain⟨fb,Rf,rfl,h1⟩:=h;exact h1.ij
def fK.ok (h:fK b N z E aa R):bS E N/\iq z:=by obtain⟨fb,Rf,rfl,h1⟩:=h;exact h1.ok
def plan_new (h:dg m N E R) (hR:At R w) (hT:ax w) (hg:aD R) (hz:iq z) (hb:aa<2147483648): WA 216 #[Wz m,z,aa] w λe w'=>∃b,e=.returned (.tuple #[Wz b,Wy])/\∃R',fK b N z E aa R'/\ag R (R'++R) w w':=by have H:=a_ (AT h hR hT hg hz hb);clear h hR hT hg hz hb;go_enter func216,ntmps216;go_wp2_with (go_at_call 173;refine H.mono ?_;rintro e w1 ⟨fb,rfl,Rf,f1,d1⟩;have F1:=a_ f1;have D1:=a_ (d1.box #[Wz fb,z] 361);clear f1 d1);go_ret2;exact⟨_,rfl,_,⟨fb,Rf,rfl,F1⟩,D1⟩
def og (h:fK b N z E aa R) (hR:At R w):∃fb Rf,gO fb N z E aa Rf/\(∀x∈Rf,x∈R)/\At Rf w/\WR 217 #[Wz b] w (Wz fb) λw'=>w=w':=by obtain⟨fb,Rf,rfl,h1⟩:=h;have q:=hR.1.head;have c0:=an q 0 _ rfl;refine⟨fb,Rf,h1,λx hx=>dl _ hx,hR.tail,?_⟩;clear h1 hR q;go_enter func217,ntmps217;go_wp2;go_ret;exact⟨rfl,rfl⟩
def up_blk {n z:Nat} (hz:iq z) (hn:n<=1048576) (w:World):WR 276 #[n,z] w (gY n z*z:Nat) λw'=>w=w':=by obtain⟨k,hk,rfl⟩:=hz;exact up_two n k e9 e9 w
def qE (h:fK b N z E aa R) (hR:At R w):WR 219 #[Wz b] w (gY (bB E N) z:Nat) λw'=>Below w.heap.size w w':=by
 obtain⟨fb,Rf,c0,c1,h1,h2⟩:=h.parts hR;have hd:=h.ij;have vS:=h.ok.2.le;have hl:=eE E N;have hnb:=wj (n:=bB E N) (z:=z) vS.1;have Q1:=a_ (fV (w:=w) λW hW=>Calls.gE (rY h1 (h2.grow hW)));have hu:=λW=>up_blk (n:=bB E N) h.ok.2 e9 W;obtain⟨p,hp⟩:=kw (gY (bB E N) z*z);have e1:(p:Int).tdiv z=((gY (bB E N) z:Nat):Int):=by rw[<-hp,ae0];exact Int.mul_tdiv_cancel _ e9
 rw[hp] at hu;have hp2:p<=bB E N+z:=by have:=fU (n:=bB E N) (z:=z) (i:=gY (bB E N) z-1) vS.1;rcases x' (gY (bB E N) z) with e|e;rw[<-hp,e];omega;have h3:=this.1 e9;have h4:gY (bB E N) z*z=(gY (bB E N) z-1)*z+z:=(by rw[<-Nat.succ_mul];congr 1;omega);omega
 have Q2:=a_ (fV (w:=w) λW hW=>Calls.gE (hu W));generalize gY (bB E N) z=nb at *;generalize bB E N=L at *;have k0:=cell_regrown c0;have k1:=cell_regrown c1;have z0:¬(z:Int)=0:=e9;have z3:¬z=0:=e9;have z1:(1:Int)<=z:=e9;have z2:(z:Int)<=1024:=e9;have q1:(p:Int)<=2097152:=e9;have e2:(p:Int)/z=(nb:Int):=by rw[<-e1,so e9]
 have s2:IntKind.i64.wrap (nb:Int)=(nb:Int):=i_ _ e9;have s1:IntKind.i64.wrap ((p:Int)/z)=(nb:Int):=by rw[e2];exact s2
 clear h hR h1 h2 c0 c1 hu hl hnb hp2 hp;go_enter func219,ntmps219;go_wp2;refine wp_region_quiet_below ol ol ?_;repeat (quiet_step ((first|(go_at_call 218;exact Q1 _ _)|(go_at_call 276;exact Q2 _ _))))
 refine aa4 ?_;intro _ tZ;obtain⟨⟨dq,sQ⟩,iW⟩:=tZ;subst iW;go_wp2;go_ret;exact⟨rfl,below_regrown w dq sQ⟩
def sY (k:Nat) (h:fK b N z E aa R) (hR:At R w) (hk:k<gY (bB E N) z):WR 224 #[Wz b,k] w (.tuple #[(aa+k*z:Nat),(aa+min (k*z+z) (bB E N):Nat),Wy]) λw'=>Below w.heap.size w w':=by
 obtain⟨fb,Rf,c0,c1,h1,h2⟩:=h.parts hR;have hd:=h.ij;have vS:=h.ok.2.le;have hl:=eE E N;have Ky:=(fU vS.1).1 hk;have wS:=a_ (qE h hR);have QW:=a_ (λw1 (kA:Below w.heap.size w w1)=>fV (w:=w1) λW hW=>Calls.gE (uo h1 ((h2.grow kA).grow hW)));have QT:=a_ (λw1 (kA:Below w.heap.size w w1)=>fV (w:=w1) λW hW=>(kL h1 ((h2.grow kA).grow hW)));obtain⟨C0,C1⟩:=aO c0 c1;have hnb:=wj (n:=bB E N) (z:=z) vS.1;have e1:((k:Int)*z)=((k*z:Nat):Int):=qr;have s1:IntKind.i64.wrap ((k:Int)*z)=((k*z:Nat):Int):=by rw[e1];exact i_ _ e9
 have s2:IntKind.i64.wrap ((aa:Int)+(k*z:Nat))=((aa+k*z:Nat):Int):=kh;have s3:IntKind.i64.wrap (((aa+k*z:Nat):Int)+z)=((aa+k*z+z:Nat):Int):=kh;have g2:decide (gY (bB E N) z<=k)=false:=dP;have em:min ((aa+k*z+z:Nat):Int) ((aa+bB E N:Nat):Int)=((aa+min (k*z+z) (bB E N):Nat):Int):=e9;generalize bp:aa+min (k*z+z) (bB E N)=b1 at *;generalize dw:aa+k*z+z=b2 at *;generalize qX:aa+k*z=b3 at *;generalize hb4:aa+bB E N=b4 at *;generalize Gp:k*z=b5 at *;generalize gY (bB E N) z=nb at *;have Em:=a_ em;clear h hR h1 h2 hk bp dw qX hb4 Gp Ky e1 hl hnb em;go_enter func224,ntmps224;go_wp2_with (go_at_call 219;refine wS.kh λw1 HB=>?_);clear c0 c1;have k0:=cell_regrown (bA HB (bi _) C0);have k1:=cell_regrown (bA HB (bi _) C1);have Q:=a_ (QW _ HB);refine wp_region_quiet_below ol ol ?_;repeat (quiet_step ((go_at_call 278;exact Q _ _)))
 refine aa4 ?_;intro _ tZ;obtain⟨⟨dq,sQ⟩,iW⟩:=tZ;subst iW;have jB:=a_ (seq HB (below_regrown w1 dq sQ));generalize grow (redrawn w1 dq) sQ=w2 at *;clear k0 k1 Q;go_wp2;have k0:=cell_regrown (bA jB (bi _) C0);have k1:=cell_regrown (bA jB (bi _) C1);have Q:=a_ (QT _ jB);refine wp_region_quiet_below ol ol ?_;repeat (quiet_step ((go_at_call 174;exact Q _ _)))
 refine aa4 ?_;intro _ tZ;obtain⟨⟨dq,sQ⟩,iW⟩:=tZ;subst iW;go_wp2;go_ret3;refine⟨NE (λq=>Ending.returned (.tuple #[.int .i64 b3,.int .i64 q,.int .i64 0])) Em,seq jB (below_regrown w2 dq sQ)⟩
end
structure Pc where
 f:Nat
 a:Nat
 n:Nat
def kq (E:Nat->Nat) (N aa:Nat):Nat->List Pc->Nat->Prop
 |i,[],t=>i=t
 |i,p::l,t=>p.a=aa+i/\1<=p.n/\(∀d,d<p.n->vD E N (i+d)=p.f+d)/\kq E N aa (i+p.n) l t
def kq.snoc {E:Nat->Nat} {N aa:Nat}:∀ {l:List Pc} {i t:Nat} {p:Pc},kq E N aa i l t->p.a=aa+t->1<=p.n->(∀d,d<p.n->vD E N (t+d)=p.f+d)->kq E N aa i (l++ [p]) (t+p.n)
 |[],i,t,p,h,h1,h2,h3=>by obtain rfl:i=t:=h;exact⟨h1,h2,h3,rfl⟩
 |q::l,i,t,p,h,h1,h2,h3=>⟨h.1,h.2.1,h.2.2.1,kq.snoc h.2.2.2 h1 h2 h3⟩
def kq.le {E:Nat->Nat} {N aa:Nat}:∀ {l:List Pc} {i t:Nat},kq E N aa i l t->i+l.length<=t
 |[],i,t,h=>by obtain rfl:i=t:=h;simp
 |q::l,i,t,h=>by have:=kq.le h.2.2.2;have:=h.2.1;simp only[r'];omega
def gi:List Pc->List Value
 |[]=> []
 |p::l=> .int .i64 p.f:: .int .i64 p.a:: .int .i64 p.n::gi l
def pcells_append (l k:List Pc):gi (l++k)=gi l++gi k:=by
 induction l with
 |nil=>rfl
 |cons p l ih=>simp[gi,ih]
def piece_info:(prog.info? 303).map (λi=>(i.zero,i.size,i.bytes))=some (some (.agg #[Wy,Wy,Wy]),3,24):=ol
section
variable {b N z aa:Nat}{E:Nat->Nat}{R K:BL}{w w':World}
def prun_any (i t:Nat) (h:fK b N z E aa R) (hR:At R w) (hT:ax w) (hi:i<t) (ht:t<=bB E N):WA 279 #[Wz b,(aa+i:Nat),(aa+t:Nat)] w λe w'=>∃n:Nat,e=.returned (.tuple #[(vD E N i:Nat),n])/\(1<=n/\i+n<=t/\∀d,d<n->vD E N (i+d)=vD E N i+d)/\Below w.heap.size w w':=by
 obtain⟨fb,Rf,c0,c1,h1,h2⟩:=h.parts hR;have hd:=h.ij;have hl:=eE E N;have HF:=a_ (λj W (hW:Below w.heap.size w W) (hj:j<bB E N)=>pA (w:=W) j h1 (h2.grow hW) (hT.grow hW) hj);have H1:=HF i w (Below.refl _ _) e9;have dX:∀j,j<bB E N->vD E N j<=1048576:=λj hj=>by have:=(rq (f:=dI E) (n:=N) (k:=j) hj).1;unfold vD;omega
 have Mn:=a_ dX;have hb0:=dX i e9;have C0:=a_ c0;have e1:((aa+i:Nat):Int)=(aa:Int)+i:=e9;have e2:((aa+t:Nat):Int)=(aa:Int)+t:=e9;rw[e1,e2];have HI:=a_ H1;generalize hf:vD E N i=f0 at *;have Hf:=a_ hf;clear h hR h1 h2 hT H1 dX e1 e2 hf;have i1:(i:Int)<=1048576:=e9;have t1:(t:Int)<=1048576:=e9;have b1:(aa:Int)<2147483648:=e9;have f1:(f0:Int)<=1048576:=e9;go_enter func279,ntmps279;go_wp2_with (go_at_call 314;refine HI.mono ?_;clear HI;rintro e w1 ⟨rfl,hb⟩;have HB:=a_ hb;clear hb);clear c0;go_loopw [10] (λnv wr=>∃n:Nat,nv=.int .i64 n/\1<=n/\i+n<=t/\(∀d,d<n->vD E N (i+d)=f0+d)/\Below w.heap.size w wr) (λnv _=>t-(intOf nv).toNat);refine⟨1,rfl,bi _,e9,λd hd=>?_,HB⟩;have e:d=0:=e9;subst e;exact Hf;clear HB;obtain⟨n,rfl,CY,zy,SR,hb⟩:=hrel;obtain⟨HB,Jy⟩:=aO hb SR;have k0:=bA hb (bi _) C0;clear hb SR;have n1:(n:Int)<=1048576:=e9;by_cases hlt:i+n<t
 .have g1:decide ((aa:Int)+i+n<(aa:Int)+t)=true:=kr;have g2:(aa:Int)+i+n<(aa:Int)+t:=e9;have hF:=HF (i+n) wr HB e9;have hbd:=Mn (i+n) e9;rw[show (aa:Int)+((i+n:Nat):Int)=(aa:Int)+i+n from e9] at hF;have Lj:=a_ hF;generalize hv:vD E N (i+n)=v at *;have HV:=a_ hv;clear hF hv;by_cases he:v=f0+n
  .have g3:((v:Int) !=(f0:Int)+n)=false:=yd;have g4:((v:Int)==(f0:Int)+n)=true:=yd;have HE:=a_ he;clear he;go_wp2_with (go_at_call 314;refine Lj.mono ?_;clear Lj;rintro e w3 ⟨rfl,hb⟩;have Dh:=a_ (seq HB hb);clear hb);go_roundw;exact⟨n+1,by go_num,e9,e9,(λd hd=>by rcases ip d n with q|q;exact Jy d q;have e:d=n:=e9;subst e;rw[HV.out];exact HE),Dh⟩;simp[intOf];omega
  have g3:((v:Int) !=(f0:Int)+n)=true:=yd;have g4:((v:Int)==(f0:Int)+n)=false:=yd;clear he;go_wp2_with (go_at_call 314;refine Lj.mono ?_;clear Lj;rintro e w3 ⟨rfl,hb⟩;have Dh:=a_ (seq HB hb);clear hb);go_ret2;exact⟨n,rfl,⟨CY,zy,Jy⟩,Dh⟩
 have g1:decide ((aa:Int)+i+n<(aa:Int)+t)=false:=dP;have g2:¬(aa:Int)+i+n<(aa:Int)+t:=e9;go_wp2;go_ret2;exact⟨n,rfl,⟨CY,zy,Jy⟩,HB⟩
def ppieces_any (k:Nat) (h:fK b N z E aa R) (hR:At R w) (hT:ax w) (hk:k<gY (bB E N) z):WA 225 #[Wz b,k] w λe w'=>∃(l:List Pc) (al:Option Addr) (cap:Nat),e=.returned (.tuple #[.slice al l.length cap,Wy])/\kq E N aa (k*z) l (min (k*z+z) (bB E N))/\∃R',Rz 303 3 l.length (gi l) al cap R'/\ag [] R' w w':=by
 have hd:=h.ij;have vS:=h.ok.2.le;have hl:=eE E N;have Ky:=(fU vS.1).1 hk;have hG:=sY k h hR hk;have HU:=a_ (λW (hW:Below w.heap.size w W) i (hi:i<min (k*z+z) (bB E N))=>prun_any (w:=W) i (min (k*z+z) (bB E N)) h (hR.grow hW) (hT.grow hW) hi (Uz _ _));have hlt0:k*z<min (k*z+z) (bB E N):=e9;have hle0:min (k*z+z) (bB E N)<=1048576:=e9;generalize min (k*z+z) (bB E N)=t at *;generalize k*z=i0 at *;have IC:∀q:Nat,((aa+q:Nat):Int)=(aa:Int)+q:=λq=>e9;simp only[IC] at hG HU;have HG:=a_ hG;clear IC hG;obtain⟨j1,hj,sB,oQ,sC⟩:=BT piece_info;clear h hR hT hk Ky hl;go_enter func225,ntmps225;go_wp2_with (go_at_call 224;refine HG.mono ?_;clear HG;rintro e w1 ⟨rfl,hb⟩;have HB:=a_ hb;clear hb);go_loopw [6,9] (λiv ov wr=>∃(i:Nat) (l:List Pc) (al:Option Addr) (cap:Nat) (Ra:BL),iv=.int .i64 ((aa:Int)+i)/\ov=.slice al l.length cap/\i<=t/\kq E N aa i0 l i/\Rz 303 3 l.length (gi l) al cap Ra/\ag [] Ra w wr) (λiv _ _=>aa+t-(intOf iv).toNat);exact⟨i0,[],none,0,[],rfl,rfl,e9,rfl,Rw.nil _ _ _,(ag.refl At.nil).grow HB⟩;clear HB;obtain⟨i,l,al,cap,Ra,rfl,rfl,hi,hp,hr,hD⟩:=hrel;obtain⟨HP,Hr,HD⟩:=dF hp hr hD;have hlen:=hp.le;clear hp hr hD;by_cases hlt:i<t
 .have HUi:=a_ (HU wr HD.below i hlt);have g1:decide ((aa:Int)+i<(aa:Int)+t)=true:=kr;have g2:(aa:Int)+i<(aa:Int)+t:=e9;generalize uA:vD E N i=fi at *;have Hfi:=a_ uA;have qu:(aa:Int)<=4294967296:=e9;have hib:(i:Int)<=1048576:=e9;clear uA;go_wp2_with (first| (go_at_call 279;refine HUi.mono ?_;rintro e w3 ⟨n,rfl,hn,hb⟩;have HN:=a_ hn;have SR:(n:Int)<=1048576:=(by have:=HN.2.1;omega);have Jt:=a_ (HD.grow hb);clear hn hb;obtain⟨Dy,iV,w4,Ra',hrun,GB,hN⟩:=Hr.LD (R0:= []) (K:= []) (w0:=w) (w:=w3) (by rw[sh];exact Jt) hj sB oQ sC rfl z9 underlying299 #[.int .i64 fi,.int .i64 ((aa:Int)+i),.int .i64 n] rfl (by intro u hu;simp only[ii,ul,N_] at hu;rcases hu with rfl|rfl|rfl<;>rfl) (by unfold maxLen;omega) e9;have et:=a_ hrun;have Az:=a_ GB;have Lp:=a_ hN;clear hrun GB hN)| (at_builtin;refine cP _ rfl (.tmp 32) (.tmp 37) 299 rfl _ _ _ _ rfl rfl et ?_));go_roundw;have hn:=HN.out;refine⟨i+n,l++ [⟨fi,aa+i,n⟩],Dy,iV,Ra',?_,by rw[ge];rfl,hn.2.1,HP.snoc rfl hn.1 (λd hd=>hn.2.2 d hd),?_,by have:=Lp.out;rw[sh] at this;exact this⟩;exact NE (λq=>Value.int .i64 q) e9;rw[pcells_append,ge];have:=Az.out;rw[show ((aa:Int)+i)=((aa+i:Nat):Int) from e9] at this;exact this;have hn:=HN.out;simp[intOf];omega
 have g2:¬(aa:Int)+i<(aa:Int)+t:=e9;obtain rfl:i=t:=e9;go_wp2;go_ret2;exact⟨l,al,cap,rfl,HP,Ra,Hr,HD⟩
end
def dT (l:List Nat) (p:Nat):List Nat:=if p=0\/p∈l then l else l++ [p]
def lS (f:Nat->List Nat):Nat->Nat->List Nat->List Nat
 |0,_,l=>l
 |n+1,i,l=>if h:i<l.length then lS f n (i+1) ((f l[i]).foldl dT l) else l
def rF (f:Nat->List Nat) (rs:List Nat):List Nat:=lS f 1000000 0 (rs.foldl dT [])
inductive gA (f:Nat->List Nat) (rs:List Nat):Nat->Prop
 |root {a:Nat} (h:a∈rs) (h0:a≠0):gA f rs a
 |ptr {a p:Nat} (h:gA f rs a) (hp:p∈f a) (h0:p≠0):gA f rs p
def yy {g:Nat->Nat} {rs:List Nat} {a:Nat}:fF g rs a↔gA (dA g) rs a:=by
 constructor;intro h;induction h with
 |root h h0=>exact .root h h0
 |ptr h hp h0 ih=>exact .ptr ih hp h0
 intro h;induction h with
 |root h h0=>exact .root h h0
 |ptr h hp h0 ih=>exact .ptr ih hp h0
section
variable {f f':Nat->List Nat}{rs l ps U:List Nat}{i n:Nat}{φ:Nat->Nat}
def gJ {p x:Nat}:x∈dT l p↔x∈l\/(x=p/\p≠0):=by
 unfold dT;split
 .next h=>
  constructor;exact λq=> .inl q;rintro (q|⟨rfl,q⟩);exact q;exact h.resolve_left q
 next h=>
 rw[z_,pu];constructor;rintro (q|rfl);exact .inl q;exact .inr ⟨rfl,λe=>h (.inl e)⟩;rintro (q|⟨rfl,q⟩);exact .inl q;exact .inr rfl
def sJ {p:Nat} (h:l.Nodup):(dT l p).Nodup:=by
 unfold dT;split;exact h;next q=>
 rw[Fd];exact⟨h,qr,λa ha b hb e=>by rw[pu] at hb;subst hb;subst e;exact q (.inr ha)⟩
def metL_pre (l:List Nat) (p:Nat):∃t,dT l p=l++t:=by unfold dT;split;exact⟨[],(sh _).symm⟩;exact⟨[p],rfl⟩
def dB:∀ {ps l:List Nat} {x:Nat},x∈ps.foldl dT l↔x∈l\/(x∈ps/\x≠0)
 |[],l,x=>qr
 |p::ps,l,x=>by rw[R_,dB,gJ,ii];constructor;rintro ((q|⟨rfl,q⟩)|⟨q,r⟩);exact .inl q;exact .inr ⟨.inl rfl,q⟩;exact .inr ⟨.inr q,r⟩;rintro (q|⟨rfl|q,r⟩);exact .inl (.inl q);exact .inl (.inr ⟨rfl,r⟩);exact .inr ⟨q,r⟩
def kS:∀ {ps l:List Nat},l.Nodup->(ps.foldl dT l).Nodup
 |[],l,h=>h
 |p::ps,l,h=>kS (ps:=ps) (sJ h)
def lC:∀(ps l:List Nat),∃t,ps.foldl dT l=l++t
 |[],l=>⟨[],(sh _).symm⟩
 |p::ps,l=>by obtain⟨t,ht⟩:=metL_pre l p;obtain⟨u,hu⟩:=lC ps (dT l p);exact⟨t++u,by rw[R_,hu,ht,t_]⟩
structure zB (f:Nat->List Nat) (rs:List Nat) (i:Nat) (l:List Nat):Prop where
 nodup:l.Nodup
 gU:∀a∈l,gA f rs a
 root:∀a∈rs,a≠0->a∈l
 done:∀j (h:j<l.length),j<i->∀p∈f l[j],p≠0->p∈l
def gA.ne (h:gA f rs i):i≠0:=by cases h<;>assumption
def zB.start (f:Nat->List Nat) (rs:List Nat):zB f rs 0 (rs.foldl dT []):=⟨kS qr,λa ha=>by rcases dB.1 ha with q|⟨q,r⟩;cases q;exact .root q r,λa ha h0=>dB.2 (.inr ⟨ha,h0⟩),λj h hj=>e9⟩
def zB.step (h:zB f rs i l) (hi:i<l.length):zB f rs (i+1) ((f l[i]).foldl dT l):=by
 obtain⟨t,ht⟩:=lC (f l[i]) l;refine⟨kS h.nodup,λa ha=>?_,λa ha h0=>dB.2 (.inl (h.root a ha h0)),λj hj hO p hp h0=>?_⟩;rcases dB.1 ha with q|⟨q,r⟩;exact h.gU a q;exact .ptr (h.gU _ (ri hi)) q r;have Gx:j<l.length:=e9;have e:((f l[i]).foldl dT l)[j]=l[j]:=by have:((f l[i]).foldl dT l)[j]?=some l[j]:=(by rw[ht,rf Gx,co Gx]);exact (LT.1 this).2
 rw[e] at hp;rcases ip j i with q|q;exact dB.2 (.inl (h.done j Gx q p hp h0));obtain rfl:j=i:=e9;exact dB.2 (.inr ⟨hp,h0⟩)
def zB.all (h:zB f rs i l) (hi:l.length<=i) {a:Nat}:a∈l↔gA f rs a:=by
 refine⟨h.gU a,λha=>?_⟩;induction ha with
 |root q h0=>exact h.root _ q h0
 |ptr q hp h0 ih=>
  obtain⟨j,hj,e⟩:=Uq ih;subst e;exact h.done j hj e9 _ hp h0
def zB.uq (h:zB f rs i l) (hU:∀a,gA f rs a->a∈U):l.length<=U.length:=by have hs:l ⊆ U:=λa ha=>hU a (h.gU a ha);exact List.Nodup.length_le_of_subset h.nodup hs
def zB.run (hU:∀a,gA f rs a->a∈U):∀(n:Nat) {i:Nat} {l:List Nat},zB f rs i l->U.length<=i+n->∃j,zB f rs j (lS f n i l)/\(lS f n i l).length<=j
 |0,i,l,h,hn=>⟨i,h,by have:=h.uq hU;unfold lS;omega⟩
 |n+1,i,l,h,hn=>by
  unfold lS;split
  .next q=>exact zB.run hU n (h.step q) e9
  next q=>exact⟨i,h,e9⟩
def xr (hU:∀a,gA f rs a->a∈U) (hl:U.length<=1000000):(rF f rs).Nodup/\(rF f rs).length<=U.length/\∀a,a∈rF f rs↔gA f rs a:=by obtain⟨j,h1,h2⟩:=zB.run hU 1000000 (zB.start f rs) e9;exact⟨h1.nodup,h1.uq hU,λa=>h1.all h2⟩
def metL_map {p:Nat} (hi:∀a∈l,φ a=φ p->a=p) (h0:φ p=0↔p=0):dT (l.map φ) (φ p)=(dT l p).map φ:=by
 have e:φ p∈l.map φ↔p∈l:=by rw[mt];constructor;rintro⟨a,ha,e⟩;exact hi a ha e▸ha;exact λq=>⟨p,q,rfl⟩
 unfold dT;by_cases h:p=0\/p∈l;rw[b9 h,b9 (h.imp h0.2 e.2)];rw[b_ h,b_ (λq=>h (q.imp h0.1 e.1)),DV];rfl
structure Du (f f':Nat->List Nat) (Q:Nat->Prop) (φ:Nat->Nat):Prop where
 zero:φ 0=0
 pos:∀a,Q a->φ a≠0
 inj:∀a b,Q a->Q b->φ a=φ b->a=b
 fs:∀a,Q a->f' (φ a)=(f a).map φ
 cl:∀a,Q a->∀p∈f a,p=0\/Q p
variable {Q:Nat->Prop}
def Du.meets (h:Du f f' Q φ):∀ {ps l:List Nat},(∀a∈l,Q a)->(∀p∈ps,p=0\/Q p)->(ps.map φ).foldl dT (l.map φ)=(ps.foldl dT l).map φ/\∀a∈ps.foldl dT l,Q a
 |[],l,hl,_=>⟨rfl,hl⟩
 |p::ps,l,hl,hp=>by have tY:=hp p (fd ..);have e:dT (l.map φ) (φ p)=(dT l p).map φ:=(by refine metL_map (λa ha e=>?_) ⟨λe=>?_,λe=>e▸h.zero⟩;rcases tY with rfl|q;rw[h.zero] at e;exact absurd e (h.pos a (hl a ha));exact h.inj a p (hl a ha) q e;rcases tY with q|q;exact q;exact absurd e (h.pos p q));rw[t9,R_,R_,e];refine Du.meets h (λa ha=>?_) λq hq=>hp q (dl _ hq);rcases gJ.1 ha with q|⟨rfl,q⟩;exact hl a q;exact tY.resolve_left q
def Du.lS (h:Du f f' Q φ):∀(n:Nat) {i:Nat} {l:List Nat},(∀a∈l,Q a)->lS f' n i (l.map φ)=(lS f n i l).map φ
 |0,i,l,hl=>rfl
 |n+1,i,l,hl=>by unfold Go.Proofs.YtmdgfpeglgpiiaaGreatDoor.lS;by_cases q:i<l.length;have hq:Q l[i]:=hl _ (ri q);have hm:=h.meets (ps:=f l[i]) hl (h.cl _ hq);rw[aj1 q,aj1 (by rw[i8];exact q),List.getElem_map,h.fs _ hq,hm.1];exact Du.lS h n hm.2;rw[dif_neg q,dif_neg (by rw[i8];exact q)]
def Du.rF (h:Du f f' Q φ) (hr:∀a∈rs,a=0\/Q a):rF f' (rs.map φ)=(rF f rs).map φ:=by have hm:=h.meets (l:= []) (ps:=rs) (λa ha=>by cases ha) hr;unfold Go.Proofs.YtmdgfpeglgpiiaaGreatDoor.rF;rw[show ([]:List Nat)=[].map φ from rfl,hm.1];exact h.lS _ hm.2
def Du.gU (h:Du f f' Q φ) (hr:∀a∈rs,a=0\/Q a) {a:Nat} (ha:gA f rs a):Q a:=by
 induction ha with
 |root q h0=>exact (hr _ q).resolve_left h0
 |ptr q hp h0 ih=>exact (h.cl _ ih _ hp).resolve_left h0
end
structure MO where
 p:Nat
 f:Nat
 o:Nat
 w:List Nat
structure MH where
 C:Nat
 L:List MO
 S:List Nat
def MO.sz (x:MO):Nat:=1+(x.p+x.f+x.o)
def MH.ob (m:MH) (a:Nat):MO:=m.L.getD (a-1) ⟨0,0,0,[]⟩
def MH.pt (m:MH) (a:Nat):List Nat:=(m.ob a).w.take (m.ob a).p
def MH.gU (m:MH):List Nat:=rF m.pt m.S
def MH.aq (m:MH):Nat:=(m.gU.map λa=>(m.ob a).sz).sum
structure cX (g:Nat->Nat) (rs:List Nat) (m:MH) (Q:Nat->Prop) (φ:Nat->Nat) (aa top:Nat):Prop where
 pos:0<aa
 zero:φ 0=0
 xf:∀a,Q a->1<=a/\a<=m.L.length
 inj:∀a b,Q a->Q b->φ a=φ b->a=b
 root:∀a∈m.S,a=0\/Q a
 rs:rs=m.S.map φ
 cl:∀a,Q a->∀p∈m.pt a,p=0\/Q p
 wl:∀a,Q a->(m.ob a).w.length=(m.ob a).p+(m.ob a).f+(m.ob a).o
 lies:∀a,Q a->aa<=φ a/\φ a+(m.ob a).sz<=top
 apart:∀a b,Q a->Q b->φ a<φ b->φ a+(m.ob a).sz<=φ b
 hd:∀a,Q a->Hd.Is (g (φ a))/\Hd.tp (g (φ a))=(m.ob a).p/\Hd.tf (g (φ a))=(m.ob a).f/\Hd.to (g (φ a))=(m.ob a).o
 Cr:∀a i,Q a->i<(m.ob a).w.length->g (φ a+1+i)=if i<(m.ob a).p then φ ((m.ob a).w.getD i 0) else (m.ob a).w.getD i 0
 small:∀a,g a<18446744073709551616
def sO {E:Nat->Nat} {N:Nat} {l:List Nat} (hn:l.Nodup) (hm:∀a,a∈l↔E a≠0) (hN:∀a∈l,a<N):((List.range N).filter (gL E)).Perm l:=by refine (List.perm_ext_iff_of_nodup (aa2 Q_ ab4) hn).2 λa=>?_;rw[GS,B_,dR,hm];exact⟨λq=>q.2,λq=>⟨hN a ((hm a).2 q),q⟩⟩
def rM (f:Nat->Bool):∀N,aG f N=((List.range N).filter f).length
 |0=>rfl
 |N+1=>by rw[bM,ae2,ae8,ge,rM f N];cases h:f N<;>simp[h]
def mP (E:Nat->Nat):∀N,bd E N=(((List.range N).filter (gL E)).map E).sum
 |0=>rfl
 |N+1=>by rw[bd,ae2,ae8,DV,List.sum_append,mP E N];by_cases h:E N=0;rw[show [N].filter (gL E)=[] from by simp[gL,h]];simp[h];rw[show [N].filter (gL E)=[N] from by simp[gL,h]];simp
def cntE_list {E:Nat->Nat} {N:Nat} {l:List Nat} (hn:l.Nodup) (hm:∀a,a∈l↔E a≠0) (hN:∀a∈l,a<N):bQ E N=l.length:=by unfold bQ;rw[rM];exact (sO hn hm hN).length_eq
def sumE_list {E:Nat->Nat} {N:Nat} {l:List Nat} (hn:l.Nodup) (hm:∀a,a∈l↔E a≠0) (hN:∀a∈l,a<N):bd E N=(l.map E).sum:=by rw[mP];exact ((sO hn hm hN).map E).sum_nat
section
variable {g g':Nat->Nat}{rs:List Nat}{m:MH}{Q:Nat->Prop}{φ:Nat->Nat}{aa top N:Nat}
def cX.Ct (h:cX g rs m Q φ aa top) {a:Nat} (ha:Q a):φ a≠0:=by have:=(h.lies a ha).1;have:=h.pos;omega
def cX.mh (h:cX g rs m Q φ aa top) {a:Nat} (ha:Q a):bC (g (φ a))=(m.ob a).sz:=by obtain⟨_,h1,h2,h3⟩:=h.hd a ha;unfold bC MO.sz;rw[h1,h2,h3]
def cX.Jh (h:cX g rs m Q φ aa top) {a:Nat} (ha:Q a):dA g (φ a)=(m.pt a).map φ:=by obtain⟨_,h1,h2,h3⟩:=h.hd a ha;have hl:=h.wl a ha;unfold dA MH.pt;rw[h1];apply E_;intro i;rw[o_,o_,Km];by_cases hi:i<(m.ob a).p;rw[GE hi,b9 hi,GW,h.Cr a i ha e9,b9 hi,ac,co e9];rfl;rw[b_ hi,DG (by simpa using hi)];rfl
def cX.Wl (h:cX g rs m Q φ aa top):Du m.pt (dA g) Q φ:=⟨h.zero,λa ha=>h.Ct ha,h.inj,λa ha=>h.Jh ha,h.cl⟩
def cX.St (Q:Nat->Prop) (φ:Nat->Nat) (x:Nat):Prop:=∃a,Q a/\x=φ a
def cX.whole (h:cX g rs m Q φ aa top) (hN:top<=N):Whole g (cX.St Q φ) (λx=>aa<=x/\x<top) N:=by refine⟨?_,h.small,?_,?_,?_,?_,?_⟩;rintro _ ⟨a,ha,rfl⟩;exact (h.hd a ha).1;rintro _ ⟨a,ha,rfl⟩ i hi;rw[h.mh ha] at hi;have:=h.lies a ha;constructor<;>omega;rintro _ ⟨a,ha,rfl⟩;have:=h.Ct ha;omega;rintro _ ⟨a,ha,rfl⟩;rw[h.mh ha];have:=h.lies a ha;omega;rintro _ _ ⟨a,ha,rfl⟩ ⟨b,hb,rfl⟩ hlt;rw[h.mh ha];exact h.apart a b ha hb hlt;rintro _ i ⟨a,ha,rfl⟩ hi;have hm:g (φ a+1+i)∈dA g (φ a):=mt.2 ⟨i,B_.2 hi,rfl⟩;rw[h.Jh ha] at hm;obtain⟨p,hp,e⟩:=mt.1 hm;rcases h.cl a ha p hp with rfl|q;left;rw[<-e,h.zero];exact .inr ⟨p,q,e.symm⟩
def cX.wG (h:cX g rs m Q φ aa top):∀a∈rs,a=0\/cX.St Q φ a:=λa ha=>by
 rw[h.rs] at ha;obtain⟨b,hb,rfl⟩:=mt.1 ha;rcases h.root b hb with rfl|q;exact .inl h.zero;exact .inr ⟨b,q,rfl⟩
def cX.wD (h:cX g rs m Q φ aa top) {a:Nat} (ha:gA m.pt m.S a):Q a:=h.Wl.gU h.root ha
open Classical in
def cX.row (h:cX g rs m Q φ aa top):∃U:List Nat,(∀a,Q a↔a∈U)/\U.length<=top:=by
 let U:=(List.range (m.L.length+1)).filter λa=>decide (Q a);have hU:∀a,a∈U↔Q a:=λa=>by show a∈List.filter _ _↔_;rw[GS,B_,l_];exact⟨λq=>q.2,λq=>⟨by have:=h.xf a q;omega,q⟩⟩
 refine⟨U,λa=>(hU a).symm,?_⟩;have hn:U.Nodup:=aa2 Q_ ab4;have zy:(U.map φ).Nodup:=by rw[List.nodup_iff_pairwise_ne,List.pairwise_map];exact (List.Pairwise.imp_of_mem (λ{a b} ha hb hne e=>hne (h.inj a b ((hU a).1 ha) ((hU b).1 hb) e)) hn)
 have hs:U.map φ ⊆ List.range top:=λx hx=>by obtain⟨a,ha,rfl⟩:=mt.1 hx;have:=h.lies a ((hU a).1 ha);have hz:1<=(m.ob a).sz:=(by unfold MO.sz;omega);rw[B_];omega
 have:=List.Nodup.length_le_of_subset zy hs;rw[i8,List.length_range] at this;exact this
def cX.PK (h:cX g rs m Q φ aa top) (ht:top<=1000000):m.gU.Nodup/\(∀a,a∈m.gU↔gA m.pt m.S a)/\rF (dA g) rs=m.gU.map φ/\m.gU.length<=top:=by obtain⟨U,hU,hl⟩:=h.row;obtain⟨h1,h2,h3⟩:=xr (f:=m.pt) (rs:=m.S) (λa ha=>(hU a).1 (h.wD ha)) e9;refine⟨h1,h3,?_,by unfold MH.gU;omega⟩;rw[h.rs];exact h.Wl.rF h.root
def cX.lH (h:cX g rs m Q φ aa top) (ht:top<=1000000) (x:Nat):fF g rs x↔x∈m.gU.map φ:=by obtain⟨h1,h2,h3,h4⟩:=h.PK ht;obtain⟨U,hU,hl⟩:=h.row;rw[yy,<-h3];refine ((xr (f:=dA g) (rs:=rs) (U:=U.map φ) (λa ha=>?_) (by rw[i8];omega)).2.2 x).symm;obtain⟨b,hb,rfl⟩:=(yy.2 ha).st (h.whole (bi _)) h.wG;exact mt.2 ⟨b,(hU b).1 hb,rfl⟩
def cX.counts (h:cX g rs m Q φ aa top) (ht:top<=1000000) (hN:top<=N):bQ (aj g rs) N=m.gU.length/\bd (aj g rs) N=m.aq:=by
 obtain⟨h1,h2,h3,h4⟩:=h.PK ht;have hq:∀a∈m.gU,Q a:=λa ha=>h.wD ((h2 a).1 ha);have hn:(m.gU.map φ).Nodup:=by rw[List.nodup_iff_pairwise_ne,List.pairwise_map];exact (List.Pairwise.imp_of_mem (λ{a b} ha hb hne e=>hne (h.inj a b (hq a ha) (hq b hb) e)) h1)
 have hm:∀x,x∈m.gU.map φ↔aj g rs x≠0:=λx=>by rw[<-h.lH ht];unfold aj;by_cases q:fF g rs x;rw[b9 q];exact⟨λ_=>lJ _,λ_=>q⟩;rw[b_ q];exact⟨λr=>absurd r q,λr=>absurd rfl r⟩
 have hlt:∀x∈m.gU.map φ,x<N:=λx hx=>by obtain⟨a,ha,rfl⟩:=mt.1 hx;have:=h.lies a (hq a ha);have hz:1<=(m.ob a).sz:=(by unfold MO.sz;omega);omega
 refine⟨?_,?_⟩;rw[cntE_list hn hm hlt,i8];rw[sumE_list hn hm hlt,Pi];unfold MH.aq;congr 1;refine s_ λa ha=>?_;show aj g rs (φ a)=_;unfold aj;rw[b9 ((h.lH ht _).2 (IR ha)),h.mh (hq a ha)]
def cX.congr (h:cX g rs m Q φ aa top) (hg:∀a,aa<=a->a<top->g' a=g a) (hs:∀a,g' a<18446744073709551616):cX g' rs m Q φ aa top:=by
 have e:∀a,Q a->g' (φ a)=g (φ a):=λa ha=>by have:=h.lies a ha;have hz:1<=(m.ob a).sz:=(by unfold MO.sz;omega);exact hg _ e9 e9
 refine⟨h.pos,h.zero,h.xf,h.inj,h.root,h.rs,h.cl,h.wl,h.lies,h.apart,λa ha=>?_,λa i ha hi=>?_,hs⟩;rw[e a ha];exact h.hd a ha;have:=h.lies a ha;have hl:=h.wl a ha;rw[hg _ e9 (by unfold MO.sz at this;omega)];exact h.Cr a i ha hi
end
section
variable {b N z aa:Nat}{E:Nat->Nat}{R K:BL}{w w':World}
def uU (p:Int) (h:fK b N z E aa R) (hR:At R w) (hp:p<aa\/((aa+bB E N:Nat):Int)<=p):WR 363 #[Wz b,p] w (.tuple #[Wy,(11:Int)]) λw'=>Below w.heap.size w w':=by obtain⟨fb,Rf,c0,c1,h1,h2⟩:=h.parts hR;have H:=a_ (ffrom_no p h1 h2 hp);clear h hR h1 h2 hp;go_enter func363,ntmps363;go_wp2_with (go_at_call 314;refine H.kh λw1 HB=>?_);go_ret2;exact⟨rfl,HB⟩
def jU (j:Nat) (h:fK b N z E aa R) (hR:At R w) (hT:ax w) (hj:j<bB E N):WR 363 #[Wz b,((aa:Int)+j:Int)] w (.tuple #[(j/z:Nat),Wy]) λw'=>Below w.heap.size w w':=by
 obtain⟨fb,Rf,c0,c1,h1,h2⟩:=h.parts hR;have hd:=h.ij;have vS:=h.ok.2.le;have hl:=eE E N;have H:=a_ (pA j h1 h2 hT hj);have QW:=a_ (λw1 (kA:Below w.heap.size w w1)=>fV (w:=w1) λW hW=>Calls.gE (uo h1 ((h2.grow kA).grow hW)));obtain⟨C0,C1⟩:=aO c0 c1;have z0:¬(z:Int)=0:=e9;have z3:¬z=0:=e9;have z1:(1:Int)<=z:=e9;have z2:(z:Int)<=1024:=e9;have s1:IntKind.i64.wrap ((aa:Int)+j-aa)=(j:Int):=kh;obtain⟨d,Qd⟩:=kw (j/z);have hjz:d<=j:=Qd▸rx j z;have e2:(j:Int)/z=(d:Int):=by rw[<-Qd];rfl
 have e1:(j:Int).tdiv z=(d:Int):=by rw[so e9];exact e2
 have s2:IntKind.i64.wrap (d:Int)=(d:Int):=i_ _ e9;have s3:IntKind.i64.wrap ((j:Int)/z)=(d:Int):=by rw[e2];exact s2
 have q1:(j:Int)<=1048576:=e9;rw[Qd];clear Qd;clear h hR h1 h2 hT hj hjz hl;go_enter func363,ntmps363;go_wp2_with (go_at_call 314;refine H.kh λw1 HB=>?_);clear c0 c1;have k0:=cell_regrown (bA HB (bi _) C0);have k1:=cell_regrown (bA HB (bi _) C1);have Q:=a_ (QW _ HB);refine wp_region_quiet_below ol ol ?_;repeat (quiet_step ((go_at_call 278;exact Q _ _)))
 refine aa4 ?_;intro _ tZ;obtain⟨⟨dq,sQ⟩,iW⟩:=tZ;subst iW;go_wp2;go_ret2;exact⟨rfl,seq HB (below_regrown w1 dq sQ)⟩
end
end Go.Proofs.YtmdgfpeglgpiiaaGreatDoor

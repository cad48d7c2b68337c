import Derived.Test.YtmdgfpeglgpiiaaGreatDoorB17
set_option linter.all false
set_option maxRecDepth 100000
set_option maxHeartbeats 16000000
namespace Go.Proofs.YtmdgfpeglgpiiaaGreatDoor
open Go.ChangeShapes Go.WideShapes Go.ChangeAt Go.RowKit
open Vq Oq Go.Proofs.Tryz
def fQ (b:Nat):Nat:=if b/4503599627370496%2048=2047 then (if b%4503599627370496=0 then 3 else 4) else if b/4503599627370496%2048=0 then (if b%4503599627370496=0 then 0 else 1) else 2
def iK (b:Nat):Bool:=decide (9223372036854775808<=b)
def mE (b:Nat):Nat:=b/4503599627370496%2048-1
def wa (b:Nat):Nat:=b%4503599627370496+if b/4503599627370496%2048=0 then 0 else 4503599627370496
def Mg (b:Nat):Nat:=wa b*2^(mE b%64)%bD
def IK (b:Nat):Nat:=wa b*2^(mE b%64)/bD
def ud (b:Nat):Nat:=kx (mE b/64) (Mg b) (IK b)
structure XS where
 N:Nat
 nan:Bool
 plus:Bool
 minus:Bool
 count:Nat
 cI:Nat
def XS.new:XS:=⟨0,false,false,false,0,0⟩
def fH (s:XS) (b:Nat):XS:=⟨if fQ b=1\/fQ b=2 then (if iK b then s.N+(bD^35-ud b) else s.N+ud b) else s.N,s.nan || fQ b==4,s.plus || (fQ b==3 && !iK b),s.minus || (fQ b==3 && iK b),s.count+1,s.cI+if fQ b=0/\iK b then 1 else 0⟩
def wm (N:Nat):Bool:=decide (9223372036854775808<=limb N 34)
def lR (N:Nat):Nat:=if wm N then bD^35-N%bD^35 else N
def kR (g:Nat->Nat):Nat->Nat
 |0=>0
 |n+1=>if g n=0 then kR g n else 64*n+Lib.bitLen (g n)
def zO (g:Nat->Nat):Nat->Bool
 |0=>false
 |n+1=>zO g n || decide (g n≠0)
def mz (g:Nat->Nat) (at_:Nat):Bool:=zO g (at_/64) || (decide (g (at_/64)*2^(63-at_%64)%bD*2%bD≠0) && decide (at_%64≠0))
def nG (g:Nat->Nat) (at_:Nat):Nat:=(g (at_/64)/2^(at_%64) ||| (if at_/64+1<35 then g (at_/64+1)*2^(64-at_%64)%bD else 0))%9007199254740992
def se (g:Nat->Nat) (at_:Nat):Bool:=decide (g (at_/64)/2^(at_%64)%2=1)
def yA (g:Nat->Nat):Nat:=min ((kR g 35-53)*4503599627370496+nG g (kR g 35-53)+if 0<kR g 35-53/\se g (kR g 35-53-1)=true/\(nG g (kR g 35-53)%2=1\/mz g (kR g 35-53-1)=true) then 1 else 0) 9218868437227405312
def DY (b:Nat):Nat:=if 9223372036854775808<=b then b-9223372036854775808 else b+9223372036854775808
def wQ (s:XS):Nat:=if s.nan\/(s.plus/\s.minus) then 9221120237041090560 else if s.plus then 9218868437227405312 else if s.minus then 18442240474082181120
 else if wm s.N\/(0<s.count/\s.cI=s.count) then DY (yA (limb (lR s.N))) else yA (limb (lR s.N))
def jY (l:List Nat):Nat:=wQ (l.foldl fH .new)
def addX_zero (s:XS) (b:Nat):(fH s b).count=s.count+1/\(fH s b).cI<=s.cI+1:=by unfold fH;refine⟨rfl,?_⟩;show s.cI+(if _ then 1 else 0)<=_;split<;>omega
def my:∀(l:List Nat) (s:XS),(l.foldl fH s).count=s.count+l.length/\(l.foldl fH s).cI<=s.cI+l.length
 |[],s=>⟨rfl,bi _⟩
 |b::l,s=>by obtain⟨h1,h2⟩:=my l (fH s b);obtain⟨h3,h4⟩:=addX_zero s b;rw[R_,h1,r'];exact⟨e9,e9⟩
def Bv (b:Nat):wa b<9007199254740992:=by unfold wa;split<;>omega
def vH (b:Nat):mE b<=2046:=by unfold mE;omega
def Ag (b:Nat):Mg b<bD:=AC _ fJ
def zW (b:Nat):IK b<bD:=by unfold IK;rw[j_ fJ];have h1:=Bv b;have h2:2^(mE b%64)<=2^63:=pl z9 e9;have h3:=TI (ae5 h1) h2;rw[gN];have:9007199254740992*2^63<18446744073709551616*18446744073709551616:=z9;omega
def valX_lt (b:Nat):ud b<=bD^35:=by
 unfold ud kx;have h1:=Ag b;have h2:=zW b;have h3:Mg b+bD*IK b<=bD*bD:=by have:bD*IK b+bD<=bD*bD:=(by rw[<-Nat.mul_succ];exact ai0 _ h2);omega
 have h4:bD^(mE b/64)<=bD^33:=pl fJ (by have:=vH b;omega);refine h_ (TI h3 h4) ?_;rw[show (35:Nat)=33+1+1 from rfl,ST,ST,GP,Nat.mul_assoc];exact bi _
def and_low (b k:Nat):b &&& (2^k-1)=b%2^k:=ad3 b k
def lM (b k:Nat) (M:Int) (hb:b<18446744073709551616) (hk:k<=64) (hM:M=(2^k-1:Nat)):bits BinOp.and IntKind.u64 (b:Int) M=((b%2^k:Nat):Int):=by rw[hM,UL b _ hb (by have:2^k<=2^64:=pl z9 hk;have:0<2^k:=Nat.pow_pos z9;omega),and_low]
def vh (b:Nat) (hb:b<18446744073709551616):bits BinOp.and IntKind.u64 ((b:Int)/4503599627370496) 2047=((b/4503599627370496%2048:Nat):Int):=by have e:((b:Int)/4503599627370496)=((b/4503599627370496:Nat):Int):=e9;rw[e];exact lM _ 11 2047 e9 z9 z9
def yL (b:Nat) (hb:b<18446744073709551616):bits BinOp.and IntKind.u64 (b:Int) 4503599627370495=((b%4503599627370496:Nat):Int):=lM b 52 4503599627370495 hb z9 z9
def yM (b:Nat) (hb:b<18446744073709551616):bits BinOp.and IntKind.u64 (b:Int) 9223372036854775808=if iK b then 9223372036854775808 else 0:=by
 have e:=UL b 9223372036854775808 hb z9;have e2:b &&& 9223372036854775808=if iK b then 9223372036854775808 else 0:=by have:b &&& 2^63=2^63*(b/2^63%2):=(by apply vC;intro i;rw[O_,ai1,Nat.testBit_two_pow_mul];by_cases hi:63=i;subst hi;simp[ac9];simp only[hi,decide_false,ah6];by_cases h2:i>=63;rw[rc h2,SV];have h3:b/2^63%2<2^1:=AC _ z9;rw[H'];exact x_ h3 (pl z9 e9);rw[g_ h2,ac8]);rw[show (9223372036854775808:Nat)=2^63 from rfl,this];unfold iK;simp only[l_];split<;>omega
 rw[show (9223372036854775808:Int)=((9223372036854775808:Nat):Int) from rfl,e,e2];split<;>rfl
def BU (b:Nat) (hb:b<18446744073709551616):bits BinOp.xor IntKind.u64 IntKind.u64.max (b:Int)=((18446744073709551615-b:Nat):Int):=by
 have e:IntKind.u64.max=((18446744073709551615:Nat):Int):=rfl;rw[e,Go.u64_xor_nat _ b z9 hb];have e2:18446744073709551615^^^ b=18446744073709551615-b:=by rw[show (18446744073709551615:Nat)=2^64-1 from rfl];apply vC;intro i;rw[ag9,P_,show 2^64-1-b=2^64-(b+1) by omega,N' e9];by_cases hi:i<64;simp[hi];have:b.testBit i=false:=H' (x_ hb (show 2^64<=2^i from pl z9 (show 64<=i by omega)));simp[hi,this]
 rw[e2]
def uw (b:Nat) (hb:b<18446744073709551616) (w:World):WR 145 #[.float .f64 b] w (.bool (iK b)) λw'=>w=w':=by
 have e:=yM b hb;have HB:=a_ (λW=>dY b W);cases hs:iK b;all_goals
  rw[hs] at e;simp only[D_,Y',QQ] at e;go_enter func145,ntmps145;go_wp2_with (go_at_call 44;refine (HB _).kq ?_;rintro w1 rfl);go_ret;exact⟨rfl,rfl⟩
def fkind_any (b:Nat) (hb:b<18446744073709551616) (w:World):WR 144 #[.float .f64 b] w (fQ b:Int) λw'=>w=w':=by
 have e1:=vh b hb;have e2:=yL b hb;have HB:=a_ (λW=>dY b W);unfold fQ;generalize b/4503599627370496%2048=ex at *;generalize b%4503599627370496=fr at *;by_cases h1:ex=2047
 .subst h1;by_cases h2:fr=0
  .subst h2;go_enter func144,ntmps144;go_wp2_with (go_at_call 44;refine (HB _).kq ?_;rintro w1 rfl);go_ret;exact⟨rfl,rfl⟩
  have g2:((fr:Int)==0)=false:=v6;have g3:¬(fr:Int)=0:=e9;rw[b9 rfl,b_ h2];go_enter func144,ntmps144;go_wp2_with (go_at_call 44;refine (HB _).kq ?_;rintro w1 rfl);go_ret;exact⟨rfl,rfl⟩
 have g1:((ex:Int)==2047)=false:=v6;have Nv:¬(ex:Int)=2047:=e9;rw[b_ h1];by_cases h0:ex=0
 .subst h0;rw[b9 rfl];by_cases h2:fr=0
  .subst h2;go_enter func144,ntmps144;go_wp2_with (go_at_call 44;refine (HB _).kq ?_;rintro w1 rfl);go_ret;exact⟨rfl,rfl⟩
  have g2:((fr:Int)==0)=false:=v6;have g3:¬(fr:Int)=0:=e9;rw[b_ h2];go_enter func144,ntmps144;go_wp2_with (go_at_call 44;refine (HB _).kq ?_;rintro w1 rfl);go_ret;exact⟨rfl,rfl⟩
 have g2:((ex:Int)==0)=false:=v6;have g3:¬(ex:Int)=0:=e9;rw[b_ h0];go_enter func144,ntmps144;go_wp2_with (go_at_call 44;refine (HB _).kq ?_;rintro w1 rfl);go_ret;exact⟨rfl,rfl⟩
def xH (b:Nat) (hb:b<18446744073709551616) (w:World):WR 223 #[.float .f64 b] w (.int .u64 (lW b)) λw'=>w=w':=by
 have e:=yM b hb;have HB:=a_ (λW=>dY b W);unfold lW;cases hs:iK b
 .rw[hs] at e;simp only[D_,Y',QQ] at e;unfold iK at hs;have hlt:¬9223372036854775808<=b:=aa1 hs;rw[b_ hlt];have eo:bits BinOp.or IntKind.u64 (b:Int) 9223372036854775808=((b+9223372036854775808:Nat):Int):=(by have q:=af6 b 9223372036854775808 hb z9;rw[show (9223372036854775808:Int)=((9223372036854775808:Nat):Int) from rfl,q];have h2:b ||| 2^63=2^63+b:=(by have:=ae6 (i:=63) (b:=b) e9 1;rw[w_] at this;rw[this,aj9]);rw[show (9223372036854775808:Nat)=2^63 from rfl,h2,WF]);go_enter func223,ntmps223;go_wp2_with (go_at_call 44;refine (HB _).kq ?_;rintro w1 rfl);go_ret;exact⟨NE (λq=>Ending.returned (.int .u64 q)) (by first|rfl|exact (Int.natCast_add b 9223372036854775808).symm),rfl⟩
 rw[hs] at e;simp only[D_,Y',QQ] at e;unfold iK at hs;have hlt:9223372036854775808<=b:=Nf hs;rw[b9 hlt];go_enter func223,ntmps223;go_wp2_with (go_at_call 44;refine (HB _).kq ?_;rintro w1 rfl);go_ret;exact⟨NE (λq=>Ending.returned (.int .u64 q)) (BU b hb),rfl⟩
def qo (a b:Nat) (ha:a<18446744073709551616) (hb:b<18446744073709551616) (w:World):WR 142 #[.float .f64 a,.float .f64 b] w (.bool (decide (lW a<lW b))) λw'=>w=w':=by have HA:=a_ (λW=>xH a ha W);have HB:=a_ (λW=>xH b hb W);have e:decide (lW a<lW b)=decide ((lW a:Int)<lW b):=decide_eq_decide.2 e9;rw[e];clear e;go_enter func142,ntmps142;go_wp2_with (first|(go_at_call_of 223 (Value.float .f64 a);refine (HA _).kq ?_;rintro w1 rfl)|(go_at_call 223;refine (HB _).kq ?_;rintro w2 rfl));go_ret;exact⟨qr,rfl⟩
def BM (m r:Nat):IntKind.u64.wrap ((m:Int)*2^r)=((m*2^r%bD:Nat):Int):=by
 have e:(m:Int)*2^r=((m*2^r:Nat):Int):=by rw[ae0,ac1];rfl
 rw[e,qc];rfl
def shr_z (m r:Nat) (hr:r<=64):(m:Int)/2^(64-r)=((m*2^r/bD:Nat):Int):=by
 have e:(2:Int)^(64-r)=((2^(64-r):Nat):Int):=by rw[ac1];rfl
 rw[e,<-Int.natCast_ediv];congr 1;have e2:bD=2^(64-r)*2^r:=by rw[<-Nat.pow_add,show 64-r+r=64 by omega];rfl
 rw[e2,Nat.mul_div_mul_right _ _ (Nat.pow_pos z9)]
def shift_any (m e:Nat) (hm:m<9007199254740992) (he:e<=2046) (w:World):WA 228 #[.int .u64 m,e] w λx w'=>x=.returned (.tuple #[(e/64:Nat),WB (m*2^(e%64)%bD),WB (m*2^(e%64)/bD)])/\Below w.heap.size w w':=by
 obtain⟨q,hq⟩:=kw (e/64);obtain⟨r,hr⟩:=kw (e%64);have t1:(e:Int).tdiv 64=q:=by rw[so e9,<-hq];rfl
 have t2:(e:Int).tmod 64=r:=by rw[Fm e9,<-hr];rfl
 have t3:IntKind.i64.wrap (q:Int)=q:=i_ _ e9;have t4:IntKind.i64.wrap (r:Int)=r:=i_ _ e9;have kz:r<64:=e9;rw[hq,hr];go_enter func228,ntmps228;go_wp2;go_quiet (fail);go_wp2;refine nl (v:= .tuple #[q,WB (m*2^r%bD),WB (m*2^r/bD)]) ?_ rfl ⟨rfl,Fr.aA _ _⟩;have g1:=BM m r;have g2:=shr_z m r e9;simp[results,results228,go_sem,g1,g2]
section
attribute [local go_sem] Oper.semAt_some
def yF:Array Value->Sem Value:=λargs=>do
 let (x,y,b) ←Extern.MathBitsCarry.three "Sub64" args
 pure (Extern.MathBitsCarry.pair ((x+Extern.MathBitsCarry.m64-y-b)%Extern.MathBitsCarry.m64) (if x<y+b then 1 else 0))
def run_sub64' {P:Program} (x y b:Nat) (hb:b<=1) (w:World): (yF #[.int .u64 x,.int .u64 y,.int .u64 b]).run P w=.ok (.tuple #[.int .u64 (((x+18446744073709551616-y-b)%18446744073709551616:Nat):Int),.int .u64 ((if x<y+b then 1 else 0:Nat):Int)]) w:=by have:b=0\/b=1:=e9;rcases this with rfl|rfl<;>rfl
def yC (x y c:Nat) (hc:c<=1) (w:World): (callFunc 231 #[.int .u64 x,.int .u64 y,.int .u64 c]).run prog w=.ok (.value (.tuple #[.int .u64 (((x+y+c)%bD:Nat):Int),.int .u64 (((x+y+c)/bD:Nat):Int)])) w:=by rw[af0 func231 ol ol ol (e:=add64Entry) ol,run_add64 x y c e9 e9 e9 e9];simp only[Result.andThen];rw[gN];congr 5<;>omega
def run_subF (x y b:Nat) (hb:b<=1) (w:World): (callFunc 282 #[.int .u64 x,.int .u64 y,.int .u64 b]).run prog w=.ok (.value (.tuple #[.int .u64 (((x+bD-y-b)%bD:Nat):Int),.int .u64 ((if x<y+b then 1 else 0:Nat):Int)])) w:=by rw[af0 func282 ol ol ol (e:=yF) ol,run_sub64' x y b hb];rfl
def bn (g:Nat->Nat) (s:XS):List Value:= .bool true::(((List.range 35).map λi=>Value.int .u64 (g i))++ [.bool s.nan,.bool s.plus,.bool s.minus,.int .i64 s.count,.int .i64 s.cI])
abbrev XO (g:Nat->Nat) (s:XS):Obj:= .cells (bn g s).toArray 222 (0,0)
section
variable {g g':Nat->Nat}{s:XS}{b at_ lo hi N V:Nat}{w w':World}
def lP {i:Nat} (hi:i<35):(bn g s)[1+i]?=some (.int .u64 (g i)):=by unfold bn;rw[WF,ac6,rf (by simpa using hi),o_,GE hi];rfl
def xcells_set {i x:Nat} (hi:i<35):(bn g s).set (1+i) (.int .u64 x)=bn (λj=>if j=i then x else g j) s:=by
 apply E_;intro j;rw[I'];have hl:(bn g s).length=41:=by simp[bn]
 by_cases hj:1+i=j;subst hj;rw[b9 rfl,iY,lP hi,b9 rfl];rw[b_ hj];unfold bn;cases j with
 |zero=>rfl
 |succ j=>
  rw[ac6,ac6];by_cases Gx:j<35;rw[rf (by simpa using Gx),rf (by simpa using Gx),o_,o_,GE Gx];simp only[GW];rw[cG];rw[y' (by simpa using Gx),y' (by simpa using Gx)];simp
def eS (h:∀i,i<35->g i=g' i):bn g s=bn g' s:=by unfold bn;congr 2;apply s_;intro i hi;rw[h i (B_.1 hi)]
def Dx {i x:Nat} (hi:i<35):(bn g s).toArray.setIfInBounds (1+i) (.int .u64 x)=(bn (λj=>if j=i then x else g j) s).toArray:=by rw[<-xcells_set hi];simp
def gT (F1 F0:Nat->Nat) (i j:Nat):Nat:=if j<i then F1 j else F0 j
def pJ (F1 F0:Nat->Nat) (i:Nat):(λj=>if j=i then F1 i else gT F1 F0 i j)=gT F1 F0 (i+1):=by funext j;unfold gT;by_cases h:j=i;subst h;rw[b9 rfl,iY];rw[b_ h];by_cases h2:j<i;rw[b9 h2,iY];rw[b_ h2,cG]
def jO (F1 F0:Nat->Nat) (i:Nat):gT F1 F0 i i=F0 i:=cG
def plusAt_g (F0 F1 C:Nat->Nat) (hR:At [(b,XO F0 s)] w) (jI:at_<=31) (h0:∀j,j<at_->F0 j=F1 j) (ks:C at_=0) (hC:∀i,C i<=1) (hA:∀W,(callFunc 231 #[.int .u64 (F0 at_:Nat),.int .u64 lo,.int .u64 0]).run prog W=.ok (.value (.tuple #[WB (F1 at_),WB (C (at_+1))])) W) (hB:∀W,(callFunc 231 #[.int .u64 (F0 (at_+1):Nat),.int .u64 hi,.int .u64 (C (at_+1):Nat)]).run prog W=.ok (.value (.tuple #[WB (F1 (at_+1)),WB (C (at_+2))])) W) (hI:∀i,at_+2<=i->∀W,(callFunc 231 #[.int .u64 (F0 i:Nat),.int .u64 0,.int .u64 (C i:Nat)]).run prog W=.ok (.value (.tuple #[WB (F1 i),WB (C (i+1))])) W) (hend:∀i,at_+2<=i->C i=0->∀j,i<=j->j<35->F0 j=F1 j): WR 230 #[Wz b,at_,.int .u64 lo,.int .u64 hi] w (.tuple #[]) λw'=>ag [(b,XO F0 s)] [(b,XO F1 s)] w w':=by
 have e0:bn F0 s=bn (gT F1 F0 at_) s:=eS λi hi=>by unfold gT;split;exact h0 i ‹_›;rfl
 have En:=a_ (λi (h1:at_+2<=i) (h2:C i=0\/35<=i)=>(show bn (gT F1 F0 i) s=bn F1 s from eS λj hj=>by
  unfold gT;split;rfl
  next q=>rcases h2 with h2|h2
          .exact hend i h1 h2 j e9 hj
          .omega))
 have Jr:=ag.refl hR;have Np:XO F0 s=XO (gT F1 F0 at_) s:=by unfold XO;rw[e0]
 have D0:=a_ (show ag [(b,XO F0 s)] [(b,XO (gT F1 F0 at_) s)] w w from Np▸Jr);have HC:=a_ (λg W i (h:Has [(b,XO g s)] W) (hi:i<35)=>(show W.cell? ⟨b,1+i,none⟩=some (.int .u64 (g i:Nat)) from an h.head (1+i) _ (by rw[us];exact lP hi)));have JE:=a_ (λi W (hi:i<35) (h:ag [(b,XO F0 s)] [(b,.cells ((bn (gT F1 F0 i) s).toArray.setIfInBounds (1+i) (.int .u64 (F1 i:Nat))) 222 (0,0))] w W)=>(show ag [(b,XO F0 s)] [(b,XO (gT F1 F0 (i+1)) s)] w W from by rw[Dx hi,pJ] at h;exact h));obtain⟨a1,uy⟩:=kw (at_+1);obtain⟨a2,wX⟩:=kw (at_+2);rw[uy] at hA hB;rw[wX] at hB;have D1:=a_ D0.drew;have c0:=HC _ _ at_ D1.has e9;rw[jO] at c0;have f0:=br D1.has.head (1+at_);have i1:¬(at_:Int)<0:=e9;have i2:(at_:Int)<35:=e9;have i3:at_<35:=e9;have i4:¬(a1:Int)<0:=e9;have i5:(a1:Int)<35:=e9;have i6:a1<35:=e9;have s1:IntKind.i64.wrap ((at_:Int)+1)=(a1:Int):=kh;have s2:IntKind.i64.wrap ((at_:Int)+2)=(a2:Int):=kh;have Ha:=a_ (i9 uy wX);obtain⟨HI,QY⟩:=aO hI hC;clear hR e0 Np Jr uy wX hI hC hend h0 ks;go_enter func230,ntmps230;go_wp2;refine cE (S:=λW=>W.cell? ⟨b,1+at_,none⟩=some (.int .u64 (F0 at_:Nat))) 9 ol c0 (λhHeld=>?_);generalize w.drew=wd at *;refine ef 0 ?_;refine ef 1 ?_;refine ef 2 ?_;refine ef 3 ?_;refine ef 4 ?_;refine ef 5 ?_;refine ef 6 ?_;refine ef 8 ?_;refine ef 13 ?_;refine ef 14 ?_;refine Jl 7 ?_;simp only[aI];refine de jp rfl ol (λK hK=>?_);go_simp;refine hK _ _ ?_;clear hK K;try simp only[aI]
 refine iZ 10 ?_;refine iZ 11 ?_;refine iZ 12 ?_;refine iZ 15 ?_;simp only[aI];refine aY (i:=16) jp rfl (λK hK=>?_);go_simp;have D2:=a_ ((D1.set (1+at_) (.int .u64 (F1 at_:Nat))));refine hK _ _ ?_;clear hK K;try simp only[aI]
 refine aY (i:=17) jp rfl (λK hK=>?_);go_simp;refine hK _ _ ?_;clear hK K;try simp only[aI]
 refine W_ ol ?_ _;try simp only[aI]
 have D3:=a_ (JE at_ _ i3 D2);rw[Ha.out.1] at D3;clear D2 D1 c0 f0 hHeld hA;generalize wd.setCell ⟨b,1+at_,none⟩ (.int .u64 (F1 at_:Nat))=v1 at *;have D4:=a_ D3.drew;have c1:=HC _ _ a1 D4.has i6;rw[jO] at c1;have f1:=br D4.has.head (1+a1);go_wp2;refine cE (S:=λW=>W.cell? ⟨b,1+a1,none⟩=some (.int .u64 (F0 a1:Nat))) 12 ol c1 (λhHeld=>?_);generalize v1.drew=Tp at *;refine ef 0 ?_;refine ef 1 ?_;refine ef 2 ?_;refine ef 3 ?_;refine ef 4 ?_;refine ef 5 ?_;refine ef 6 ?_;refine ef 7 ?_;refine ef 8 ?_;refine ef 10 ?_;refine ef 11 ?_;refine ef 16 ?_;refine ef 17 ?_;refine Jl 9 ?_;simp only[aI];refine de jp rfl ol (λK hK=>?_);go_simp;refine hK _ _ ?_;clear hK K;try simp only[aI]
 refine iZ 13 ?_;refine iZ 14 ?_;refine iZ 15 ?_;refine iZ 18 ?_;simp only[aI];refine aY (i:=19) jp rfl (λK hK=>?_);go_simp;have D5:=a_ ((D4.set (1+a1) (.int .u64 (F1 a1:Nat))));refine hK _ _ ?_;clear hK K;try simp only[aI]
 refine aY (i:=20) jp rfl (λK hK=>?_);go_simp;refine hK _ _ ?_;clear hK K;try simp only[aI]
 refine W_ ol ?_ _;try simp only[aI]
 have D6:=a_ (JE a1 _ i6 D5);rw[show a1+1=a2 from by have:=Ha.out;omega] at D6;clear D5 D4 D3 c1 f1 hHeld hB;generalize Tp.setCell ⟨b,1+a1,none⟩ (.int .u64 (F1 a1:Nat))=v2 at *;go_wp2;clear s1 s2 i1 i2 i3 i4 i5 i6;go_loopw [8,9] (λcv iv wr=>∃i,cv=.int .u64 (C i:Nat)/\iv=.int .i64 i/\a2<=i/\i<=35/\ag [(b,XO F0 s)] [(b,XO (gT F1 F0 i) s)] w wr) (λ_ iv _=>35-(intOf iv).toNat);exact⟨a2,rfl,rfl,bi _,by have:=Ha.out;omega,D6⟩;obtain⟨i,rfl,rfl,IJ,qw,hd⟩:=hrel;have zT:=QY i;have HE:=a_ (En i (by have:=Ha.out;omega));obtain⟨Hi,HD⟩:=aO IJ hd;by_cases hlt:i<35
 .have g1:decide ((i:Int)<35)=true:=kr;rcases (show C i=0\/C i=1 by omega) with hc|hc
  .rw[hc] at HE ⊢;clear hd zT IJ D6;go_wp2;go_end0;refine⟨rfl,?_⟩;have:=HD.out;unfold XO at this ⊢;rw[HE.out (by first|exact .inl rfl|exact .inl trivial)] at this;exact this
  have Gk:=HI i (by have:=Ha.out;omega);have D7:=a_ hd.drew;have c0:=HC _ _ i D7.has hlt;rw[jO] at c0;have f0:=br D7.has.head (1+i);have i1:¬(i:Int)<0:=e9;have i2:(i:Int)<35:=e9;have s1:=eH ((i:Int)+1);rw[hc,show ((1:Nat):Int)=1 from rfl] at Gk;rw[hc];clear hd zT HE D6;go_wp2;refine cE (S:=λW=>W.cell? ⟨b,1+i,none⟩=some (.int .u64 (F0 i:Nat))) 9 ol c0 (λhHeld=>?_);generalize wr.drew=Ts at *;refine ef 0 ?_;refine ef 1 ?_;refine ef 2 ?_;refine ef 3 ?_;refine ef 4 ?_;refine ef 5 ?_;refine ef 6 ?_;refine ef 8 ?_;refine ef 13 ?_;refine ef 14 ?_;refine Jl 7 ?_;simp only[aI];refine de jp rfl ol (λK hK=>?_);go_simp;refine hK _ _ ?_;clear hK K;(try simp only[aI]);refine iZ 10 ?_;refine iZ 11 ?_;refine iZ 12 ?_;refine iZ 15 ?_;simp only[aI];refine aY (i:=16) jp rfl (λK hK=>?_);go_simp;have D8:=a_ ((D7.set (1+i) (.int .u64 (F1 i:Nat))));refine hK _ _ ?_;clear hK K;(try simp only[aI]);refine aY (i:=17) jp rfl (λK hK=>?_);go_simp;refine hK _ _ ?_;clear hK K;(try simp only[aI]);refine W_ ol ?_ _;(try simp only[aI]);have D9:=a_ (JE i _ hlt D8);clear D7 D8 c0 f0 hHeld Gk;generalize Ts.setCell ⟨b,1+i,none⟩ (.int .u64 (F1 i:Nat))=w3 at *;go_wp2;go_roundw;exact⟨i+1,rfl,by go_num,by have:=Hi.out;omega,e9,D9⟩;simp[intOf];omega
 have g1:decide ((i:Int)<35)=false:=dP;clear hd zT IJ D6;go_wp2;go_end0;refine⟨rfl,?_⟩;have:=HD.out;unfold XO at this ⊢;rw[HE.out (.inr e9)] at this;exact this
def minusAt_g (F0 F1 C:Nat->Nat) (hR:At [(b,XO F0 s)] w) (jI:at_<=31) (h0:∀j,j<at_->F0 j=F1 j) (ks:C at_=0) (hC:∀i,C i<=1) (hA:∀W,(callFunc 282 #[.int .u64 (F0 at_:Nat),.int .u64 lo,.int .u64 0]).run prog W=.ok (.value (.tuple #[WB (F1 at_),WB (C (at_+1))])) W) (hB:∀W,(callFunc 282 #[.int .u64 (F0 (at_+1):Nat),.int .u64 hi,.int .u64 (C (at_+1):Nat)]).run prog W=.ok (.value (.tuple #[WB (F1 (at_+1)),WB (C (at_+2))])) W) (hI:∀i,at_+2<=i->∀W,(callFunc 282 #[.int .u64 (F0 i:Nat),.int .u64 0,.int .u64 (C i:Nat)]).run prog W=.ok (.value (.tuple #[WB (F1 i),WB (C (i+1))])) W) (hend:∀i,at_+2<=i->C i=0->∀j,i<=j->j<35->F0 j=F1 j): WR 229 #[Wz b,at_,.int .u64 lo,.int .u64 hi] w (.tuple #[]) λw'=>ag [(b,XO F0 s)] [(b,XO F1 s)] w w':=by
 have e0:bn F0 s=bn (gT F1 F0 at_) s:=eS λi hi=>by unfold gT;split;exact h0 i ‹_›;rfl
 have En:=a_ (λi (h1:at_+2<=i) (h2:C i=0\/35<=i)=>(show bn (gT F1 F0 i) s=bn F1 s from eS λj hj=>by
  unfold gT;split;rfl
  next q=>rcases h2 with h2|h2
          .exact hend i h1 h2 j e9 hj
          .omega))
 have Jr:=ag.refl hR;have Np:XO F0 s=XO (gT F1 F0 at_) s:=by unfold XO;rw[e0]
 have D0:=a_ (show ag [(b,XO F0 s)] [(b,XO (gT F1 F0 at_) s)] w w from Np▸Jr);have HC:=a_ (λg W i (h:Has [(b,XO g s)] W) (hi:i<35)=>(show W.cell? ⟨b,1+i,none⟩=some (.int .u64 (g i:Nat)) from an h.head (1+i) _ (by rw[us];exact lP hi)));have JE:=a_ (λi W (hi:i<35) (h:ag [(b,XO F0 s)] [(b,.cells ((bn (gT F1 F0 i) s).toArray.setIfInBounds (1+i) (.int .u64 (F1 i:Nat))) 222 (0,0))] w W)=>(show ag [(b,XO F0 s)] [(b,XO (gT F1 F0 (i+1)) s)] w W from by rw[Dx hi,pJ] at h;exact h));obtain⟨a1,uy⟩:=kw (at_+1);obtain⟨a2,wX⟩:=kw (at_+2);rw[uy] at hA hB;rw[wX] at hB;have D1:=a_ D0.drew;have c0:=HC _ _ at_ D1.has e9;rw[jO] at c0;have f0:=br D1.has.head (1+at_);have i1:¬(at_:Int)<0:=e9;have i2:(at_:Int)<35:=e9;have i3:at_<35:=e9;have i4:¬(a1:Int)<0:=e9;have i5:(a1:Int)<35:=e9;have i6:a1<35:=e9;have s1:IntKind.i64.wrap ((at_:Int)+1)=(a1:Int):=kh;have s2:IntKind.i64.wrap ((at_:Int)+2)=(a2:Int):=kh;have Ha:=a_ (i9 uy wX);obtain⟨HI,QY⟩:=aO hI hC;clear hR e0 Np Jr uy wX hI hC hend h0 ks;go_enter func229,ntmps229;go_wp2;refine cE (S:=λW=>W.cell? ⟨b,1+at_,none⟩=some (.int .u64 (F0 at_:Nat))) 9 ol c0 (λhHeld=>?_);generalize w.drew=wd at *;refine ef 0 ?_;refine ef 1 ?_;refine ef 2 ?_;refine ef 3 ?_;refine ef 4 ?_;refine ef 5 ?_;refine ef 6 ?_;refine ef 8 ?_;refine ef 13 ?_;refine ef 14 ?_;refine Jl 7 ?_;simp only[aI];refine de jp rfl ol (λK hK=>?_);go_simp;refine hK _ _ ?_;clear hK K;try simp only[aI]
 refine iZ 10 ?_;refine iZ 11 ?_;refine iZ 12 ?_;refine iZ 15 ?_;simp only[aI];refine aY (i:=16) jp rfl (λK hK=>?_);go_simp;have D2:=a_ ((D1.set (1+at_) (.int .u64 (F1 at_:Nat))));refine hK _ _ ?_;clear hK K;try simp only[aI]
 refine aY (i:=17) jp rfl (λK hK=>?_);go_simp;refine hK _ _ ?_;clear hK K;try simp only[aI]
 refine W_ ol ?_ _;try simp only[aI]
 have D3:=a_ (JE at_ _ i3 D2);rw[Ha.out.1] at D3;clear D2 D1 c0 f0 hHeld hA;generalize wd.setCell ⟨b,1+at_,none⟩ (.int .u64 (F1 at_:Nat))=v1 at *;have D4:=a_ D3.drew;have c1:=HC _ _ a1 D4.has i6;rw[jO] at c1;have f1:=br D4.has.head (1+a1);go_wp2;refine cE (S:=λW=>W.cell? ⟨b,1+a1,none⟩=some (.int .u64 (F0 a1:Nat))) 12 ol c1 (λhHeld=>?_);generalize v1.drew=Tp at *;refine ef 0 ?_;refine ef 1 ?_;refine ef 2 ?_;refine ef 3 ?_;refine ef 4 ?_;refine ef 5 ?_;refine ef 6 ?_;refine ef 7 ?_;refine ef 8 ?_;refine ef 10 ?_;refine ef 11 ?_;refine ef 16 ?_;refine ef 17 ?_;refine Jl 9 ?_;simp only[aI];refine de jp rfl ol (λK hK=>?_);go_simp;refine hK _ _ ?_;clear hK K;try simp only[aI]
 refine iZ 13 ?_;refine iZ 14 ?_;refine iZ 15 ?_;refine iZ 18 ?_;simp only[aI];refine aY (i:=19) jp rfl (λK hK=>?_);go_simp;have D5:=a_ ((D4.set (1+a1) (.int .u64 (F1 a1:Nat))));refine hK _ _ ?_;clear hK K;try simp only[aI]
 refine aY (i:=20) jp rfl (λK hK=>?_);go_simp;refine hK _ _ ?_;clear hK K;try simp only[aI]
 refine W_ ol ?_ _;try simp only[aI]
 have D6:=a_ (JE a1 _ i6 D5);rw[show a1+1=a2 from by have:=Ha.out;omega] at D6;clear D5 D4 D3 c1 f1 hHeld hB;generalize Tp.setCell ⟨b,1+a1,none⟩ (.int .u64 (F1 a1:Nat))=v2 at *;go_wp2;clear s1 s2 i1 i2 i3 i4 i5 i6;go_loopw [8,9] (λcv iv wr=>∃i,cv=.int .u64 (C i:Nat)/\iv=.int .i64 i/\a2<=i/\i<=35/\ag [(b,XO F0 s)] [(b,XO (gT F1 F0 i) s)] w wr) (λ_ iv _=>35-(intOf iv).toNat);exact⟨a2,rfl,rfl,bi _,by have:=Ha.out;omega,D6⟩;obtain⟨i,rfl,rfl,IJ,qw,hd⟩:=hrel;have zT:=QY i;have HE:=a_ (En i (by have:=Ha.out;omega));obtain⟨Hi,HD⟩:=aO IJ hd;by_cases hlt:i<35
 .have g1:decide ((i:Int)<35)=true:=kr;rcases (show C i=0\/C i=1 by omega) with hc|hc
  .rw[hc] at HE ⊢;clear hd zT IJ D6;go_wp2;go_end0;refine⟨rfl,?_⟩;have:=HD.out;unfold XO at this ⊢;rw[HE.out (by first|exact .inl rfl|exact .inl trivial)] at this;exact this
  have Gk:=HI i (by have:=Ha.out;omega);have D7:=a_ hd.drew;have c0:=HC _ _ i D7.has hlt;rw[jO] at c0;have f0:=br D7.has.head (1+i);have i1:¬(i:Int)<0:=e9;have i2:(i:Int)<35:=e9;have s1:=eH ((i:Int)+1);rw[hc,show ((1:Nat):Int)=1 from rfl] at Gk;rw[hc];clear hd zT HE D6;go_wp2;refine cE (S:=λW=>W.cell? ⟨b,1+i,none⟩=some (.int .u64 (F0 i:Nat))) 9 ol c0 (λhHeld=>?_);generalize wr.drew=Ts at *;refine ef 0 ?_;refine ef 1 ?_;refine ef 2 ?_;refine ef 3 ?_;refine ef 4 ?_;refine ef 5 ?_;refine ef 6 ?_;refine ef 8 ?_;refine ef 13 ?_;refine ef 14 ?_;refine Jl 7 ?_;simp only[aI];refine de jp rfl ol (λK hK=>?_);go_simp;refine hK _ _ ?_;clear hK K;(try simp only[aI]);refine iZ 10 ?_;refine iZ 11 ?_;refine iZ 12 ?_;refine iZ 15 ?_;simp only[aI];refine aY (i:=16) jp rfl (λK hK=>?_);go_simp;have D8:=a_ ((D7.set (1+i) (.int .u64 (F1 i:Nat))));refine hK _ _ ?_;clear hK K;(try simp only[aI]);refine aY (i:=17) jp rfl (λK hK=>?_);go_simp;refine hK _ _ ?_;clear hK K;(try simp only[aI]);refine W_ ol ?_ _;(try simp only[aI]);have D9:=a_ (JE i _ hlt D8);clear D7 D8 c0 f0 hHeld Gk;generalize Ts.setCell ⟨b,1+i,none⟩ (.int .u64 (F1 i:Nat))=w3 at *;go_wp2;go_roundw;exact⟨i+1,rfl,by go_num,by have:=Hi.out;omega,e9,D9⟩;simp[intOf];omega
 have g1:decide ((i:Int)<35)=false:=dP;clear hd zT IJ D6;go_wp2;go_end0;refine⟨rfl,?_⟩;have:=HD.out;unfold XO at this ⊢;rw[HE.out (.inr e9)] at this;exact this
def plusAt_x (hR:At [(b,XO (limb N) s)] w) (jI:at_<=31) (hlo:lo<bD) (xY:hi<bD): WR 230 #[Wz b,at_,.int .u64 lo,.int .u64 hi] w (.tuple #[]) λw'=>ag [(b,XO (limb N) s)] [(b,XO (limb (N+kx at_ lo hi)) s)] w w':=by
 have uz:mC N (kx at_ lo hi) at_=0:=kF (i:=at_) (λj hj=>lr hj) at_ (bi _);have key:∀i v,limb (kx at_ lo hi) i=v->∀W,(callFunc 231 #[.int .u64 (limb N i:Nat),.int .u64 v,.int .u64 (mC N (kx at_ lo hi) i:Nat)]).run prog W=.ok (.value (.tuple #[WB (limb (N+kx at_ lo hi) i),WB (mC N (kx at_ lo hi) (i+1))])) W:=λi v hv W=>by rw[yC _ _ _ (px _ _ _),gI,jf,hv]
 refine plusAt_g (limb N) (limb (N+kx at_ lo hi)) (mC N (kx at_ lo hi)) hR jI (λj hj=>?_) uz (px _ _) (λW=>?_) (λW=>key (at_+1) hi (xq hlo xY) W) (λi qw W=>?_) (λi h1 h2 j h3 h4=>?_);rw[gI,lr hj,kF (i:=at_) (λj hj=>lr hj) j e9,sc,wi (eD _ _)];have:=key at_ lo (DE hlo) W;rw[uz] at this;exact this;exact key i 0 (nj hlo xY qw) W;have:=sI (N:=N) (V:=kx at_ lo hi) h2 (λj hj=>nj hlo xY e9) (j-i);rw[show i+(j-i)=j by omega] at this;exact this.symm
def limb_wrap (N:Nat) {i:Nat} (h:i<35):limb (N+bD^35) i=limb N i:=by rw[<-sH (N+bD^35) h,Nat.add_mod_right,sH N h]
def minusAt_x (hR:At [(b,XO (limb N) s)] w) (jI:at_<=31) (hlo:lo<bD) (xY:hi<bD) (hV:kx at_ lo hi<=bD^35): WR 229 #[Wz b,at_,.int .u64 lo,.int .u64 hi] w (.tuple #[]) λw'=>ag [(b,XO (limb N) s)] [(b,XO (limb (N+(bD^35-kx at_ lo hi))) s)] w w':=by
 obtain⟨M,hM⟩:=kw (N+(bD^35-kx at_ lo hi));have hMV:M+kx at_ lo hi=N+bD^35:=e9;have e1:XO (limb N) s=XO (limb (M+kx at_ lo hi)) s:=by unfold XO;rw[eS (g':=limb (M+kx at_ lo hi)) λi hi=>by rw[hMV,limb_wrap N hi]]
 rw[hM,e1];rw[e1] at hR;have uz:mC M (kx at_ lo hi) at_=0:=kF (i:=at_) (λj hj=>lr hj) at_ (bi _);have key:∀i v,limb (kx at_ lo hi) i=v->∀W,(callFunc 282 #[.int .u64 (limb (M+kx at_ lo hi) i:Nat),.int .u64 v,.int .u64 (mC M (kx at_ lo hi) i:Nat)]).run prog W=.ok (.value (.tuple #[WB (limb M i),WB (mC M (kx at_ lo hi) (i+1))])) W:=λi v hv W=>by obtain⟨q1,q2⟩:=sub_word (x:=limb M i) (y:=v) (c:=mC M (kx at_ lo hi) i) (n:=limb (M+kx at_ lo hi) i) (eD _ _) (hv▸eD _ _) (px _ _ _) (by rw[gI,hv]);rw[run_subF _ _ _ (px _ _ _),jf,hv,<-q1,q2]
 refine minusAt_g (limb (M+kx at_ lo hi)) (limb M) (mC M (kx at_ lo hi)) hR jI (λj hj=>?_) uz (px _ _) (λW=>?_) (λW=>key (at_+1) hi (xq hlo xY) W) (λi qw W=>?_) (λi h1 h2 j h3 h4=>?_);rw[gI,lr hj,kF (i:=at_) (λj hj=>lr hj) j e9,sc,wi (eD _ _)];have:=key at_ lo (DE hlo) W;rw[uz] at this;exact this;exact key i 0 (nj hlo xY qw) W;have:=sI (N:=M) (V:=kx at_ lo hi) h2 (λj hj=>nj hlo xY e9) (j-i);rw[show i+(j-i)=j by omega] at this;exact this
end
variable {s:XS}{b x:Nat}{R:BL}{w w':World}
def manX_or (b:Nat):(b%4503599627370496) ||| 4503599627370496=b%4503599627370496+4503599627370496:=by have:=ae6 (i:=52) (b:=b%4503599627370496) (AC _ z9) 1;rw[w_] at this;rw[aj9,show (4503599627370496:Nat)=2^52 from rfl,<-this];omega
def number_x (hx:x<18446744073709551616) (hR:At [(b,XO (limb s.N) s)] w): WR 146 #[Wz b,.float .f64 x] w (.tuple #[]) λw'=>ag [(b,XO (limb s.N) s)] [(b,XO (limb (if iK x then s.N+(bD^35-ud x) else s.N+ud x)) s)] w w':=by
 have D0:=a_ (ag.refl hR);have e1:=vh x hx;have e2:=yL x hx;have HB:=a_ (λW=>dY x W);have HS:=a_ (λW=>uw x hx W);have Ay:=a_ (λW=>shift_any (wa x) (mE x) (Bv x) (vH x) W);have hel:=vH x;have HP:=a_ (λW (h:At [(b,XO (limb s.N) s)] W)=>plusAt_x (at_:=mE x/64) h e9 (Ag x) (zW x));have HM:=a_ (λW (h:At [(b,XO (limb s.N) s)] W)=>minusAt_x (at_:=mE x/64) h e9 (Ag x) (zW x) (valX_lt x));have e3:wa x*2^(mE x%64)%bD=Mg x:=rfl;have e4:wa x*2^(mE x%64)/bD=IK x:=rfl;rw[e3,e4] at Ay;have e5:kx (mE x/64) (Mg x) (IK x)=ud x:=rfl;rw[e5] at HP HM;obtain⟨mn,LV⟩:=kw (wa x);obtain⟨ex,hex⟩:=kw (mE x);rw[LV,hex] at Ay;rw[hex] at HP HM;unfold wa at LV;unfold mE at hex;have he0:x/4503599627370496%2048<2048:=AC _ z9;have nM:x%4503599627370496<4503599627370496:=AC _ z9;have IQ:=manX_or x;generalize x/4503599627370496%2048=e0 at *;generalize x%4503599627370496=fr at *;generalize Mg x=lo at *;generalize IK x=hi at *;generalize ud x=vl at *;clear e3 e4 e5 hR hel hx;have vO:bits BinOp.or IntKind.u64 (fr:Int) 4503599627370496=((fr+4503599627370496:Nat):Int):=by have q:=af6 fr 4503599627370496 e9 z9;rw[show (4503599627370496:Int)=((4503599627370496:Nat):Int) from rfl,q,IQ]
 cases hs:iK x;all_goals
  rw[hs] at HS;simp only[D_,Y',QQ];by_cases h0:e0=0
  .subst h0;rw[b9 rfl,sc] at LV;obtain rfl:fr=mn:=LV;obtain rfl:ex=0:=e9;go_enter func146,ntmps146;go_wp2_with (first| (go_at_call 44;refine (HB _).kq ?_;rintro w1 rfl)| (go_at_call 228;refine (Ay _).kg D0.grow λw2 D2=>?_)| (go_at_call 145;refine (HS _).kq ?_;rintro w3 rfl)| (go_at_call 230;refine (HP _ D2.at_).kq λw4 d4=>?_;have D4:=a_ (D2.trans d4);clear d4)| (go_at_call 229;refine (HM _ D2.at_).kq λw4 d4=>?_;have D4:=a_ (D2.trans d4);clear d4));go_end0;exact⟨rfl,D4⟩
  rw[b_ h0] at LV;have g1:decide ((e0:Int)>0)=true:=kr;have g2:(0:Int)<e0:=e9;have g3:0<e0:=e9;have s1:IntKind.i64.wrap ((e0:Int)-1)=(ex:Int):=kh;have s2:IntKind.i64.wrap (e0:Int)=e0:=i_ _ e9;rw[LV] at vO;go_enter func146,ntmps146;go_wp2_with (first| (go_at_call 44;refine (HB _).kq ?_;rintro w1 rfl)| (go_at_call 228;refine (Ay _).kg D0.grow λw2 D2=>?_)| (go_at_call 145;refine (HS _).kq ?_;rintro w3 rfl)| (go_at_call 230;refine (HP _ D2.at_).kq λw4 d4=>?_;have D4:=a_ (D2.trans d4);clear d4)| (go_at_call 229;refine (HM _ D2.at_).kq λw4 d4=>?_;have D4:=a_ (D2.trans d4);clear d4));go_end0;exact⟨rfl,D4⟩
def xnew_x (w:World):WA 67 #[] w λe w'=>∃b,e=.returned (Wz b)/\ag [] [(b,XO (limb XS.new.N) XS.new)] w w':=by have e0:bn (limb XS.new.N) XS.new=bn (λ_=>0) XS.new:=eS λi hi=>pH (cz i);have D0:=a_ ((ag.refl (At.nil (w:=w))).box (bn (limb XS.new.N) XS.new).toArray 222);rw[e0] at D0;rw[show XO (limb XS.new.N) XS.new=XO (λ_=>0) XS.new from by unfold XO;rw[e0]];clear e0;go_enter func67,ntmps67;go_wp2;go_ret;exact⟨_,rfl,D0⟩
def xc0 (g:Nat->Nat) (s:XS):(bn g s)[0]?=some (.bool true):=rfl
def xc36 (g:Nat->Nat) (s:XS):(bn g s)[36]?=some (.bool s.nan):=rfl
def xc37 (g:Nat->Nat) (s:XS):(bn g s)[37]?=some (.bool s.plus):=rfl
def xc38 (g:Nat->Nat) (s:XS):(bn g s)[38]?=some (.bool s.minus):=rfl
def xc39 (g:Nat->Nat) (s:XS):(bn g s)[39]?=some (.int .i64 s.count):=rfl
def xc40 (g:Nat->Nat) (s:XS):(bn g s)[40]?=some (.int .i64 s.cI):=rfl
def xs36 (g:Nat->Nat) (s:XS) (v:Bool):(bn g s).toArray.setIfInBounds 36 (.bool v)=(bn g {s with nan:=v}).toArray:=rfl
def Pj (g:Nat->Nat) (s:XS) (v:Bool):(bn g s).toArray.setIfInBounds 37 (.bool v)=(bn g {s with plus:=v}).toArray:=rfl
def Pk (g:Nat->Nat) (s:XS) (v:Bool):(bn g s).toArray.setIfInBounds 38 (.bool v)=(bn g {s with minus:=v}).toArray:=rfl
def xs39 (g:Nat->Nat) (s:XS) (v:Nat):(bn g s).toArray.setIfInBounds 39 (.int .i64 v)=(bn g {s with count:=v}).toArray:=rfl
def xs40 (g:Nat->Nat) (s:XS) (v:Nat):(bn g s).toArray.setIfInBounds 40 (.int .i64 v)=(bn g {s with cI:=v}).toArray:=rfl
def kind3 {x:Nat} (hx:x<18446744073709551616) (h:fQ x=3):(x=9218868437227405312/\iK x=false)\/(x=18442240474082181120/\iK x=true):=by unfold fQ at h;unfold iK;rw[l_,Do];split at h;split at h;omega;cases h;split at h;split at h<;>cases h;cases h
def kf {g:Nat->Nat} {s:XS} (h:w.heap[b]?=some (XO g s)):w.cell? ⟨b,0,none⟩=some (.bool true)/\w.cell? ⟨b,36,none⟩=some (.bool s.nan)/\w.cell? ⟨b,37,none⟩=some (.bool s.plus)/\w.cell? ⟨b,38,none⟩=some (.bool s.minus)/\w.cell? ⟨b,39,none⟩=some (.int .i64 s.count)/\w.cell? ⟨b,40,none⟩=some (.int .i64 s.cI):=⟨an h 0 _ (by rw[us];exact xc0 g s),an h 36 _ (by rw[us];exact xc36 g s),an h 37 _ (by rw[us];exact xc37 g s),an h 38 _ (by rw[us];exact xc38 g s),an h 39 _ (by rw[us];exact xc39 g s),an h 40 _ (by rw[us];exact xc40 g s)⟩
def add_x (hx:x<18446744073709551616) (hc:s.count<=1000000000/\s.cI<=1000000000) (hR:At [(b,XO (limb s.N) s)] w): WR 69 #[Wz b,.float .f64 x] w (.tuple #[]) λw'=>ag [(b,XO (limb s.N) s)] [(b,XO (limb (fH s x).N) (fH s x))] w w':=by
 have D0:=a_ (ag.refl hR);obtain⟨c0,-,-,-,Se,-⟩:=kf hR.1.head;have f39:=br hR.1.head 39;have HK:=a_ (λW=>fkind_any x hx W);have HS:=a_ (λW=>uw x hx W);have s1:IntKind.i64.wrap ((s.count:Int)+1)=((s.count+1:Nat):Int):=kh;have s2:IntKind.i64.wrap ((s.cI:Int)+1)=((s.cI+1:Nat):Int):=kh;have D1:=a_ (show ag [(b,XO (limb s.N) s)] [(b,XO (limb s.N) {s with count:=s.count+1})] w (w.setCell ⟨b,39,none⟩ (.int .i64 (s.count+1:Nat))) from by have:=D0.set 39 (s.count+1:Nat);rw[xs39] at this;exact this);have HNU:=a_ (λW (h:At [(b,XO (limb s.N) {s with count:=s.count+1})] W)=>number_x (s:={s with count:=s.count+1}) hx h);obtain⟨sA,EB⟩:=kw (fH s x);rw[EB];generalize uz:s.count+1=cn at *;go_enter func69,ntmps69;go_upto_region 4 with (go_at_call 144;refine (HK _).kq ?_;rintro w1 rfl);generalize w.setCell ⟨b,39,none⟩ (.int .i64 (cn:Nat))=w2 at *;obtain⟨-,Ng,JX,Nh,-,Ni⟩:=kf D1.has.head;have Ng:w2.cell? ⟨b,36,none⟩=some (.bool s.nan):=Ng;have JX:w2.cell? ⟨b,37,none⟩=some (.bool s.plus):=JX;have Nh:w2.cell? ⟨b,38,none⟩=some (.bool s.minus):=Nh;have Ni:w2.cell? ⟨b,40,none⟩=some (.int .i64 s.cI):=Ni;have f36:=br D1.has.head 36;have f37:=br D1.has.head 37;have f38:=br D1.has.head 38;have f40:=br D1.has.head 40;by_cases k4:fQ x=4
 .have eA:fH s x={s with count:=cn,nan:=true}:=(by unfold fH;rw[k4,uz];cases s.nan<;>cases s.plus<;>cases s.minus<;>rfl);rw[k4];have D2:=a_ (show ag [(b,XO (limb s.N) s)] [(b,XO (limb s.N) {s with count:=cn,nan:=true})] w (w2.setCell ⟨b,36,none⟩ (.bool true)) from by have:=D1.set 36 true;rw[xs36] at this;exact this);go_wp2;go_end0;rw[<-EB,eA];exact⟨rfl,D2⟩
 by_cases k3:fQ x=3
 .rcases kind3 hx k3 with⟨rfl,sg⟩|⟨rfl,sg⟩
  .have o1:FloatKind.f64.format.order 9218868437227405312 0=some .gt:=jp;have eA:fH s 9218868437227405312={s with count:=cn,plus:=true}:=(by unfold fH;rw[k3,uz,sg];cases s.nan<;>cases s.plus<;>cases s.minus<;>rfl);rw[k3];have D2:=a_ (show ag [(b,XO (limb s.N) s)] [(b,XO (limb s.N) {s with count:=cn,plus:=true})] w (w2.setCell ⟨b,37,none⟩ (.bool true)) from by have:=D1.set 37 true;rw[Pj] at this;exact this);generalize oP:w2.setCell ⟨b,37,none⟩ (.bool true)=w3 at *;obtain⟨-,-,-,d38,-,-⟩:=kf D2.has.head;have d38:w3.cell? ⟨b,38,none⟩=some (.bool s.minus):=d38;have g38:=br D2.has.head 38;have D3:=a_ (show ag [(b,XO (limb s.N) s)] [(b,XO (limb s.N) {s with count:=cn,plus:=true})] w (w3.setCell ⟨b,38,none⟩ (.bool s.minus)) from by have:=D2.set 38 (.bool s.minus);rw[Pk] at this;exact this);cases hp:s.plus<;>cases hm:s.minus;all_goals
    rw[hp] at JX;rw[hm] at d38 D3;go_wp2;go_end0;rw[<-EB,eA,hm];exact⟨rfl,D3⟩
  have o1:FloatKind.f64.format.order 18442240474082181120 0=some .lt:=jp;have eA:fH s 18442240474082181120={s with count:=cn,minus:=true}:=(by unfold fH;rw[k3,uz,sg];cases s.nan<;>cases s.plus<;>cases s.minus<;>rfl);rw[k3];have D2:=a_ (show ag [(b,XO (limb s.N) s)] [(b,XO (limb s.N) {s with count:=cn})] w (w2.setCell ⟨b,37,none⟩ (.bool s.plus)) from by have:=D1.set 37 (.bool s.plus);rw[Pj] at this;exact this);generalize oP:w2.setCell ⟨b,37,none⟩ (.bool s.plus)=w3 at *;obtain⟨-,-,-,d38,-,-⟩:=kf D2.has.head;have d38:w3.cell? ⟨b,38,none⟩=some (.bool s.minus):=d38;have g38:=br D2.has.head 38;have D3:=a_ (show ag [(b,XO (limb s.N) s)] [(b,XO (limb s.N) {s with count:=cn,minus:=true})] w (w3.setCell ⟨b,38,none⟩ (.bool true)) from by have:=D2.set 38 true;rw[Pk] at this;exact this);cases hp:s.plus<;>cases hm:s.minus;all_goals
   rw[hp] at JX oP;rw[hm] at d38;go_wp2;go_end0;rw[<-EB,eA];exact⟨rfl,D3⟩
 by_cases k0:fQ x=0
 .have eA:fH s x={s with count:=cn,cI:=s.cI+if iK x then 1 else 0}:=(by unfold fH;rw[k0,uz];cases iK x<;>cases s.nan<;>cases s.plus<;>cases s.minus<;>rfl);rw[k0];cases hs:iK x
  .rw[hs] at HS;go_wp2_with (go_at_call 145;refine (HS _).kq ?_;rintro w3 rfl);go_end0;rw[<-EB,eA,hs];exact⟨rfl,D1⟩
  rw[hs] at HS;have D2:=a_ (show ag [(b,XO (limb s.N) s)] [(b,XO (limb s.N) {s with count:=cn,cI:=s.cI+1})] w (w2.setCell ⟨b,40,none⟩ (.int .i64 (s.cI+1:Nat))) from by have:=D1.set 40 (s.cI+1:Nat);rw[xs40] at this;exact this);generalize hzn:s.cI+1=zn at *;go_wp2_with (go_at_call 145;refine (HS _).kq ?_;rintro w3 rfl);go_end0;rw[<-EB,eA,hs,b9 rfl,hzn];exact⟨rfl,D2⟩
 have Qy:fQ x=1\/fQ x=2:=by
  unfold fQ at *;split at k4
  .split at k4
   .next h1 h2=>rw[b9 h1,b9 h2] at k3;exact absurd rfl k3
   exact absurd rfl k4
  next h1=>
  rw[b_ h1] at k0 ⊢;split
  .next h2=>
   rw[b9 h2] at k0;split
   .next h3=>rw[b9 h3] at k0;exact absurd rfl k0
   exact .inl rfl
  exact .inr rfl
 have eA:fH s x={s with count:=cn,N:=if iK x then s.N+(bD^35-ud x) else s.N+ud x}:=by unfold fH;have z:(if fQ x=0/\iK x=true then 1 else 0)=0:=b_ (λq=>k0 q.1);rw[b9 Qy,uz,z,sc,show (fQ x==4)=false from by rw[n_];exact k4,show (fQ x==3)=false from by rw[n_];exact k3];cases s.nan<;>cases s.plus<;>cases s.minus<;>rfl
 rcases Qy with k|k;all_goals
  rw[k];go_wp2_with (go_at_call 146;refine (HNU _ D1.at_).kq λw3 d3=>?_;have D3:=a_ (D1.trans d3);clear d3);go_end0;rw[<-EB,eA];exact⟨rfl,D3⟩
end
open Go.Sort
section
attribute [local go_sem] Oper.semAt_some
def bt (g:Nat->Nat):Array Value:= #[.int .u64 (g 0:Nat),.int .u64 (g 1:Nat),.int .u64 (g 2:Nat),.int .u64 (g 3:Nat),.int .u64 (g 4:Nat),.int .u64 (g 5:Nat),.int .u64 (g 6:Nat),.int .u64 (g 7:Nat),.int .u64 (g 8:Nat),.int .u64 (g 9:Nat),.int .u64 (g 10:Nat),.int .u64 (g 11:Nat),.int .u64 (g 12:Nat),.int .u64 (g 13:Nat),.int .u64 (g 14:Nat),.int .u64 (g 15:Nat),.int .u64 (g 16:Nat),.int .u64 (g 17:Nat),.int .u64 (g 18:Nat),.int .u64 (g 19:Nat),.int .u64 (g 20:Nat),.int .u64 (g 21:Nat),.int .u64 (g 22:Nat),.int .u64 (g 23:Nat),.int .u64 (g 24:Nat),.int .u64 (g 25:Nat),.int .u64 (g 26:Nat),.int .u64 (g 27:Nat),.int .u64 (g 28:Nat),.int .u64 (g 29:Nat),.int .u64 (g 30:Nat),.int .u64 (g 31:Nat),.int .u64 (g 32:Nat),.int .u64 (g 33:Nat),.int .u64 (g 34:Nat)]
def lq (g:Nat->Nat):bt g=((List.range 35).map λi=>Value.int .u64 (g i:Nat)).toArray:=rfl
variable {g g':Nat->Nat}{s:XS}{b B at_:Nat}{R:BL}{w w':World}
def AI {i:Nat} (hi:i<35):(bt g)[i]?=some (.int .u64 (g i:Nat)):=by rw[lq,us,o_,GE hi];rfl
def arrL_congr (h:∀i,i<35->g i=g' i):bt g=bt g':=by rw[lq,lq];congr 1;apply s_;intro i hi;rw[h i (B_.1 hi)]
def arrL_set {i x:Nat} (hi:i<35):(bt g).setIfInBounds i (.int .u64 x)=bt (λj=>if j=i then x else g j):=by rw[lq,lq,q_];congr 1;apply E_;intro j;rw[I',o_,o_];by_cases hj:i=j;subst hj;rw[b9 rfl,GE hi];simp[hi];rw[b_ hj];by_cases hl:j<35;rw[GE hl,GW,GW,b_ (ac7 hj)];simp[Nat.le_of_not_lt hl]
def ir {W:World} (h:W.heap[B]?=some (.cells (bt g) 220 (0,0))) {i:Nat} (hi:i<35):W.cell? ⟨B,i,none⟩=some (.int .u64 (g i:Nat)):=an h i _ (AI hi)
def qi {x:Nat} (hx:x<18446744073709551616):Lib.bitLen x<=64:=by rw[<-mA x hx 64 hx];exact vZ _ _
def length_x (hg:∀i,g i<18446744073709551616) (w:World):WR 232 #[.agg (bt g)] w (kR g 35:Nat) λw'=>Below w.heap.size w w':=by
 have D0:=a_ ((ag.refl (At.nil (w:=w))).box (bt g) 220);have HC:=a_ (λW i (h:Has [(w.heap.size,.cells (bt g) 220 (0,0))] W) (hi:i<35)=>ir h.head hi);obtain⟨CL,Vd⟩:=kw (Obj.cells (bt g) 220 (0,0));rw[Vd] at HC D0;have QZ:=a_ D0;clear D0;have bu:(Value.agg (bt g)).cells=bt g:=rfl;go_enter func232,ntmps232;go_wp2;clear bu Vd;go_loopw [3] (λiv wr=>∃(k:Nat) (z:Int),iv=.int .i64 z/\z=(k:Int)-1/\k<=35/\kR g k=kR g 35/\ag [] [(w.heap.size,CL)] w wr) (λiv _=>(intOf iv+1).toNat);exact⟨35,34,rfl,z9,z9,rfl,QZ⟩;obtain⟨k,z,rfl,hz,hk,hl,hd⟩:=hrel;obtain⟨HD,HL⟩:=aO hd hl;cases k with
 |zero=>
  obtain rfl:z= -1:=e9;clear hd hl hz hg HC;go_wp2;go_ret;exact⟨by rw[<-HL.out];rfl,HD.below⟩
 |succ n=>
  obtain rfl:z=n:=e9;clear hz;have c0:=HC wr n hd.has e9;have i1:¬(n:Int)<0:=e9;have i2:(n:Int)<35:=e9;have i3:n<35:=e9;have i4:decide ((n:Int)>=0)=true:=kr;have s1:=eH ((n:Int)-1);by_cases h0:g n=0
  .rw[h0] at c0;clear hd hl;go_wp2;go_roundw;exact⟨n,(n:Int)-1,rfl,rfl,e9,by rw[<-HL.out,kR,b9 h0],HD⟩;simp[intOf]
  have hb:=hg n;have dX:=qi hb;have Ln:=a_ (λW=>uI (g n:Nat) W e9 e9);rw[f_] at Ln;have hx:64*n+Lib.bitLen (g n)=kR g 35:=(by rw[<-HL.out,kR,b_ h0]);have HX:=a_ hx;have g1:decide ((g n:Int)>0)=true:=kr;have g2:(0:Int)<g n:=e9;have g3:0<g n:=e9;have s2:=eH (64*(n:Int));have s3:IntKind.i64.wrap (64*(n:Int)+(Lib.bitLen (g n):Nat))=((kR g 35:Nat):Int):=kh;generalize Lib.bitLen (g n)=bl at *;clear hd hl hx;go_wp2_with (go_at_call 283;refine (Ln _).kq ?_;rintro w1 rfl);go_ret;exact⟨rfl,HD.below⟩
def from_x (hg:∀i,g i<18446744073709551616) (jI:at_<=2239) (w:World):WR 233 #[.agg (bt g),at_] w (WB (nG g at_)) λw'=>Below w.heap.size w w':=by
 have D0:=a_ ((ag.refl (At.nil (w:=w))).box (bt g) 220);obtain⟨q,hq⟩:=kw (at_/64);obtain⟨r,hr⟩:=kw (at_%64);have t1:(at_:Int).tdiv 64=q:=by rw[so e9,<-hq];rfl
 have t2:(at_:Int).tmod 64=r:=by rw[Fm e9,<-hr];rfl
 have t3:IntKind.i64.wrap (q:Int)=q:=i_ _ e9;have t4:IntKind.i64.wrap (r:Int)=r:=i_ _ e9;have kz:r<64:=e9;have Bi:q<35:=e9;have c0:=ir D0.has.head Bi;have i1:¬(q:Int)<0:=e9;have i2:(q:Int)<35:=e9;have Me:=hg q;obtain⟨x,hx⟩:=kw (g q);obtain⟨x1,uF⟩:=kw (x/2^r);have CD:x1<18446744073709551616:=by rw[<-uF];exact DW (rx _ _) (hx▸Me)
 have e1:(x:Int)/2^r=(x1:Int):=by rw[<-uF,ag1,ac1];rfl
 obtain⟨a1,uy⟩:=kw (q+1);have s1:IntKind.i64.wrap ((q:Int)+1)=(a1:Int):=kh;have kt:nG g at_=(x1 ||| (if a1<35 then g a1*2^(64-r)%bD else 0))%9007199254740992:=by unfold nG;rw[hq,hr,hx,uF,uy]
 rw[kt];rw[hx] at c0;by_cases hl:a1<35
 .rw[b9 hl];have c1:=ir D0.has.head hl;have j1:¬(a1:Int)<0:=e9;have j2:(a1:Int)<35:=e9;have j3:decide ((a1:Int)<35)=true:=rc j2;have hya:=hg a1;obtain⟨y,hy⟩:=kw (g a1);obtain⟨y1,oQ⟩:=kw (y*2^(64-r)%bD);rw[hy] at c1;rw[hy,oQ];have OL:y1<18446744073709551616:=(by rw[<-oQ];exact AC _ fJ);have e2:IntKind.u64.wrap ((y:Int)*2^(64-r))=(y1:Int):=(by rw[BM y (64-r),oQ]);have e3:bits BinOp.or IntKind.u64 (x1:Int) (y1:Int)=((x1 ||| y1:Nat):Int):=af6 x1 y1 CD OL;obtain⟨z,hz⟩:=kw (x1 ||| y1);have vS:z<18446744073709551616:=(by rw[<-hz];exact Nat.or_lt_two_pow (n:=64) CD OL);rw[hz] at e3 ⊢;have e4:bits BinOp.and IntKind.u64 (z:Int) 9007199254740991=((z%9007199254740992:Nat):Int):=lM z 53 9007199254740991 vS z9 z9;generalize z%9007199254740992=zz at *;have bu:(Value.agg (bt g)).cells=bt g:=rfl;clear hq hr hx uF uy kt hy oQ hz hg Me hya;go_enter func233,ntmps233;go_wp2;go_ret;exact⟨rfl,D0.below⟩
 rw[b_ hl,Nat.or_zero];have j3:decide ((a1:Int)<35)=false:=dP;have j4:¬(a1:Int)<35:=e9;have e4:bits BinOp.and IntKind.u64 (x1:Int) 9007199254740991=((x1%9007199254740992:Nat):Int):=lM x1 53 9007199254740991 CD z9 z9;generalize x1%9007199254740992=zz at *;have bu:(Value.agg (bt g)).cells=bt g:=rfl;clear hq hr hx uF uy kt hg Me;go_enter func233,ntmps233;go_wp2;go_ret;exact⟨rfl,D0.below⟩
def AH (g:Nat->Nat):∀n,zO g n=true↔∃i,i<n/\g i≠0
 |0=>⟨λh=>(by cases h),fun⟨i,h,_⟩=>e9⟩
 |n+1=>by rw[zO,ae3,AH g n,l_];constructor;rintro (⟨i,h,k⟩|h);exact⟨i,e9,k⟩;exact⟨n,e9,h⟩;rintro⟨i,h,k⟩;by_cases e:i=n;exact .inr (e▸k);exact .inl ⟨i,e9,k⟩
def below_x (hg:∀i,g i<18446744073709551616) (jI:at_<=2239) (w:World):WR 234 #[.agg (bt g),at_] w (.bool (mz g at_)) λw'=>Below w.heap.size w w':=by
 have D0:=a_ ((ag.refl (At.nil (w:=w))).box (bt g) 220);have HC:=a_ (λW i (h:Has [(w.heap.size,.cells (bt g) 220 (0,0))] W) (hi:i<35)=>ir h.head hi);obtain⟨q,hq⟩:=kw (at_/64);obtain⟨r,hr⟩:=kw (at_%64);have t1:(at_:Int).tdiv 64=q:=by rw[so e9,<-hq];rfl
 have t2:(at_:Int).tmod 64=r:=by rw[Fm e9,<-hr];rfl
 have t3:IntKind.i64.wrap (q:Int)=q:=i_ _ e9;have t4:IntKind.i64.wrap (r:Int)=r:=i_ _ e9;have kz:r<64:=e9;have Bi:q<35:=e9;have kt:mz g at_=(zO g q || (decide (g q*2^(63-r)%bD*2%bD≠0) && decide (r≠0))):=by unfold mz;rw[hq,hr]
 obtain⟨DD,pD⟩:=kw (mz g at_);rw[pD];rw[pD] at kt;obtain⟨HF,HG⟩:=aO kt hg;have bu:(Value.agg (bt g)).cells=bt g:=rfl;clear hq hr kt pD hg;go_enter func234,ntmps234;go_wp2;clear bu;go_loopw [8] (λiv wr=>∃(k:Nat),iv=.int .i64 k/\k<=q/\zO g k=false/\ag [] [(w.heap.size,.cells (bt g) 220 (0,0))] w wr) (λiv _=>q-(intOf iv).toNat);exact⟨0,rfl,lc _,rfl,D0⟩;obtain⟨k,rfl,hk,hl,hd⟩:=hrel;obtain⟨HD,HL⟩:=aO hd hl;by_cases hlt:k<q
 .have c0:=HC wr k hd.has e9;have i1:¬(k:Int)<0:=e9;have i2:(k:Int)<35:=e9;have i4:decide ((k:Int)<q)=true:=kr;have i5:(k:Int)<q:=e9;have s1:=eH ((k:Int)+1);by_cases h0:g k=0
  .have H0:=a_ h0;rw[h0] at c0;clear hd hl h0;go_wp2;go_roundw;exact⟨k+1,by go_num,e9,by rw[zO,HL.out,H0.out];rfl,HD⟩;simp[intOf];omega
  have g2:(0:Int)<g k:=e9;have g3:0<g k:=e9;have H0:=a_ h0;clear hd hl h0;go_wp2;go_ret;refine⟨?_,HD.below⟩;rw[HF.out,(AH g q).2 ⟨k,hlt,H0.out⟩];rfl
 obtain rfl:k=q:=e9;have c0:=HC wr k hd.has Bi;have i1:¬(k:Int)<0:=e9;have i2:(k:Int)<35:=e9;have kt:=HF.out;rw[hl,ac0] at kt;obtain⟨x,hx⟩:=kw (g k);obtain⟨y1,oQ⟩:=kw (x*2^(63-r)%bD);obtain⟨y2,sC⟩:=kw (y1*2%bD);rw[hx] at c0;rw[hx,oQ,sC] at kt;have e1:IntKind.u64.wrap ((x:Int)*2^(63-r))=(y1:Int):=by rw[BM x (63-r),oQ]
 have e2:IntKind.u64.wrap ((y1:Int)*2)=(y2:Int):=by have:=BM y1 1;rw[Nat.pow_one,sC] at this;rw[<-this];rfl
 have qL:=a_ kt;clear hd hl hx oQ sC kt hlt;by_cases sB:y2=0
 .subst sB;go_wp2;go_ret;exact⟨by rw[qL.out];rfl,HD.below⟩
 have g2:(0:Int)<y2:=e9;have g3:0<y2:=e9;have HY:=a_ sB;clear sB;by_cases tO:r=0
 .subst tO;have e3:IntKind.u64.wrap ((x:Int)*9223372036854775808)=(y1:Int):=e1;clear e1;go_wp2;go_ret;exact⟨by rw[qL.out,rc HY.out];rfl,HD.below⟩
 have g4:(0:Int)<r:=e9;have g5:0<r:=e9;have HR:=a_ tO;clear tO;go_wp2;go_ret;exact⟨by rw[qL.out,rc HY.out,rc HR.out];rfl,HD.below⟩
def Bq (hg:∀i,g i<18446744073709551616):∀n,kR g n<=64*n
 |0=>bi _
 |n+1=>by have h1:=Bq hg n;have h2:=qi (hg n);rw[kR];split<;>omega
def rounded_x (hg:∀i,g i<18446744073709551616) (w:World):WR 149 #[.agg (bt g)] w (WB (yA g)) λw'=>Below w.heap.size w w':=by
 have D0:=a_ ((ag.refl (At.nil (w:=w))).box (bt g) 220);have Gy:=Bq hg 35;obtain⟨L,hL⟩:=kw (kR g 35);have TK:=a_ (λW=>length_x hg W);rw[hL] at TK Gy;obtain⟨at_,jI⟩:=kw (L-53);have hfrl:nG g at_<9007199254740992:=AC _ z9;have mT:=a_ (λW=>from_x (at_:=at_) hg e9 W);have Lg:=a_ (λW=>below_x (at_:=at_-1) hg e9 W);have OA:yA g=min (at_*4503599627370496+nG g at_+if 0<at_/\se g (at_-1)=true/\(nG g at_%2=1\/mz g (at_-1)=true) then 1 else 0) 9218868437227405312:=by unfold yA;rw[hL,jI]
 obtain⟨rr,hr⟩:=kw (yA g);rw[hr] at OA ⊢;obtain⟨fm,Vw⟩:=kw (nG g at_);rw[Vw] at OA hfrl mT;obtain⟨bw,zu⟩:=kw (mz g (at_-1));rw[zu] at OA Lg;obtain⟨ME,HG⟩:=aO OA hg;have s1a:=eH ((L:Int)-53);have s1b:max ((L:Int)-53) 0=(at_:Int):=e9;obtain⟨ab,hab⟩:=kw (at_*4503599627370496);have s2:IntKind.u64.wrap ((at_:Int)*4503599627370496)=(ab:Int):=by rw[U_];omega
 have s0:IntKind.u64.wrap (at_:Int)=(at_:Int):=by rw[U_];omega
 have s3:IntKind.u64.wrap ((ab:Int)+fm)=((ab+fm:Nat):Int):=by rw[U_];omega
 have qu:ab+fm<18446744073709551615:=e9;have Ml:=a_ (i9 jI Gy);obtain⟨b0,hb0⟩:=kw (ab+fm);rw[hb0] at s3 qu;have wS:=a_ (i9 hab hb0);have bu:(Value.agg (bt g)).cells=bt g:=rfl;clear OA hL jI hr Vw zu hab hb0 hg Gy;go_enter func149,ntmps149;go_upto_region 1 with fail;clear bu;refine UV ?_;refine tr (λK hK=>?_);rw[b9 ol];refine ag4 220 (.tmp 1) rfl w.heap.size rfl 220 (bt g) (0,0) _ D0.has.head underlying220 rfl ol ?_;refine hK _ _ ?_;clear hK K;try simp only[aI]
 go_upto_region 2 with (go_at_call 232;refine (TK _).kg D0.grow λw1 D1=>?_);refine UV ?_;refine tr (λK hK=>?_);rw[b9 ol];refine ag4 220 (.tmp 1) rfl w.heap.size rfl 220 (bt g) (0,0) _ D1.has.head underlying220 rfl ol ?_;refine hK _ _ ?_;clear hK K;try simp only[aI]
 go_upto_region 4 with (go_at_call 233;refine (mT _).kg D1.grow λw2 D2=>?_);rcases x' at_ with h0|h0
 .subst h0;have kP:min (b0:Int) 9218868437227405312=(rr:Int):=(by have h1:=ME.out;rw[b_ (λq=>absurd q.1 z9),sc,wS.out.1,wS.out.2] at h1;omega);go_wp2;go_ret;exact⟨rfl,D2.below⟩
 obtain⟨a1,uy⟩:=kw (at_-1);have g0:(0:Int)<at_:=e9;have hal:at_<=2187:=by have:=Ml.out;omega
 rw[uy] at Lg;have ug:=a_ (show rr=min (b0+if se g a1=true/\(fm%2=1\/bw=true) then 1 else 0) 9218868437227405312 from by have h1:=ME.out;rw[wS.out.1,wS.out.2,uy] at h1;rw[h1];simp only[h0,true_and]);have s4:IntKind.i64.wrap ((at_:Int)-1)=(a1:Int):=kh;obtain⟨q,hq⟩:=kw (a1/64);obtain⟨r,hr⟩:=kw (a1%64);have t1:(a1:Int).tdiv 64=q:=by rw[so e9,<-hq];rfl
 have t2:(a1:Int).tmod 64=r:=by rw[Fm e9,<-hr];rfl
 have t3:IntKind.i64.wrap (q:Int)=q:=i_ _ e9;have t4:IntKind.i64.wrap (r:Int)=r:=i_ _ e9;have Bi:q<35:=e9;have kz:r<64:=e9;have c0:=ir D2.has.head Bi;have i1:¬(q:Int)<0:=e9;have i2:(q:Int)<35:=e9;have i3:¬(r:Int)<0:=e9;have Me:=HG q;obtain⟨x,hx⟩:=kw (g q);obtain⟨x1,uF⟩:=kw (x/2^r);have CD:x1<18446744073709551616:=by rw[<-uF];exact DW (rx _ _) (hx▸Me)
 have e1:(x:Int)/2^r=(x1:Int):=by rw[<-uF,ag1,ac1];rfl
 have hh:se g a1=decide (x1%2=1):=by unfold se;rw[hq,hr,hx,uF]
 have e2:bits BinOp.and IntKind.u64 (x1:Int) 1=((x1%2:Nat):Int):=lM x1 1 1 CD z9 z9;have e3:bits BinOp.and IntKind.u64 (fm:Int) 1=((fm%2:Nat):Int):=lM fm 1 1 e9 z9 z9;rw[hx] at c0;have HH:=a_ hh;have tM:x1%2=0\/x1%2=1:=e9;have uC:fm%2=0\/fm%2=1:=e9;have xj:=a_ (show ∀z:Nat,z%2=0\/z%2=1 from λz=>e9);clear hq hr hx uF hh Me CD uy tM uC h0;have s5:IntKind.u64.wrap ((b0:Int)+1)=((b0+1:Nat):Int):=by rw[U_];omega
 rcases xj.out x1 with hz|hz
 .have Ms:=a_ (show se g a1=false from by rw[HH.out,hz];rfl);rw[hz,show ((0:Nat):Int)=0 from rfl] at e2;have kP:min (b0:Int) 9218868437227405312=(rr:Int):=(by have h1:=ug.out;rw[Ms.out,b_ (λq=>by cases q.1)] at h1;omega);clear hz;go_wp2;go_ret;exact⟨rfl,D2.below⟩
 have Ms:=a_ (show se g a1=true from by rw[HH.out,hz];rfl);rw[hz,show ((1:Nat):Int)=1 from rfl] at e2;clear hz;rcases xj.out fm with hz|hz
 .rw[hz,show ((0:Nat):Int)=0 from rfl] at e3;have HZ:=a_ hz;clear hz;go_upto_region 6 with fail;refine UV ?_;refine tr (λK hK=>?_);go_simp;refine hK _ _ ?_;clear hK K;(try simp only[aI]);refine tr (λK hK=>?_);go_simp;refine hK _ _ ?_;clear hK K;(try simp only[aI]);refine tr (λK hK=>?_);go_simp;refine hK _ _ ?_;clear hK K;(try simp only[aI]);refine tr (λK hK=>?_);go_simp;refine hK _ _ ?_;clear hK K;(try simp only[aI]);refine tr (λK hK=>?_);go_simp;refine hK _ _ ?_;clear hK K;(try simp only[aI]);refine tr (λK hK=>?_);go_simp;refine hK _ _ ?_;clear hK K;(try simp only[aI]);refine tr (λK hK=>?_);rw[b9 ol];refine ag4 220 (.tmp 1) rfl w.heap.size rfl 220 (bt g) (0,0) _ D2.has.head underlying220 rfl ol ?_;refine hK _ _ ?_;clear hK K;(try simp only[aI]);cases Cu:bw
  .have h1:=ug.out;rw[Cu] at Lg;rw[Ms.out,Cu,HZ.out,b_ (λq=>by rcases q.2 with q|q<;>cases q)] at h1;have kP:min (b0:Int) 9218868437227405312=(rr:Int):=e9;clear h1 Cu;go_wp2_with (go_at_call 234;refine (Lg _).kg D2.grow λw3 D3=>?_);go_ret;exact⟨rfl,D3.below⟩
  obtain⟨b1,bp⟩:=kw (b0+1);rw[bp] at s5;have h1:=ug.out;rw[Cu] at Lg;rw[Ms.out,Cu,b9 ⟨rfl,.inr rfl⟩,bp] at h1;have kP:min (b1:Int) 9218868437227405312=(rr:Int):=(by clear bp s5;omega);clear h1 Cu bp;go_wp2_with (go_at_call 234;refine (Lg _).kg D2.grow λw3 D3=>?_);go_ret;exact⟨rfl,D3.below⟩
 rw[hz,show ((1:Nat):Int)=1 from rfl] at e3;obtain⟨b1,bp⟩:=kw (b0+1);rw[bp] at s5;have h1:=ug.out;rw[Ms.out,b9 ⟨rfl,.inl hz⟩,bp] at h1;have kP:min (b1:Int) 9218868437227405312=(rr:Int):=by clear bp s5;omega
 clear h1;clear hz bp;go_wp2;go_ret;exact⟨rfl,D2.below⟩
section
variable {N M i:Nat}
def uK {i:Nat} (hi:i<35):limb (bD^35-1) i=bD-1:=by
 obtain⟨d,hd⟩:∃d,35=i+(d+1):=⟨34-i,e9⟩;have hp:=cz i;have hq:=cz (d+1);have e:bD^35-1=(bD^i-1)+bD^i*(bD^(d+1)-1):=by rw[hd,ak3,Nat.mul_sub,w_];have:bD^i<=bD^i*bD^(d+1):=G_ _ hq;omega
 unfold limb;rw[e,ah5 _ _ hp,LE e9,C'];have h2:=cz d;have e2:bD^(d+1)-1=(bD-1)+bD*(bD^d-1):=by rw[ST,Nat.mul_sub,w_,GP];have:bD<=bD*bD^d:=G_ _ h2;have:=fJ;omega
 rw[e2,Nat.add_mul_mod_self_left,wi];have:=fJ;omega
def compl_aux (h:N+M=bD^35-1):∀i,i<=35->mC N M i=0/\(i<35->limb N i+limb M i=bD-1):=by
 intro i;induction i with
 |zero=>
  intro _;refine⟨ny _ _,λhi=>?_⟩;have h1:=gI N M 0;rw[h,uK hi,ny,sc] at h1;have:=eD N 0;have:=eD M 0;rw[gN] at *;omega
 |succ i ih=>
  intro hi;obtain⟨h1,h2⟩:=ih e9;have h3:=h2 e9;have hc:mC N M (i+1)=0:=(by rw[jf,h1,h3,sc];exact LE (by have:=fJ;omega));refine⟨hc,λqw=>?_⟩;have h4:=gI N M (i+1);rw[h,uK qw,hc,sc] at h4;have:=eD N (i+1);have:=eD M (i+1);rw[gN] at *;omega
def Cm (N:Nat):Nat:=bD^35-1-N%bD^35
def limb_cpl {i:Nat} (hi:i<35):limb (Cm N) i=18446744073709551615-limb N i:=by have hl:=AC N (cz 35);have h:=(compl_aux (N:=N%bD^35) (M:=Cm N) (by unfold Cm;generalize bD^35=Z at *;omega) i e9).2 hi;rw[sH N hi] at h;rw[gN] at h;omega
def absX_neg (h:wm N=true):lR N=Cm N+1:=by unfold lR Cm;rw[b9 h];have hl:=AC N (cz 35);omega
def limb_one {i:Nat}:limb 1 i=if i=0 then 1 else 0:=by
 split
 .next h=>
  subst h;unfold limb;rw[Nat.pow_zero,Nat.div_one];rfl
 next h=>
 refine pH ?_;have:bD^1<=bD^i:=pl fJ e9;have h2:1<bD^1:=by rw[Nat.pow_one,gN];decide
 omega
end
variable {X:Nat}{K R0:BL}{w0:World}
def ag.row {cs cs':Array Value} {ty:TypeId} (h:ag R0 ((X,.cells cs ty (0,0))::K) w0 w) (hs:cs.size=cs'.size):ag R0 ((X,.cells cs' ty (0,0))::K) w0 (w.setRow X cs'):=by refine h.turn ⟨rfl,rfl,rfl,by simp[World.setRow],λk hk hn=>?_⟩ (setRow_heap w X cs cs' ty (0,0) h.has.head);simp only[World.setRow,Array.getElem?_modify];rw[b_ (λe=>hn e.symm)]
def ni:(bt g).all (·.oneCell')=true:=by rw[Array.all_eq_true_iff_forall_mem];intro x hx;rw[lq] at hx;simp only[List.mem_toArray,mt] at hx;obtain⟨i,-,rfl⟩:=hx;rfl
def sum_range {N:Nat} (h:w.heap[b]?=some (XO (limb N) s)):w.rangeAt b 1 (bt (limb N)).toList:=λj v hv=>by
 have hj:j<35:=by have h1:j<(bt (limb N)).toList.length:=(LT.1 hv).1;exact h1
 have:v=.int .u64 (limb N j:Nat):=by have h2:(bt (limb N))[j]?=some v:=(by simpa using hv);rw[AI hj] at h2;cases h2;rfl
 rw[this];exact an h (1+j) _ (by rw[us];exact lP hj)
def size_x (hR:At [(b,XO (limb s.N) s)] w): WR 148 #[Wz b] w (.tuple #[.agg (bt (limb (lR s.N))),.bool (wm s.N)]) λw'=>Below w.heap.size w w':=by
 have D0:=a_ ((ag.refl hR).box (bt λ_=>0) 220);obtain⟨B,hB⟩:=kw w.heap.size;obtain⟨AX,Sm⟩:=kw (lR s.N);obtain⟨NX,Sv⟩:=kw (wm s.N);rw[Sm,Sv];obtain⟨Ps,Fv⟩:=aO Sm Sv;clear Sm Sv;go_enter func148,ntmps148;go_upto_region 1 with fail;generalize kA:w.alloc _=w1;have D1:=a_ (show ag [(b,XO (limb s.N) s)] [(B,.cells (bt λ_=>0) 220 (0,0)),(b,XO (limb s.N) s)] w w1 from by rw[<-kA,<-hB];exact D0);clear D0 kA;refine UV ?_;refine tr (λK hK=>?_);go_simp;refine hK _ _ ?_;clear hK K;try simp only[aI]
 refine tr (λK hK=>?_);go_simp;refine hK _ _ ?_;clear hK K;try simp only[aI]
 refine tr (λK hK=>?_);go_simp;refine hK _ _ ?_;clear hK K;try simp only[aI]
 refine tr (λK hK=>?_);rw[b9 ol];refine wp_load_mid 220 (.tmp 9) rfl b 1 rfl ((bt (limb s.N))).toList _ (sum_range D1.has.tail.head) underlying220 rfl ol ?_;refine hK _ _ ?_;clear hK K;try simp only[aI]
 rw[show ((bt (limb s.N))).toList.toArray=(bt (limb s.N)) from rfl];obtain⟨B4,wV⟩:=kw w1.heap.size;refine tr (λK hK=>?_);go_simp;refine hK _ _ ?_;clear hK K;try simp only[aI]
 generalize hw2:w1.alloc _=w2;have D2:=a_ (show ag [(b,XO (limb s.N) s)] [(B4,.cells (bt λ_=>0) 220 (0,0)),(B,.cells (bt λ_=>0) 220 (0,0)),(b,XO (limb s.N) s)] w w2 from by rw[<-hw2,<-wV];exact D1.box (bt λ_=>0) 220);clear D1 hw2 wV hB;refine tr (λK hK=>?_);rw[b9 ol];refine af1 220 (.tmp 4) (.tmp 10) rfl B4 (bt (limb s.N)) rfl rfl 220 (bt λ_=>0) D2.has.head ol rfl ni ?_;refine hK _ _ ?_;clear hK K;try simp only[aI]
 have D3:=a_ (D2.row (cs':=bt (limb s.N)) rfl);generalize w2.setRow B4 (bt (limb s.N))=w3 at *;refine wpList_nil ?_;have c34:=ir D3.has.head (i:=34) z9;have hl34:=eD s.N 34;rw[gN] at hl34;clear D2;have Cd:=a_ hR.1;cases hneg:wm s.N
 .have LH:lR s.N=s.N:=(by unfold lR;rw[hneg];rfl);obtain rfl:AX=s.N:=Ps.symm.trans LH;obtain rfl:NX=false:=Fv.symm.trans hneg;have UT:((limb s.N 34:Nat):Int)/9223372036854775808=0:=(by unfold wm at hneg;have:=aa1 hneg;omega);clear hneg LH hR Ps Fv;go_upto_region 3 with fail;refine UV ?_;refine tr (λK hK=>?_);rw[b9 ol];refine ag4 220 (.tmp 4) rfl B4 rfl 220 (bt (limb s.N)) (0,0) _ D3.has.head underlying220 rfl ol ?_;refine hK _ _ ?_;clear hK K;(try simp only[aI]);have Cc:=a_ (D3.perm (R':= [(B,.cells (bt λ_=>0) 220 (0,0)),(B4,.cells (bt (limb s.N)) 220 (0,0)),(b,XO (limb s.N) s)]) aF);refine tr (λK hK=>?_);rw[b9 ol];refine af1 220 (.tmp 2) (.tmp 15) rfl B (bt (limb s.N)) rfl rfl 220 (bt λ_=>0) Cc.has.head ol rfl ni ?_;refine hK _ _ ?_;clear hK K;(try simp only[aI]);have D4:=a_ (Cc.row (cs':=bt (limb s.N)) rfl);generalize w3.setRow B (bt (limb s.N))=w4 at *;have hres:=run_loadVar_row (P:=prog) w4 B 220 220 (bt (limb s.N)) (0,0) _ D4.has.head underlying220 rfl ol;go_wp2;refine nl (v:= .tuple #[.agg (bt (limb s.N)),false]) ?_ rfl ⟨rfl,D4.quiet Cd D4.has.tail.tail⟩;simp[results,results148,asAddr,hres]
 have LH:=absX_neg hneg;have UT:((limb s.N 34:Nat):Int)/9223372036854775808=1:=by unfold wm at hneg;have:=Nf hneg;omega
 obtain⟨M,hM⟩:=kw (Cm s.N);rw[hM] at LH;obtain rfl:AX=M+1:=Ps.symm.trans LH;obtain rfl:NX=true:=Fv.symm.trans hneg;have hcp:=a_ (λi (hi:i<35)=>(hM▸limb_cpl (N:=s.N) hi:limb M i=18446744073709551615-limb s.N i));have hA:=a_ (λi (hi:i<35) W=>(show (callFunc 231 #[.int .u64 (limb M i:Nat),.int .u64 0,.int .u64 ((if i=0 then 1 else mC M 1 i:Nat))]).run prog W=.ok (.value (.tuple #[WB (limb (M+1) i),WB (mC M 1 (i+1))])) W from by have:=yC (limb M i) 0 (if i=0 then 1 else mC M 1 i) (by split;exact bi _;exact px _ _ _) W;rw[show ((0:Nat):Int)=0 from rfl] at this;rw[this,gI,jf,limb_one];by_cases h0:i=0;subst h0;rw[b9 rfl,b9 rfl,ny,sc,sc];rw[b_ h0,b_ h0]));clear hneg LH hR hM Ps Fv;go_upto_region 5 with fail;clear UT;go_wp2;clear c34;go_loopw [5,16] (λcv iv wr=>∃i,cv=.int .u64 ((if i=0 then 1 else mC M 1 i:Nat))/\iv=.int .i64 i/\i<=35/\ag [(b,XO (limb s.N) s)] [(B4,.cells (bt (gT (limb (M+1)) (limb s.N) i)) 220 (0,0)),(B,.cells (bt λ_=>0) 220 (0,0)),(b,XO (limb s.N) s)] w wr) (λ_ iv _=>35-(intOf iv).toNat);exact⟨0,rfl,rfl,z9,D3⟩;obtain⟨i,rfl,rfl,hi,hd⟩:=hrel;have HD:=a_ hd;clear D3;by_cases hlt:i<35
 .have g1:decide ((i:Int)<35)=true:=kr;have i1:¬(i:Int)<0:=e9;have i2:(i:Int)<35:=e9;have c0:=ir hd.has.head hlt;rw[jO] at c0;have f0:=br hd.has.head i;have Ef:=hA.out i hlt;have e1:=BU (limb s.N i) (by have:=eD s.N i;rw[gN] at this;exact this);rw[<-hcp.out i hlt] at e1;have s1:=eH ((i:Int)+1);have D5:=a_ (show ag [(b,XO (limb s.N) s)] [(B4,.cells (bt (gT (limb (M+1)) (limb s.N) (i+1))) 220 (0,0)),(B,.cells (bt λ_=>0) 220 (0,0)),(b,XO (limb s.N) s)] w (wr.setCell ⟨B4,i,none⟩ (.int .u64 (limb (M+1) i:Nat))) from by have:=hd.set i (.int .u64 (limb (M+1) i:Nat));rw[arrL_set hlt,pJ] at this;exact this);generalize (if i=0 then 1 else mC M 1 i)=cc at *;clear hd;go_wp2;go_roundw;exact⟨i+1,by rw[cG],by go_num,e9,D5⟩;simp[intOf];omega
 obtain rfl:i=35:=e9;have D6:=a_ (show ag [(b,XO (limb s.N) s)] [(B4,.cells (bt (limb (M+1))) 220 (0,0)),(B,.cells (bt λ_=>0) 220 (0,0)),(b,XO (limb s.N) s)] w wr from by have:=hd;rw[arrL_congr (g:=gT (limb (M+1)) (limb s.N) 35) (g':=limb (M+1)) (λj hj=>b9 hj)] at this;exact this);clear hd;go_upto_region 10 with fail;refine UV ?_;refine tr (λK hK=>?_);rw[b9 ol];refine ag4 220 (.tmp 4) rfl B4 rfl 220 (bt (limb (M+1))) (0,0) _ D6.has.head underlying220 rfl ol ?_;refine hK _ _ ?_;clear hK K;try simp only[aI]
 have Cc:=a_ (D6.perm (R':= [(B,.cells (bt λ_=>0) 220 (0,0)),(B4,.cells (bt (limb (M+1))) 220 (0,0)),(b,XO (limb s.N) s)]) aF);refine tr (λK hK=>?_);rw[b9 ol];refine af1 220 (.tmp 2) (.tmp 31) rfl B (bt (limb (M+1))) rfl rfl 220 (bt λ_=>0) Cc.has.head ol rfl ni ?_;refine hK _ _ ?_;clear hK K;try simp only[aI]
 have D4:=a_ (Cc.row (cs':=bt (limb (M+1))) rfl);generalize wr.setRow B (bt (limb (M+1)))=w4 at *;have hres:=run_loadVar_row (P:=prog) w4 B 220 220 (bt (limb (M+1))) (0,0) _ D4.has.head underlying220 rfl ol;go_wp2;refine nl (v:= .tuple #[.agg (bt (limb (M+1))),true]) ?_ rfl ⟨rfl,D4.quiet Cd D4.has.tail.tail⟩;simp[results,results148,asAddr,hres]
def inf_pos (w:World):WR 147 #[(1:Int)] w (.float .f64 9218868437227405312) λw'=>w=w':=by have H:∀w,(callFunc 62 #[.int .u64 9218868437227405312]).run prog w=.ok (.value (.float .f64 9218868437227405312)) w:=λw=>jW 9218868437227405312 w;go_enter func147,ntmps147;go_wp2;go_ret;exact⟨rfl,rfl⟩
def inf_neg (w:World):WR 147 #[(-1:Int)] w (.float .f64 18442240474082181120) λw'=>w=w':=by have H:∀w,(callFunc 62 #[.int .u64 18442240474082181120]).run prog w=.ok (.value (.float .f64 18442240474082181120)) w:=λw=>jW 18442240474082181120 w;go_enter func147,ntmps147;go_wp2;go_ret;exact⟨rfl,rfl⟩
def xor_top (x:Nat) (hx:x<9223372036854775808):x^^^ 9223372036854775808=x+9223372036854775808:=by have h:=ae6 (i:=63) (b:=x) hx 1;rw[w_] at h;rw[show (9223372036854775808:Nat)=2^63 from rfl,WF,h];apply vC;intro i;rw[ag9,Nat.testBit_or,ai1];by_cases hi:63=i;subst hi;rw[H' hx];rfl;simp[hi]
def neg_run (x:Nat) (W:World) (hx:x<=9218868437227405312):(Op.unary UnOp.neg (.float .f64 x)).run prog W=.ok (.float .f64 (DY x)) W:=by have e:(Op.unary UnOp.neg (.float .f64 x)).run prog W=.ok (.float .f64 (x^^^ 9223372036854775808)) W:=rfl;rw[e,xor_top x e9];unfold DY;rw[cG]
def rndX_le (g:Nat->Nat):yA g<=9218868437227405312:=Uz _ _
def whole_x (hc:s.count<=1000000000) (hR:At [(b,XO (limb s.N) s)] w): WR 70 #[Wz b] w (.float .f64 (wQ s)) λw'=>Below w.heap.size w w':=by
 obtain⟨-,Ng,JX,Nh,-,-⟩:=kf hR.1.head;have nc:=a_ (size_x (s:=s) hR);have JB:=a_ (λW=>rounded_x (g:=limb (lR s.N)) (λi=>by have:=eD (lR s.N) i;rw[gN] at this;exact this) W);have TR:=a_ (λx W=>pM x W);have HI1:=a_ (λW=>inf_pos W);have FU:=a_ (λW=>inf_neg W);have HB:=a_ (show Below w.heap.size w w from⟨rfl,rfl,rfl,bi _,λk _=>rfl⟩);obtain⟨wh,zA⟩:=kw (wQ s);rw[zA];have MM:=a_ zA;unfold wQ at zA;cases hn:s.nan<;>cases hp:s.plus<;>cases hm:s.minus;all_goals rw[hn] at Ng zA;rw[hp] at JX zA;rw[hm] at Nh zA
 case false.false.false=>
  obtain⟨-,-,-,-,Se,Ni⟩:=kf hR.1.head;have HC:=a_ (λW (hb:Below w.heap.size w W)=>(show W.cell? ⟨b,39,none⟩=some (.int .i64 s.count)/\W.cell? ⟨b,40,none⟩=some (.int .i64 s.cI) from by obtain⟨-,-,-,-,d39,d40⟩:=kf (hR.grow hb).1.head;exact⟨d39,d40⟩));simp only[D_,Y',N_,and_false] at zA;have Cz:=rndX_le (limb (lR s.N));generalize yA (limb (lR s.N))=rn at *;generalize wm s.N=ng at *;have Cf:=a_ zA;clear zA;go_enter func70,ntmps70;go_upto_region 9 with fail;clear Ng JX Nh;refine UV ?_;refine tr (λK hK=>?_);go_simp;refine hK _ _ ?_;clear hK K;(try simp only[aI]);refine tr (λK hK=>?_);go_simp;go_at_call 148;refine nc.kq λw1 bp=>?_;have D1:=a_ (show ag [] [] w w1 from ag.new bp At.nil (λx hx=>by cases hx));clear bp;refine hK _ _ ?_;clear hK K;(try simp only[aI]);refine tr (λK hK=>?_);go_simp;refine hK _ _ ?_;clear hK K;(try simp only[aI]);refine tr (λK hK=>?_);go_simp;refine hK _ _ ?_;clear hK K;(try simp only[aI]);refine tr (λK hK=>?_);go_simp;refine hK _ _ ?_;clear hK K;(try simp only[aI]);obtain⟨B4,wV⟩:=kw w1.heap.size;refine tr (λK hK=>?_);go_simp;refine hK _ _ ?_;clear hK K;(try simp only[aI]);generalize hw2:w1.alloc _=w2;have D2:=a_ (show ag [] [(B4,.cells (bt λ_=>0) 220 (0,0))] w w2 from by rw[<-hw2,<-wV];exact D1.box (bt λ_=>0) 220);clear D1 hw2 wV;refine tr (λK hK=>?_);rw[b9 ol];refine af1 220 (.tmp 3) (.tmp 42) rfl B4 (bt (limb (lR s.N))) rfl rfl 220 (bt λ_=>0) D2.has.head ol rfl ni ?_;refine hK _ _ ?_;clear hK K;(try simp only[aI]);have D3:=a_ (D2.row (cs':=bt (limb (lR s.N))) rfl);generalize w2.setRow B4 (bt (limb (lR s.N)))=w3 at *;clear D2;refine tr (λK hK=>?_);go_simp;refine hK _ _ ?_;clear hK K;(try simp only[aI]);refine wpList_nil ?_;go_upto_region 10 with fail;refine UV ?_;refine tr (λK hK=>?_);rw[b9 ol];refine ag4 220 (.tmp 3) rfl B4 rfl 220 (bt (limb (lR s.N))) (0,0) _ D3.has.head underlying220 rfl ol ?_;refine hK _ _ ?_;clear hK K;(try simp only[aI]);go_upto_region 11 with (first| (go_at_call 149;refine (JB _).kg D3.grow λw4 D4=>?_)| (go_at_call 14;refine (TR _ _).kq ?_;rintro w5 rfl));obtain⟨Se,Ni⟩:=HC _ D4.below;have hz:0<=s.cI:=lc _;have hneg:=λW=>neg_run rn W Cz;cases KE:ng
  .by_cases h0:s.count=0
   .have hw:=Cf.out;rw[KE,b_ (λq=>by rcases q with q|q;cases q;omega)] at hw;subst hw;rw[h0] at Se;clear KE;go_quiet (fail);have D5:=a_ (D4.grow (Fr.aA nq _));go_wp2;go_ret;exact⟨rfl,D5.below⟩
   have g1:decide ((s.count:Int)>0)=true:=kr;have g2:(0:Int)<s.count:=e9;have g3:0<s.count:=e9;by_cases Jc:s.cI=s.count
   .have hw:=Cf.out;rw[b9 (.inr ⟨g3,Jc⟩)] at hw;rw[Jc] at Ni;clear KE h0 Jc;go_quiet (fail);have D5:=a_ (D4.grow (Fr.aA nq _));go_wp2;go_ret;exact⟨rfl,D5.below⟩
   have hw:=Cf.out;rw[KE,b_ (λq=>by rcases q with q|q;cases q;exact Jc q.2)] at hw;subst hw;have g4:((s.cI:Int)==(s.count:Int))=false:=v6;have g5:¬(s.cI:Int)=s.count:=e9;clear KE h0;go_quiet (fail);have D5:=a_ (D4.grow (Fr.aA nq _));go_wp2;go_ret;exact⟨rfl,D5.below⟩
  have hw:=Cf.out;rw[KE,b9 (.inl rfl)] at hw;clear KE;go_quiet (fail);have D5:=a_ (D4.grow (Fr.aA nq _));go_wp2;go_ret;exact⟨by rw[<-hw];rfl,D5.below⟩
 all_goals
  simp only[D_,Y',QQ,true_or,or_true,N_,false_or,and_self,and_true,true_and,false_and,and_false] at zA;subst zA;go_enter func70,ntmps70;go_wp2_with (first| (go_at_call 14;refine (TR _ _).kq ?_;rintro w1 rfl)| (go_at_call_of 147 (Value.int .i64 1);refine (HI1 _).kq ?_;rintro w1 rfl)| (go_at_call 147;refine (FU _).kq ?_;rintro w1 rfl));go_ret;exact⟨rfl,HB⟩
end
open Go.Maps
section
attribute [local go_sem] Oper.semAt_some
noncomputable def HS.gets (S:HS) (s:Int) (p:Nat):Nat->HS
 |0=>S
 |n+1=>(S.gets s p n).get s ((p:Int)+n) 2
noncomputable def HS.sum (S:HS) (s:Int):HS:=if S.m.slot s/\S.m.sl s≠0 then (S.shape s).gets s (S.m.ob (S.m.sl s)).p (S.m.ob (S.m.sl s)).f else S.shape s
variable {hb m rb T x y:Nat}{S S':HS}{R Rx Rr:BL}{w w':World}{cy:Option Nat}{s f i k:Int}
def HS.Good.gets (h:S.Good) (s:Int) (p:Nat):∀n,(S.gets s p n).Good/\S.Alike (S.gets s p n)
 |0=>⟨h,.refl S⟩
 |n+1=>by obtain⟨h1,h2⟩:=h.gets s p n;obtain⟨h3,h4⟩:=h1.get s ((p:Int)+n) 2;exact⟨h3,h2.trans h4⟩
def HS.Good.sum (h:S.Good) (s:Int):(S.sum s).Good/\S.Alike (S.sum s):=by obtain⟨h1,h2⟩:=h.shape s;unfold HS.sum;split;obtain⟨h3,h4⟩:=h1.gets s (S.m.ob (S.m.sl s)).p (S.m.ob (S.m.sl s)).f;exact⟨h3,h2.trans h4⟩;exact⟨h1,h2⟩
def HS.Good.floats (h:S.Good) (hs:S.m.slot s) (h0:S.m.sl s≠0): Hd.Ok (S.m.ob (S.m.sl s)).p (S.m.ob (S.m.sl s)).f (S.m.ob (S.m.sl s)).o/\(S.m.ob (S.m.sl s)).fl.length=(S.m.ob (S.m.sl s)).f/\∀n,n<(S.m.ob (S.m.sl s)).f->∃x,(S.m.ob (S.m.sl s)).fl[n]?=some x/\x<18446744073709551616/\S.m.get s ((S.m.ob (S.m.sl s)).p+n:Int) 2=(x,0):=by
 obtain⟨Q,φ,hr⟩:=h.rep;rcases (hr.sl s).1 with e|q;exact absurd e h0;obtain⟨d1,d2,d3,d4⟩:=hr.hd _ q;have hok:=d1.1;rw[d2,d3,d4] at hok;have hl:=hr.wl _ q;have hf:=λi hi=>hr.Cr _ i q hi;generalize vO:S.m.ob (S.m.sl s)=b at *;refine⟨hok,by unfold MO.fl;rw[lq7,aj7];omega,λn hn=>?_⟩;have hlt:b.p+n<b.w.length:=e9;have hg:=hf (b.p+n) hlt;rw[cG] at hg;have hk:Hd.kindOf b.p b.f b.o ((b.p:Int)+n)=2:=by unfold Hd.kindOf;rw[b9 ⟨hok,e9,e9⟩,cG,iY]
 refine⟨b.w.getD (b.p+n) 0,?_,?_,?_⟩;unfold MO.fl;rw[Km,b9 hn,aa3,co hlt,ac,co hlt];rfl;rw[<-hg];exact hr.small _;have e:S.m.fe (S.m.sl s) ((b.p:Int)+n) 2=0:=by unfold MH.fe;rw[b_ h0,vO,b9 hk]
 unfold MH.get MH.fw;rw[b9 hs,b9 e,e,vO];rfl
def hSum_h (h:ak hb m rb S T R) (hg:S.Good) (hR:At R w) (hT:ax w) (hN:aD R) (bJ:T<=600000000000000) (s:Int): WR 20 #[Wz hb,s] w (.tuple #[.float .f64 (S.m.sum jY s).1,.int .i64 (S.m.sum jY s).2]) λw'=>∃R',ak hb m rb (S.sum s) (T+1000000000) R'/\ag R R' w w':=by
 have Ay:=xO h hg hR hT hN e9 s;by_cases hy:S.m.slot s/\S.m.sl s≠0
 .obtain⟨hok,hfl,SK⟩:=hg.floats hy.1 hy.2;obtain⟨hg1,NO⟩:=hg.shape s;have e1:S.m.shape s=((S.m.ob (S.m.sl s)).p,(S.m.ob (S.m.sl s)).f,(S.m.ob (S.m.sl s)).o,0):=(by unfold MH.shape;rw[b9 hy.1,b_ hy.2]);have e2:S.m.sum jY s=(jY (S.m.ob (S.m.sl s)).fl,0):=(by unfold MH.sum;rw[b9 hy.1,b_ hy.2]);have e3:S.sum s=(S.shape s).gets s (S.m.ob (S.m.sl s)).p (S.m.ob (S.m.sl s)).f:=(by unfold HS.sum;rw[b9 hy]);rw[e1] at Ay;rw[e2,e3];simp only at Ay ⊢;generalize (S.m.ob (S.m.sl s)).fl=L at *;generalize (S.m.ob (S.m.sl s)).p=p at *;generalize (S.m.ob (S.m.sl s)).f=f at *;generalize (S.m.ob (S.m.sl s)).o=o at *;generalize S.shape s=S1 at *;have IF:f<=255:=(by unfold Hd.Ok at hok;omega);have IT:p<=255:=(by unfold Hd.Ok at hok;omega);have CM:∀n,n<f->∀R1 K W,ak hb m rb (S1.gets s p n) (T+2000000+n*2000000) R1->ag R (R1++K) w W->WR 17 #[Wz hb,s,((p:Int)+n:Int)] W (.tuple #[.float .f64 (L.getD n 0),Wy]) λw'=>∃R',ak hb m rb (S1.gets s p (n+1)) (T+2000000+(n+1)*2000000) R'/\ag R (R'++K) w w':=(by intro n hn R1 K W h1 hd;obtain⟨x,hx,Md,Vx⟩:=SK n hn;obtain⟨g1,a1⟩:=hg1.gets s p n;refine (iO h1 g1 hd.at_.left (hd.tz hT hN) (aD.app.1 (hd.cK hT hN)).1 e9 s ((p:Int)+n)).kq ?_;rintro w' ⟨R',h2,d2⟩;rw[a1.m,NO.m,Vx,ac,hx];exact⟨rfl,R',h2.more e9,hd.step d2⟩);have Mk:∀n,n<f->∀bx W,At [(bx,XO (limb ((L.take n).foldl fH .new).N) ((L.take n).foldl fH .new))] W->WR 69 #[Wz bx,.float .f64 (L.getD n 0)] W (.tuple #[]) λw'=>ag [(bx,XO (limb ((L.take n).foldl fH .new).N) ((L.take n).foldl fH .new))] [(bx,XO (limb ((L.take (n+1)).foldl fH .new).N) ((L.take (n+1)).foldl fH .new))] W w':=(by intro n hn bx W hA;obtain⟨x,hx,Md,Vx⟩:=SK n hn;have e4:L.take (n+1)=L.take n++ [x]:=(by rw[ab1,hx];rfl);have e5:L.getD n 0=x:=(by rw[ac,hx];rfl);obtain⟨c1,c2⟩:=my (L.take n) .new;have hlt:(L.take n).length<=255:=(by rw[lq7];omega);have z1:XS.new.count=0:=rfl;have z2:XS.new.cI=0:=rfl;rw[e4,e5,aa9];exact add_x Md ⟨e9,e9⟩ hA);have MM:∀bx W,At [(bx,XO (limb (L.foldl fH .new).N) (L.foldl fH .new))] W->WR 70 #[Wz bx] W (.float .f64 (jY L)) λw'=>Below W.heap.size W w':=(by intro bx W hA;obtain⟨c1,c2⟩:=my L .new;have z1:XS.new.count=0:=rfl;exact whole_x e9 hA);have Ss:L.take f=L:=t8 e9;have uA:Hd.lA p f o 2=p:=(by unfold Hd.lA;rw[b9 hok,b9 rfl]);have qL:=a_ (λW=>Hd.first_any p f o 2 W);rw[uA] at qL;have Ur:=a_ (λW=>xnew_x W);obtain⟨Ay,CM,Mk,MM,Lm,Dj,HP255⟩:=Et Ay CM Mk MM Ss IF IT;obtain⟨Sf,Kk⟩:=kw (S1.gets s p f);rw[Kk];have HSf:=a_ Kk;obtain⟨xs,gz⟩:∃xs:Nat->XS,∀n,(L.take n).foldl fH .new=xs n:=⟨_,λn=>rfl⟩;have KW:XS.new=xs 0:=gz 0;have We:L.foldl fH .new=xs f:=(by rw[<-gz f,Ss]);simp only[gz] at Mk;rw[KW] at Ur;rw[We] at MM;generalize jY L=sL at *;have Jv:∃ld:Nat->Nat,∀n,L.getD n 0=ld n:=⟨_,λn=>rfl⟩;obtain⟨ld,VE⟩:=Jv;simp only[VE] at Mk CM;unfold Hd.hv at qL;clear h hg hR hT hN bJ hy hok hfl SK hg1 NO e1 e2 e3 IF IT Ss uA Kk gz KW We VE;go_enter func20,ntmps20;go_upto_region 2 with (go_at_call 35;refine Ay.kq ?_;rintro w1 ⟨R1,x1,d1⟩;have X1:=a_ x1;have D2:=a_ (d1.box #[p,f,o] 31);obtain⟨B6,Gi⟩:=kw w1.heap.size;rw[Gi] at D2;clear d1 x1);generalize World.alloc _ _=w2 at *;go_wp2_with (go_at_call 67;refine (Ur _).mono ?_;rintro e w3 ⟨bx,rfl,d3⟩;have D3:=a_ ((D2.bh d3).perm (R':=(bx,XO (limb (xs 0).N) (xs 0))::(R1++ [(B6,mq p f o)])) aF);have b1:=an D3.has.tail.right.head 1 (.int .i64 f) rfl;clear d3 D2);go_loopw [24] (λiv wr=>∃(n:Nat) (Rj:BL),iv=.int .i64 n/\n<=f/\ak hb m rb (S1.gets s p n) (T+2000000+n*2000000) Rj/\ag R ((bx,XO (limb (xs n).N) (xs n))::(Rj++ [(B6,mq p f o)])) w wr) (λiv _=>f-(intOf iv).toNat);exact⟨0,R1,rfl,e9,by rw[V'];exact X1,D3⟩;obtain⟨n,Rj,rfl,hn,h1,hd⟩:=hrel;obtain⟨D4,X4⟩:=aO hd h1;clear b1 D3 X1;by_cases hlt:n<f
  .have q:=hd.has.tail.right.head;obtain⟨b0,b1,b2,-⟩:=ft q;have s1:=eH ((p:Int)+n) (by have:=Dj.out;have:=HP255.out;omega);have k1:(n:Int)<f:=e9;have HN:=a_ hlt;have zy:n<=255:=(by have:=Dj.out;omega);clear hd h1 q;go_wp2_with (first| (go_at_call 68;refine (qL _).kq λw4 hb4=>?_;have D5:=a_ ((D4.grow hb4).perm (R':=Rj++((bx,XO (limb (xs n).N) (xs n)):: [(B6,mq p f o)])) aF);clear hb4)| (go_at_call 17;refine (CM n HN Rj _ _ X4 D5).kq ?_;rintro w5 ⟨Rk,x5,d5⟩;have X5:=a_ x5;have D6:=a_ (d5.perm (R':= [(bx,XO (limb (xs n).N) (xs n))]++(Rk++ [(B6,mq p f o)])) aF);clear x5 d5)| (go_at_call 69;refine (Mk n HN bx _ D6.at_.left).kq λw6 d6=>?_;have D7:=a_ (D6.step d6);clear d6));go_roundw;exact⟨n+1,Rk,by go_num,e9,X5,D7⟩;simp[intOf];omega
  have Qo:n=f:=e9;rw[Qo] at D4 X4;have k1:¬(n:Int)<f:=e9;clear hd h1 Qo;go_wp2_with (go_at_call 70;refine (MM bx _ (D4.bN (A:= [(bx,XO (limb (xs f).N) (xs f))])).at_).kg D4.grow λw8 D8=>?_);refine nl (by simp[results,results20,go_sem];rfl) rfl ?_;refine⟨rfl,Rj,HSf.out▸X4.more (by have:=Dj.out;omega),(D8.perm (R':=Rj++((bx,XO (limb (xs f).N) (xs f)):: [(B6,mq p f o)])) aF).bN⟩
 have e1:(S.m.shape s).1=0/\(S.m.shape s).2.1=0/\(S.m.shape s).2.2.1=0/\(S.m.shape s).2.2.2≠0/\S.m.sum jY s=(0,(S.m.shape s).2.2.2):=by unfold MH.shape MH.sum;by_cases h1:S.m.slot s;have h2:S.m.sl s=0:=af5 λq=>hy ⟨h1,q⟩;rw[b9 h1,b9 h1,b9 h2,b9 h2];exact⟨rfl,rfl,rfl,z9,rfl⟩;rw[b_ h1,b_ h1];exact⟨rfl,rfl,rfl,z9,rfl⟩
 have e3:S.sum s=S.shape s:=by unfold HS.sum;rw[b_ hy]
 obtain⟨e4,e5,e6,e7,e8⟩:=e1;rw[e4,e5,e6] at Ay;rw[e3,e8];simp only;generalize (S.m.shape s).2.2.2=c at *;generalize S.shape s=S1 at *;have Ay:=a_ Ay;clear h hg hR hT hN bJ hy e3 e4 e5 e6 e8;go_enter func20,ntmps20;go_upto_region 2 with (go_at_call 35;refine Ay.kq ?_;rintro w1 ⟨R1,x1,d1⟩;have X1:=a_ x1;have D2:=a_ (d1.box #[Wy,Wy,Wy] 31);obtain⟨B6,Gi⟩:=kw w1.heap.size;rw[Gi] at D2;clear d1 x1);generalize World.alloc _ _=w2 at *;go_wp2;refine nl (by simp[results,results20,go_sem];rfl) rfl ?_;exact⟨rfl,R1,X1.more e9,D2.tail⟩
noncomputable def HS.order (S:HS) (a i b k:Int):HS:=if (S.m.get a i 2).2=0 then (S.get a i 2).get b k 2 else S.get a i 2
variable {a b c:Int}
def HS.Good.order (h:S.Good) (a i b k:Int):(S.order a i b k).Good/\S.Alike (S.order a i b k):=by obtain⟨h1,h2⟩:=h.get a i 2;unfold HS.order;split;obtain⟨h3,h4⟩:=h1.get b k 2;exact⟨h3,h2.trans h4⟩;exact⟨h1,h2⟩
def HS.Good.Eb (h:S.Good) (s i k:Int) (hk:k≠0) (vM:k≠1):(S.m.get s i k).1<18446744073709551616:=by obtain⟨Q,φ,hr⟩:=h.rep;unfold MH.get;split;rcases (hr.sl s).1 with e|q;unfold MH.fw MH.fe;rw[b9 e,b_ z9];simp;by_cases hf:S.m.fe (S.m.sl s) i k=0;have:=hr.fw q hk hf;rw[b_ vM] at this;show S.m.fw _ _ _<_;rw[<-this];exact hr.small _;unfold MH.fw;rw[b_ hf];simp;simp
def hOrder_h (h:ak hb m rb S T R) (hg:S.Good) (hR:At R w) (hT:ax w) (hN:aD R) (bJ:T<=600000000000000) (a i b k:Int): WR 152 #[Wz hb,a,i,b,k] w (.tuple #[.int .i64 (S.m.order a i b k).1,.int .i64 (S.m.order a i b k).2]) λw'=>∃R',ak hb m rb (S.order a i b k) (T+4000000) R'/\ag R R' w w':=by
 obtain⟨hg1,hal⟩:=hg.get a i 2;have Dk:=a_ (iO h hg hR hT hN e9 a i);have FT:=a_ (λR1 W (h1:ak hb m rb (S.get a i 2) (T+2000000) R1) (hd:ag R R1 w W)=>iO h1 hg1 hd.at_ (hd.tz hT hN) (hd.cK hT hN) e9 b k);have hx:=hg.Eb a i 2 z9 z9;have hy:=hg.Eb b k 2 z9 z9;rw[hal.m] at FT;have Mm:=a_ (λW=>qo _ _ hx hy W);have jB:=a_ (λW=>qo _ _ hy hx W);have e1:S.order a i b k=if (S.m.get a i 2).2=0 then (S.get a i 2).get b k 2 else S.get a i 2:=rfl;unfold MH.order OT;rw[e1];generalize (S.m.get a i 2).1=x at *;generalize (S.m.get b k 2).1=y at *;generalize (S.m.get a i 2).2=c1 at *;generalize (S.m.get b k 2).2=c2 at *;generalize hS1:S.get a i 2=S1 at *;generalize wW:S1.get b k 2=S2 at *;clear h hg hR hT hN bJ hg1 hal hx hy e1 hS1 wW;by_cases hc1:c1=0
 .subst hc1;rw[b9 rfl,b9 rfl];by_cases Bb:c2=0
  .subst Bb;rw[b9 rfl];by_cases h1:lW x<lW y
   .rw[b9 h1];rw[rc h1] at Mm;clear h1 jB;go_enter func152,ntmps152;go_upto_region 4 with (go_at_call 17;refine Dk.ke λw1 R1 X1 D1=>?_);go_wp2_with (first| (go_at_call 17;refine (FT _ _ X1 D1).kq ?_;rintro w2 ⟨R2,x2,d2⟩;have X2:=a_ x2;have D2:=a_ (D1.trans d2);clear x2 d2)| (go_at_call 142;refine (Mm _).kq ?_;rintro w3 rfl));refine nl (by simp[results,results152,go_sem];rfl) rfl ?_;exact⟨rfl,R2,X2.more e9,D2⟩
   rw[b_ h1];rw[g_ h1] at Mm;by_cases h2:lW y<lW x
   .rw[b9 h2];rw[rc h2] at jB;clear h1 h2;go_enter func152,ntmps152;go_upto_region 4 with (go_at_call 17;refine Dk.ke λw1 R1 X1 D1=>?_);go_upto_region 9 with (first| (go_at_call 17;refine (FT _ _ X1 D1).kq ?_;rintro w2 ⟨R2,x2,d2⟩;have X2:=a_ x2;have D2:=a_ (D1.trans d2);clear x2 d2)| (go_at_call 142;refine (Mm _).kq ?_;rintro w3 rfl));go_wp2_with (go_at_call 142;refine (jB _).kq ?_;rintro w3 rfl);refine nl (by simp[results,results152,go_sem];rfl) rfl ?_;exact⟨rfl,R2,X2.more e9,D2⟩
   rw[b_ h2];rw[g_ h2] at jB;clear h1 h2;go_enter func152,ntmps152;go_upto_region 4 with (go_at_call 17;refine Dk.ke λw1 R1 X1 D1=>?_);go_upto_region 9 with (first| (go_at_call 17;refine (FT _ _ X1 D1).kq ?_;rintro w2 ⟨R2,x2,d2⟩;have X2:=a_ x2;have D2:=a_ (D1.trans d2);clear x2 d2)| (go_at_call 142;refine (Mm _).kq ?_;rintro w3 rfl));go_wp2_with (go_at_call 142;refine (jB _).kq ?_;rintro w3 rfl);refine nl (by simp[results,results152,go_sem];rfl) rfl ?_;exact⟨rfl,R2,X2.more e9,D2⟩
  rw[b_ Bb];go_enter func152,ntmps152;go_upto_region 4 with (go_at_call 17;refine Dk.ke λw1 R1 X1 D1=>?_);go_wp2_with (go_at_call 17;refine (FT _ _ X1 D1).kq ?_;rintro w2 ⟨R2,x2,d2⟩;have X2:=a_ x2;have D2:=a_ (D1.trans d2);clear x2 d2);refine nl (by simp[results,results152,go_sem];rfl) rfl ?_;exact⟨rfl,R2,X2.more e9,D2⟩
 rw[b_ hc1,b_ hc1];go_enter func152,ntmps152;go_wp2_with (go_at_call 17;refine Dk.ke λw1 R1 X1 D1=>?_);refine nl (by simp[results,results152,go_sem];rfl) rfl ?_;exact⟨rfl,R1,X1.more e9,D1⟩
def hfield_c (x:Nat) (hx:x<18446744073709551616) (w:World):WR 153 #[.int .u64 x] w (gh x:Int) λw'=>w=w':=by
 unfold gh;by_cases h:x<256
 .rw[b9 h];have g1:¬(256:Int)<=x:=e9;have s1:IntKind.i64.wrap (x:Int)=x:=i_ _ e9;go_enter func153,ntmps153;go_wp2;go_ret;exact⟨rfl,rfl⟩
 rw[b_ h];have g1:(256:Int)<=x:=e9;go_enter func153,ntmps153;go_wp2;go_ret;exact⟨rfl,rfl⟩
abbrev eV (cs:Array Value):Obj:= .cells cs 51 (0,0)
variable {hp hf ho:Int}{wd fl:Nat}
def asksN (hR:At R w) (h4:¬k=4) (h6:¬k=6) (mV:¬k=10) (oM:¬k=11) (nI:¬k=12) (qs:¬k=13) (Nw:¬k=14): WR 73 #[Wz hb,.agg #[k,a,b,i,hp,hf,ho,WB wd,.float .f64 fl]] w (.tuple #[.agg #[Wy,false,Wy,.int .u64 0,Wy,Wy,Wy],false]) λw'=>ag R R w w':=by have D0:=((((ag.refl hR).box #[k,a,b,i,hp,hf,ho,WB wd,.float .f64 fl] 49).box #[Wy,false,Wy,.int .u64 0,Wy,Wy,Wy] 51).box #[Wy,false,Wy,.int .u64 0,Wy,Wy,Wy] 51);simp only[aU] at D0;obtain⟨B3,jH⟩:=kw w.heap.size;rw[jH] at D0;have D0:=a_ D0;have q:=D0.has.tail.tail.head;have c0:=an q 0 (.int .i64 k) rfl;have q2:=D0.has.head;obtain⟨a0,a1,a2,a3,a4,a5,a6,-⟩:=eX q2;have q3:=D0.has.tail.head;obtain⟨b0,b1,b2,b3,b4,b5,b6,-⟩:=eX q3;obtain⟨f0,f1,f2,f3,f4,f5,f6,-⟩:=tV q3;have D4:=a_ (((((((D0.tail.set 0 Wy).set 1 false).set 2 Wy).set 3 (.int .u64 0)).set 4 Wy).set 5 Wy).set 6 Wy);clear q q2 q3 hR;go_enter func73,ntmps73;go_upto_region 2 with fail;generalize World.alloc _ _=w0 at *;go_wp2;simp only[ma] at D4;generalize Dc:World.setCell _ _ _=w7 at *;have q7:=D4.has.head;obtain⟨e0,e1,e2,e3,e4,e5,e6,-⟩:=eX q7;refine nl (v:= .tuple #[.agg #[Wy,false,Wy,.int .u64 0,Wy,Wy,Wy],false]) (by simp[results,results73,go_sem,e0,e1,e2,e3,e4,e5,e6]) rfl ⟨rfl,D4.tail.tail⟩
end
end Go.Proofs.YtmdgfpeglgpiiaaGreatDoor

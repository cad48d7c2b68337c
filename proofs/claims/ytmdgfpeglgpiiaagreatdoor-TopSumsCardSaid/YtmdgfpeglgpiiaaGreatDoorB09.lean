import Derived.Test.YtmdgfpeglgpiiaaGreatDoorB07
import Derived.Test.YtmdgfpeglgpiiaaGreatDoorB05
set_option linter.all false
set_option maxRecDepth 100000
set_option maxHeartbeats 16000000
namespace Go.Proofs.YtmdgfpeglgpiiaaGreatDoor
open Go.ChangeShapes Go.WideShapes Go.ChangeAt Go.RowKit Go.Maps Go.Sort
open Vq Oq Go.Proofs.Tryz
structure FA where
 s:jA
 G:FuncId
 rg:Value
structure Dw (p:FA):Prop where
 ok:AB p.s
 EO:∀w,(method 516 p.s.T p.s.v "Store").run Tryz.prog w= .ok (p.G,p.rg) w
 DJ:∀args w,(callFunc p.G args).run prog w= .ok (.enter p.G args) w
structure Sp (σ:Type) where
 X:σ->BL->Prop
 D:σ->Nat->Prop
 ba:σ->Nat->Nat
 ld:σ->Nat->σ
 st:σ->Nat->Nat->σ
structure gB {σ:Type} (p:FA) (P:Sp σ):Prop where
 ok:Dw p
 small:∀z R a,P.X z R->P.D z a->P.ba z a<18446744073709551616
 low:∀z a,P.D z a->a<=1048576
 Jd:∀z a b,P.D z a->P.D z b->P.D (P.ld z a) b
 ldS:∀z a b,P.D z a->P.D z b->P.ba (P.ld z a) b=P.ba z b
 load:∀z R W a,P.X z R->At R W->ax W->aD R->P.D z a->Calls prog p.s.F #[p.s.rv,.int .i64 (a:Nat)] W λe w'=>e= .returned (.tuple #[WB (P.ba z a),Wy])/\∃R',P.X (P.ld z a) R'/\ag R R' W w'
 store:∀z R W a x,P.X z R->At R W->ax W->aD R->P.D z a->x<18446744073709551616->Calls prog p.G #[p.rg,.int .i64 (a:Nat),.int .u64 (x:Nat)] W λe w'=>e= .returned Wy/\∃R',P.X (P.st z a x) R'/\ag R R' W w'
section
variable {σ:Type} {p:FA} {P:Sp σ} {z:σ} {R:BL} {w w':World} {a:Nat} {i k:Int} {x:Nat}
def yz (s:jA) (w:World):WR 98 #[s.val,Wy] w (.tuple #[.agg #[Wy,Wy,Wy],(18:Int)]) λw'=>Below w.heap.size w w':=by
 have D0:=(ag.refl (At.nil (w:=w))).box #[Wy,Wy,Wy] 31;have q:=D0.has.head;obtain⟨d0,d1,d2, -⟩:=ft q;obtain⟨f0,f1,f2, -⟩:=zN q;have HB:=a_ (au w (.cells #[Wy,Wy,Wy] 31));clear q D0;unfold jA.val;go_enter func98,ntmps98;go_wp2;exact bodyPost_ret (v:= .tuple #[.agg #[Wy,Wy,Wy],(18:Int)]) (by simp[results,results98,go_sem,d0,d1,d2]) rfl ⟨rfl,HB⟩
def pU (L:gB p P) (hX:P.X z R) (hR:At R w) (hT:ax w) (hg:aD R) (h0:0<a) (hD:P.D z a) (fY:Hd.Is (P.ba z a)):
  WR 98 #[p.s.val,(a:Nat)] w (.tuple #[.agg #[(Hd.tp (P.ba z a):Nat),(Hd.tf (P.ba z a):Nat),(Hd.to (P.ba z a):Nat)],Wy]) λw'=>∃R',P.X (P.ld z a) R'/\ag R R' w w':=by
 have hs:=L.small z R a hX hD;have ha:=L.low z a hD;have D0:=a_ (((ag.refl hR).box #[Wy,Wy,Wy] 31).perm (R':=R++ [(w.heap.size,.cells #[Wy,Wy,Wy] 31 (0,0))]) aF);have HL:=a_ (L.load z R _ a hX D0.at_.left (D0.tz hT hg) hg hD);have MK:=a_ (λW=>by
  have:=Hd.yJ (P.ba z a) W hs;rw[b9 fY,b9 fY] at this;exact this)
 have hm:=L.ok.ok.EN;have hc:=L.ok.ok.call;unfold Hd.hv at MK;generalize P.ba z a=x at *;generalize Hd.tp x=p1 at *;generalize Hd.tf x=f at *;generalize Hd.to x=o at *;have e1:¬(a:Int)=0:=by omega
 have e2:¬(a:Int)<0:=by omega
 have e3:(a:Int)<=1048576:=by omega
 unfold jA.val;clear hX hR hT hg fY hs ha hD;go_enter func98,ntmps98
 go_wp2_with (first | (go_at_call 185;refine (MK _).kq ?_;rintro w2 hb;have gq:=a_ (qU.grow hb);have q:=gq.has.right.head;have f0:=br q 0;have f1:=br q 1;have f2:=br q 2;have d0:=an q 0 _ rfl;have d1:=an q 1 _ rfl;have d2:=an q 2 _ rfl;clear hb q) | ((with_reducible refine HL.out.mono ?_);rintro e w1 ⟨rfl,R',x1,d1⟩;have X1:=a_ x1;have qU:=a_ (D0.out.step d1);clear x1 d1))
 obtain⟨w3,oP⟩:∃w3,((w2.setCell ⟨w.heap.size,0,none⟩ (.int .i64 p1)).setCell ⟨w.heap.size,1,none⟩ (.int .i64 f)).setCell ⟨w.heap.size,2,none⟩ (.int .i64 o)=w3:=⟨_,rfl⟩
 have h3:ag R ((w.heap.size,WD #[p1,f,o] 31)::R') w w3:=by
  rw[←oP];exact (((gq.perm (R':=(w.heap.size,WD #[Wy,Wy,Wy] 31)::R') aF).set 0 p1).set 1 f).set 2 o
 rw[oP];have q:=h3.has.head;have q0:w3.cell? ⟨w.heap.size,0,none⟩=some (.int .i64 p1):=an q 0 _ rfl;have q1:w3.cell? ⟨w.heap.size,1,none⟩=some (.int .i64 f):=an q 1 _ rfl;have q2:w3.cell? ⟨w.heap.size,2,none⟩=some (.int .i64 o):=an q 2 _ rfl;exact bodyPost_ret (v:= .tuple #[.agg #[p1,f,o],Wy]) (by simp[results,results98,go_sem,q0,q1,q2]) rfl ⟨rfl,R',X1,h3.tail⟩
def pQ (s:jA) (i k:Int) (w:World):WR 221 #[s.val,Wy,i,k] w (.tuple #[Wy,(18:Int)]) λw'=>Below w.heap.size w w':=by
 have HR:=a_ (yz s w);generalize s.val=v at *;go_enter func221,ntmps221
 go_wp2_with (go_at_call 98;refine HR.kq ?_;rintro w1 hb;have HB:=a_ (seq hb (au w1 (.cells #[Wy,Wy,Wy] 31)));clear hb)
 go_ret2
 exact⟨rfl,HB⟩
def wB (L:gB p P) (hX:P.X z R) (hR:At R w) (hT:ax w) (hg:aD R) (h0:0<a) (hD:P.D z a) (fY:Hd.Is (P.ba z a)) (hk:k≠0):
  WR 221 #[p.s.val,(a:Nat),i,k] w (.tuple #[.int .i64 (if dx (P.ba z a) i k=0 then (a:Int)+1+i else 0),(dx (P.ba z a) i k:Int)]) λw'=>∃R',P.X (P.ld z a) R'/\ag R R' w w':=by
 have ha:=L.low z a hD;have hz:=@pC (P.ba z a) i k hk;have zU:dx (P.ba z a) i k=if Hd.kindOf (Hd.tp (P.ba z a)) (Hd.tf (P.ba z a)) (Hd.to (P.ba z a)) i=k then 0 else if Hd.kindOf (Hd.tp (P.ba z a)) (Hd.tf (P.ba z a)) (Hd.to (P.ba z a)) i=0 then 19 else 20:=rfl
 have HR:=a_ (pU L hX hR hT hg h0 hD fY);have HK:=a_ (λW=>Hd.nR (Hd.tp (P.ba z a)) (Hd.tf (P.ba z a)) (Hd.to (P.ba z a)) i W);unfold Hd.hv at HK;generalize dx (P.ba z a) i k=fe at *;generalize P.ba z a=x at *;generalize Hd.kindOf (Hd.tp x) (Hd.tf x) (Hd.to x) i=kk at *;generalize p.s.val=v at *;have e3:(a:Int)<=1048576:=by omega
 by_cases h1:kk=k
 ·subst h1;rw[b9 rfl] at zU;obtain⟨z1, -,z2⟩:=hz zU;subst zU;rw[b9 rfl];generalize Hd.tp x=p1 at *;generalize Hd.tf x=f at *;generalize Hd.to x=o at *;clear hX hR hT hg fY ha hD hz L;go_enter func221,ntmps221
  go_wp2_with (first | (go_at_call 98;refine HR.kq ?_;rintro w1 ⟨R',x1,d1⟩;have X1:=a_ x1;have D1:=a_ (d1.grow (au w1 (.cells #[p1,f,o] 31)));clear x1 d1) | (go_at_call 180;refine (HK _).kq ?_;rintro w2 hb;have D2:=a_ (D1.grow hb);clear hb))
  go_ret2
  exact⟨rfl,R',X1,D2⟩
 ·rw[b_ h1] at zU;have b1:(kk==k)=false:=by rw[beq_eq_false_iff_ne];exact h1
  have b2:decide (kk=k)=false:=decide_eq_false h1;by_cases h2:kk=0
  ·subst h2;rw[b9 rfl] at zU;subst zU;rw[b_ (by decide)];generalize Hd.tp x=p1 at *;generalize Hd.tf x=f at *;generalize Hd.to x=o at *;clear hX hR hT hg fY ha hD hz L h1;go_enter func221,ntmps221
   go_wp2_with (first | (go_at_call 98;refine HR.kq ?_;rintro w1 ⟨R',x1,d1⟩;have X1:=a_ x1;have D1:=a_ (d1.grow (au w1 (.cells #[p1,f,o] 31)));clear x1 d1) | (go_at_call 180;refine (HK _).kq ?_;rintro w2 hb;have D2:=a_ (D1.grow hb);clear hb))
   go_ret2
   exact⟨rfl,R',X1,D2⟩
  ·rw[b_ h2] at zU;subst zU;rw[b_ (by decide)];have b3:(kk==0)=false:=by rw[beq_eq_false_iff_ne];exact h2
   have b4:decide (kk=0)=false:=decide_eq_false h2;generalize Hd.tp x=p1 at *;generalize Hd.tf x=f at *;generalize Hd.to x=o at *;clear hX hR hT hg fY ha hD hz L;go_enter func221,ntmps221
   go_wp2_with (first | (go_at_call 98;refine HR.kq ?_;rintro w1 ⟨R',x1,d1⟩;have X1:=a_ x1;have D1:=a_ (d1.grow (au w1 (.cells #[p1,f,o] 31)));clear x1 d1) | (go_at_call 180;refine (HK _).kq ?_;rintro w2 hb;have D2:=a_ (D1.grow hb);clear hb))
   go_ret2
   exact⟨rfl,R',X1,D2⟩
def get_nil (s:jA) (i k:Int) (w:World):WR 137 #[s.val,Wy,i,k] w (.tuple #[.int .u64 0,(18:Int)]) λw'=>Below w.heap.size w w':=by
 have HR:=a_ (pQ s i k w);generalize s.val=v at *;go_enter func137,ntmps137
 go_wp2_with (go_at_call 221;refine HR.kq ?_;rintro w1 hb;have HB:=a_ hb;clear hb)
 go_ret2
 exact⟨rfl,HB⟩
def set_nil (s:jA) (i k:Int) (x:Nat) (w:World):WR 135 #[s.val,Wy,i,k,.int .u64 x] w (18:Int) λw'=>Below w.heap.size w w':=by
 have HR:=a_ (pQ s i k w);generalize s.val=v at *;go_enter func135,ntmps135
 go_wp2_with (go_at_call 221;refine HR.kq ?_;rintro w1 hb;have HB:=a_ hb;clear hb)
 go_ret;exact⟨rfl,HB⟩
def Sp.gt (P:Sp σ) (z:σ) (a:Nat) (i k:Int):σ:=if dx (P.ba z a) i k=0 then P.ld (P.ld z a) (a+1+i.toNat) else P.ld z a
def Sp.gw (P:Sp σ) (z:σ) (a:Nat) (i k:Int):Nat:=if dx (P.ba z a) i k=0 then P.ba z (a+1+i.toNat) else 0
def Sp.pt (P:Sp σ) (z:σ) (a:Nat) (i k:Int) (x:Nat):σ:=if dx (P.ba z a) i k=0 then P.st (P.ld z a) (a+1+i.toNat) x else P.ld z a
structure Ob (P:Sp σ) (z:σ) (a:Nat):Prop where
 pos:0<a
 mD:∀i,i<bC (P.ba z a)->P.D z (a+i)
 is:Hd.Is (P.ba z a)
def Ob.FB (h:Ob P z a):P.D z a:=h.mD 0 (by unfold bC;omega)
def Ob.Cr (h:Ob P z a) (hk:k≠0) (hf:dx (P.ba z a) i k=0):P.D z (a+1+i.toNat)/\(a:Int)+1+i=((a+1+i.toNat:Nat):Int):=by
 obtain⟨h1,h2,h3⟩:=pC hk hf;have:=h.mD (1+i.toNat) (by unfold bC;omega);rw[←Nat.add_assoc] at this;exact⟨this,by omega⟩
def Ed (L:gB p P) (hX:P.X z R) (hR:At R w) (hT:ax w) (hg:aD R) (ho:Ob P z a) (hk:k≠0):
  WR 137 #[p.s.val,(a:Nat),i,k] w (.tuple #[WB (P.gw z a i k),(dx (P.ba z a) i k:Int)]) λw'=>∃R',P.X (P.gt z a i k) R'/\ag R R' w w':=by
 have HP:=wB (i:=i) L hX hR hT hg ho.pos ho.FB ho.is hk;have hfl:=@Ob.Cr σ P z a i k ho hk;have Ew:=L.Jd z a;have SO:=L.ldS z a;unfold Sp.gw Sp.gt;by_cases hf:dx (P.ba z a) i k=0
 ·obtain⟨f1,f2⟩:=hfl hf;rw[b9 hf,f2] at HP;rw[b9 hf,b9 hf,hf];rw[hf] at HP;have HL:=a_ (λR1 W hX hR hT hg=>L.load (P.ld z a) R1 W (a+1+i.toNat) hX hR hT hg (Ew _ ho.FB f1));rw[SO _ ho.FB f1] at HL;have hm:=L.ok.ok.EN;have hc:=L.ok.ok.call;have wT:=a_ HP;have zo:=a_ (λR1 W (d:ag R R1 w W)=>d.tz hT hg);have FX:=a_ (λR1 W (d:ag R R1 w W)=>d.cK hT hg);generalize P.ba z (a+1+i.toNat)=x at *;generalize a+1+i.toNat=q at *;unfold jA.val at *;clear HP hfl Ew SO L hX hR hT hg ho f1 f2 hf;go_enter func137,ntmps137
  go_wp2_with (first | (go_at_call 221;refine wT.kq ?_;rintro w1 ⟨R1,x1,d1⟩;have X1:=a_ x1;have D1:=a_ d1;clear x1 d1) | ((with_reducible refine (HL.out _ _ X1.out D1.out.at_ (zo.out _ _ D1.out) (FX.out _ _ D1.out)).mono ?_);rintro e w2 ⟨rfl,R2,x2,d2⟩;have X2:=a_ x2;have D2:=a_ (D1.trans d2);clear x2 d2))
  go_ret2
  exact⟨rfl,R2,X2,D2⟩
 ·rw[b_ hf] at HP;rw[b_ hf,b_ hf];have b1:(dx (P.ba z a) i k !=0)=true:=by rw[bne_iff_ne];exact hf
  have wT:=a_ HP;generalize dx (P.ba z a) i k=fe at *;generalize p.s.val=v at *;clear HP hfl Ew SO L hX hR hT hg ho;go_enter func137,ntmps137
  go_wp2_with (go_at_call 221;refine wT.kq ?_;rintro w1 ⟨R1,x1,d1⟩;have X1:=a_ x1;have D1:=a_ d1;clear x1 d1)
  go_ret2
  exact⟨rfl,R1,X1,D1⟩
def Jk (L:gB p P) (hX:P.X z R) (hR:At R w) (hT:ax w) (hg:aD R) (ho:Ob P z a) (hk:k≠0) (hx:x<18446744073709551616):
  WR 135 #[p.s.val,(a:Nat),i,k,WB x] w (dx (P.ba z a) i k:Int) λw'=>∃R',P.X (P.pt z a i k x) R'/\ag R R' w w':=by
 have HP:=wB (i:=i) L hX hR hT hg ho.pos ho.FB ho.is hk;have hfl:=@Ob.Cr σ P z a i k ho hk;have Ew:=L.Jd z a;unfold Sp.pt;by_cases hf:dx (P.ba z a) i k=0
 ·obtain⟨f1,f2⟩:=hfl hf;rw[b9 hf,f2] at HP;rw[b9 hf,hf];rw[hf] at HP;have HL:=a_ (λR1 W hX hR hT hg=>L.store (P.ld z a) R1 W (a+1+i.toNat) x hX hR hT hg (Ew _ ho.FB f1) hx);have hm:=L.ok.EO;have hc:=L.ok.DJ;have wT:=a_ HP;have zo:=a_ (λR1 W (d:ag R R1 w W)=>d.tz hT hg);have FX:=a_ (λR1 W (d:ag R R1 w W)=>d.cK hT hg);generalize a+1+i.toNat=q at *;unfold jA.val at *;clear HP hfl Ew L hX hR hT hg ho f1 f2 hf;go_enter func135,ntmps135
  go_wp2_with (first | (go_at_call 221;refine wT.kq ?_;rintro w1 ⟨R1,x1,d1⟩;have X1:=a_ x1;have D1:=a_ d1;clear x1 d1) | ((with_reducible refine (HL.out _ _ X1.out D1.out.at_ (zo.out _ _ D1.out) (FX.out _ _ D1.out)).mono ?_);rintro e w2 ⟨rfl,R2,x2,d2⟩;have X2:=a_ x2;have D2:=a_ (D1.trans d2);clear x2 d2))
  go_ret;exact⟨rfl,R2,X2,D2⟩
 ·rw[b_ hf] at HP;rw[b_ hf];have b1:(dx (P.ba z a) i k !=0)=true:=by rw[bne_iff_ne];exact hf
  have wT:=a_ HP;generalize dx (P.ba z a) i k=fe at *;generalize p.s.val=v at *;clear HP hfl Ew L hX hR hT hg ho;go_enter func135,ntmps135
  go_wp2_with (go_at_call 221;refine wT.kq ?_;rintro w1 ⟨R1,x1,d1⟩;have X1:=a_ x1;have D1:=a_ d1;clear x1 d1)
  go_ret;exact⟨rfl,R1,X1,D1⟩
end
def run_bits (x:Nat) (w:World):(callFunc 120 #[.float .f64 x]).run prog w= .ok (.value (.int .u64 x)) w:=by
 rw[run_callFunc_extern func120 (by kernel_rfl) (by kernel_rfl) (by kernel_rfl) (e:=Extern.MathFloatBits.float64bits) (by kernel_rfl)];rfl
def jW (x:Nat) (w:World):(callFunc 62 #[.int .u64 x]).run prog w= .ok (.value (.float .f64 x)) w:=by
 rw[run_callFunc_extern func62 (by kernel_rfl) (by kernel_rfl) (by kernel_rfl) (e:=Extern.MathFloatBits.float64frombits) (by kernel_rfl)];rfl
def pM (x:Nat) (w:World):WR 14 #[.int .u64 x] w (.float .f64 x) λw'=>w=w':=by
 have H:=jW x;go_enter func14,ntmps14;go_wp2;go_ret;exact⟨rfl,rfl⟩
def dY (x:Nat) (w:World):WR 44 #[.float .f64 x] w (.int .u64 x) λw'=>w=w':=by
 have H:=run_bits x;go_enter func44,ntmps44;go_wp2;go_ret;exact⟨rfl,rfl⟩
def pointer_nil (s:jA) (i:Int) (w:World):WR 97 #[s.val,Wy,i] w (.tuple #[Wy,(18:Int)]) λw'=>Below w.heap.size w w':=by
 have HR:=a_ (get_nil s i 1 w);generalize s.val=v at *;go_enter func97,ntmps97
 go_wp2_with (go_at_call 137;refine HR.kq ?_;rintro w1 hb;have HB:=a_ hb;clear hb)
 go_ret2
 exact⟨rfl,HB⟩
def setPointer_nil (s:jA) (i x:Int) (w:World):WR 235 #[s.val,Wy,i,x] w (18:Int) λw'=>Below w.heap.size w w':=by
 have HR:=a_ (pQ s i 1 w);generalize s.val=v at *;go_enter func235,ntmps235
 go_wp2_with (go_at_call 221;refine HR.kq ?_;rintro w1 hb;have HB:=a_ hb;clear hb)
 go_ret;exact⟨rfl,HB⟩
def float_nil (s:jA) (i:Int) (w:World):WR 63 #[s.val,Wy,i] w (.tuple #[.float .f64 0,(18:Int)]) λw'=>Below w.heap.size w w':=by
 have HR:=a_ (get_nil s i 2 w);generalize s.val=v at *;go_enter func63,ntmps63
 go_wp2_with (first | (go_at_call 137;refine HR.kq ?_;rintro w1 hb;have HB:=a_ hb;clear hb) | (go_at_call 14;refine (pM _ _).kq ?_;rintro w2 rfl))
 go_ret2
 exact⟨rfl,HB⟩
def setFloat_nil (s:jA) (i:Int) (x:Nat) (w:World):WR 59 #[s.val,Wy,i,.float .f64 x] w (18:Int) λw'=>Below w.heap.size w w':=by
 have HR:=a_ (λW=>set_nil s i 2 x W);generalize s.val=v at *;go_enter func59,ntmps59
 go_wp2_with (first | (go_at_call 135;refine (HR _).kq ?_;rintro w1 hb;have HB:=a_ hb;clear hb) | (go_at_call 44;refine (dY _ _).kq ?_;rintro w2 rfl))
 go_ret;exact⟨rfl,HB⟩
def word_nil (s:jA) (i:Int) (w:World):WR 99 #[s.val,Wy,i] w (.tuple #[.int .u64 0,(18:Int)]) λw'=>Below w.heap.size w w':=by
 have HR:=a_ (get_nil s i 3 w);generalize s.val=v at *;go_enter func99,ntmps99
 go_wp2_with (go_at_call 137;refine HR.kq ?_;rintro w1 hb;have HB:=a_ hb;clear hb)
 go_ret2
 exact⟨rfl,HB⟩
def setWord_nil (s:jA) (i:Int) (x:Nat) (w:World):WR 236 #[s.val,Wy,i,.int .u64 x] w (18:Int) λw'=>Below w.heap.size w w':=by
 have HR:=a_ (set_nil s i 3 x w);generalize s.val=v at *;go_enter func236,ntmps236
 go_wp2_with (go_at_call 135;refine HR.kq ?_;rintro w1 hb;have HB:=a_ hb;clear hb)
 go_ret;exact⟨rfl,HB⟩
section
variable {σ:Type} {p:FA} {P:Sp σ} {z:σ} {R:BL} {w w':World} {a:Nat} {i k:Int} {x:Nat}
def uV (L:gB p P) (hX:P.X z R) (hR:At R w) (hT:ax w) (hg:aD R) (ho:Ob P z a) (hle:P.gw z a i 1<=2147483647):
  WR 97 #[p.s.val,(a:Nat),i] w (.tuple #[(P.gw z a i 1:Nat),(dx (P.ba z a) i 1:Int)]) λw'=>∃R',P.X (P.gt z a i 1) R'/\ag R R' w w':=by
 have HG:=a_ (Ed (i:=i) (k:=1) L hX hR hT hg ho (by decide));have II:dx (P.ba z a) i 1≠0->P.gw z a i 1=0:=λh=>b_ h
 generalize P.gw z a i 1=x at *;generalize P.gt z a i 1=z' at *;generalize dx (P.ba z a) i 1=fe at *;generalize p.s.val=v at *;have x1:(x:Int)<=2147483647:=by omega
 have g1:¬(2147483647:Int)<x:=by omega
 have g2:decide ((2147483647:Int)<x)=false:=decide_eq_false g1;have s1:IntKind.i64.wrap (x:Int)=(x:Int):=IntWalk.i64_in _ (by omega);clear hX hR hT hg ho L;by_cases h0:fe=0
 ·subst h0;clear II;go_enter func97,ntmps97
  go_wp2_with (go_at_call 137;refine HG.kq ?_;rintro w1 ⟨R1,x1,d1⟩;have X1:=a_ x1;have D1:=a_ d1;clear x1 d1)
  go_ret2
  exact⟨rfl,R1,X1,D1⟩
 ·obtain rfl:=II h0;have b1:(fe !=0)=true:=by rw[bne_iff_ne];exact h0
  clear II h0;go_enter func97,ntmps97
  go_wp2_with (go_at_call 137;refine HG.kq ?_;rintro w1 ⟨R1,x1,d1⟩;have X1:=a_ x1;have D1:=a_ d1;clear x1 d1)
  go_ret2
  exact⟨rfl,R1,X1,D1⟩
def ou (L:gB p P) (hX:P.X z R) (hR:At R w) (hT:ax w) (hg:aD R) (ho:Ob P z a) (hx:x<=2147483647):
  WR 235 #[p.s.val,(a:Nat),i,(x:Nat)] w (dx (P.ba z a) i 1:Int) λw'=>∃R',P.X (P.pt z a i 1 x) R'/\ag R R' w w':=by
 have HP:=wB (i:=i) (k:=1) L hX hR hT hg ho.pos ho.FB ho.is (by decide);have hfl:=@Ob.Cr σ P z a i 1 ho (by decide);have Ew:=L.Jd z a;have x1:(x:Int)<=2147483647:=by omega
 have g1:¬(2147483647:Int)<x:=by omega
 have g2:decide ((2147483647:Int)<x)=false:=decide_eq_false g1;have g3:¬(x:Int)<0:=by omega
 have g4:decide ((x:Int)<0)=false:=decide_eq_false g3;have s1:IntKind.u64.wrap (x:Int)=(x:Int):=IntWalk.u64_in _ (by omega);unfold Sp.pt;by_cases hf:dx (P.ba z a) i 1=0
 ·obtain⟨f1,f2⟩:=hfl hf;rw[b9 hf,f2] at HP;rw[b9 hf,hf];rw[hf] at HP;have HL:=a_ (λR1 W hX hR hT hg=>L.store (P.ld z a) R1 W (a+1+i.toNat) x hX hR hT hg (Ew _ ho.FB f1) (by omega));have hm:=L.ok.EO;have hc:=L.ok.DJ;have wT:=a_ HP;have zo:=a_ (λR1 W (d:ag R R1 w W)=>d.tz hT hg);have FX:=a_ (λR1 W (d:ag R R1 w W)=>d.cK hT hg);generalize a+1+i.toNat=q at *;unfold jA.val at *;clear HP hfl Ew L hX hR hT hg ho f1 f2 hf;go_enter func235,ntmps235
  go_wp2_with (first | (go_at_call 221;refine wT.kq ?_;rintro w1 ⟨R1,x1,d1⟩;have X1:=a_ x1;have D1:=a_ d1;clear x1 d1) | ((with_reducible refine (HL.out _ _ X1.out D1.out.at_ (zo.out _ _ D1.out) (FX.out _ _ D1.out)).mono ?_);rintro e w2 ⟨rfl,R2,x2,d2⟩;have X2:=a_ x2;have D2:=a_ (D1.trans d2);clear x2 d2))
  go_ret;exact⟨rfl,R2,X2,D2⟩
 ·rw[b_ hf] at HP;rw[b_ hf];have b1:(dx (P.ba z a) i 1 !=0)=true:=by rw[bne_iff_ne];exact hf
  have wT:=a_ HP;generalize dx (P.ba z a) i 1=fe at *;generalize p.s.val=v at *;clear HP hfl Ew L hX hR hT hg ho;go_enter func235,ntmps235
  go_wp2_with (go_at_call 221;refine wT.kq ?_;rintro w1 ⟨R1,x1,d1⟩;have X1:=a_ x1;have D1:=a_ d1;clear x1 d1)
  go_ret;exact⟨rfl,R1,X1,D1⟩
def float_w (L:gB p P) (hX:P.X z R) (hR:At R w) (hT:ax w) (hg:aD R) (ho:Ob P z a):
  WR 63 #[p.s.val,(a:Nat),i] w (.tuple #[.float .f64 (P.gw z a i 2:Nat),(dx (P.ba z a) i 2:Int)]) λw'=>∃R',P.X (P.gt z a i 2) R'/\ag R R' w w':=by
 have HG:=a_ (Ed (i:=i) (k:=2) L hX hR hT hg ho (by decide));generalize P.gw z a i 2=x at *;generalize P.gt z a i 2=z' at *;generalize dx (P.ba z a) i 2=fe at *;generalize p.s.val=v at *;clear hX hR hT hg ho L;go_enter func63,ntmps63
 go_wp2_with (first | (go_at_call 137;refine HG.kq ?_;rintro w1 ⟨R1,x1,d1⟩;have X1:=a_ x1;have D1:=a_ d1;clear x1 d1) | (go_at_call 14;refine (pM _ _).kq ?_;rintro w2 rfl))
 go_ret2
 exact⟨rfl,R1,X1,D1⟩
def setFloat_w (L:gB p P) (hX:P.X z R) (hR:At R w) (hT:ax w) (hg:aD R) (ho:Ob P z a) (hx:x<18446744073709551616):
  WR 59 #[p.s.val,(a:Nat),i,.float .f64 x] w (dx (P.ba z a) i 2:Int) λw'=>∃R',P.X (P.pt z a i 2 x) R'/\ag R R' w w':=by
 have HG:=a_ (Jk (i:=i) (k:=2) L hX hR hT hg ho (by decide) hx);generalize P.pt z a i 2 x=z' at *;generalize dx (P.ba z a) i 2=fe at *;generalize p.s.val=v at *;clear hX hR hT hg ho L;go_enter func59,ntmps59
 go_wp2_with (first | (go_at_call 135;refine HG.kq ?_;rintro w1 ⟨R1,x1,d1⟩;have X1:=a_ x1;have D1:=a_ d1;clear x1 d1) | (go_at_call 44;refine (dY _ _).kq ?_;rintro w2 rfl))
 go_ret;exact⟨rfl,R1,X1,D1⟩
def word_w (L:gB p P) (hX:P.X z R) (hR:At R w) (hT:ax w) (hg:aD R) (ho:Ob P z a):
  WR 99 #[p.s.val,(a:Nat),i] w (.tuple #[WB (P.gw z a i 3),(dx (P.ba z a) i 3:Int)]) λw'=>∃R',P.X (P.gt z a i 3) R'/\ag R R' w w':=by
 have HG:=a_ (Ed (i:=i) (k:=3) L hX hR hT hg ho (by decide));generalize P.gw z a i 3=x at *;generalize P.gt z a i 3=z' at *;generalize dx (P.ba z a) i 3=fe at *;generalize p.s.val=v at *;clear hX hR hT hg ho L;go_enter func99,ntmps99
 go_wp2_with (go_at_call 137;refine HG.kq ?_;rintro w1 ⟨R1,x1,d1⟩;have X1:=a_ x1;have D1:=a_ d1;clear x1 d1)
 go_ret2
 exact⟨rfl,R1,X1,D1⟩
def setWord_w (L:gB p P) (hX:P.X z R) (hR:At R w) (hT:ax w) (hg:aD R) (ho:Ob P z a) (hx:x<18446744073709551616):
  WR 236 #[p.s.val,(a:Nat),i,WB x] w (dx (P.ba z a) i 3:Int) λw'=>∃R',P.X (P.pt z a i 3 x) R'/\ag R R' w w':=by
 have HG:=a_ (Jk (i:=i) (k:=3) L hX hR hT hg ho (by decide) hx);generalize P.pt z a i 3 x=z' at *;generalize dx (P.ba z a) i 3=fe at *;generalize p.s.val=v at *;clear hX hR hT hg ho L;go_enter func236,ntmps236
 go_wp2_with (go_at_call 135;refine HG.kq ?_;rintro w1 ⟨R1,x1,d1⟩;have X1:=a_ x1;have D1:=a_ d1;clear x1 d1)
 go_ret;exact⟨rfl,R1,X1,D1⟩
end
def tu (T:TypeId) (v:Value) (w:World):(binOp .eql 106 (.iface T v) .nilIface).run prog w= .ok (.bool false) w:=by kernel_rfl
def told_info:(prog.info? 290).map (λi=>(i.zero,i.size,i.bytes))=some (some (.agg #[Wy,.int .u64 0]),2,16):=by kernel_rfl
def oe (l:List (Nat×Nat)):List Value:=(l.map λp=> [Value.int .i64 p.1,Value.int .u64 p.2]).flatten
def oldcells_snoc (l:List (Nat×Nat)) (p:Nat×Nat):oe (l++ [p])=oe l++ [.int .i64 p.1,.int .u64 p.2]:=by simp[oe]
def zM {σ:Type} (wk:Nat) (p:FA) (P:Sp σ) (z:σ) (l:List (Nat×Nat)) (R:BL):Prop:=
 ∃al cap Rl Rx,R=(wk,.cells #[p.s.val,.slice al l.length cap] 284 (0,0))::(Rl++Rx)/\Rz 290 2 l.length (oe l) al cap Rl/\P.X z Rx
section
variable {σ:Type} {p:FA} {P:Sp σ} {z:σ} {R:BL} {w w':World} {a wk x:Nat} {l:List (Nat×Nat)}
def BY (L:gB p P) (h:zM wk p P z l R) (hR:At R w) (hT:ax w) (hg:aD R) (hD:P.D z a):
  WR 211 #[Wz wk,(a:Nat)] w (WB (P.ba z a)) λw'=>∃R',zM wk p P (P.ld z a) l R'/\ag R R' w w':=by
 obtain⟨al,cap,Rl,Rx,rfl,hr,hX⟩:=h;have c0:w.cell? ⟨wk,0,none⟩=some (.iface p.s.T p.s.v):=an hR.1.head 0 _ rfl;have he:=tu p.s.T p.s.v;have hm:=L.ok.ok.EN;have hc:=L.ok.ok.call;have HL:=a_ (L.load z Rx w a hX hR.tail.right hT (λq=>hg (Keys.cons.2 (.inr (Keys.app.2 (.inr q))))) hD);have D0:=a_ (ag.refl hR);have Hr:=a_ hr;generalize P.ba z a=y at *;clear hX hR hT hg hD hr;go_enter func211,ntmps211
 go_wp2_with ((with_reducible refine HL.out.mono ?_);rintro e w1 ⟨rfl,R',x1,d1⟩;have X1:=a_ x1;have D1:=a_ ((D0.out.perm (R':=Rx++((wk,.cells #[p.s.val,.slice al l.length cap] 284 (0,0))::Rl)) aF).step d1);clear x1 d1)
 go_ret;exact⟨rfl,_,⟨al,cap,Rl,R',rfl,Hr,X1⟩,D1.perm aF⟩
def tJ (L:gB p P) (h:zM wk p P z l R) (hR:At R w) (hT:ax w) (hg:aD R) (hD:P.D z a) (hx:x<18446744073709551616) (hl:l.length<=1000000):
  WR 132 #[Wz wk,(a:Nat),WB x] w (.tuple #[]) λw'=>∃R',zM wk p P (P.st (P.ld z a) a x) (l++ [(a,P.ba z a)]) R'/\ag R R' w w':=by
 have HL:=a_ (BY L h hR hT hg hD);have zo:=a_ (λR1 W (d:ag R R1 w W)=>d.tz hT hg);have FX:=a_ (λR1 W (d:ag R R1 w W)=>d.cK hT hg);have HS:=a_ (λR1 W hX hR hT hg=>L.store (P.ld z a) R1 W a x hX hR hT hg (L.Jd z a a hD hD) hx);obtain⟨i1,hj,sB,oQ,sC⟩:=info_parts told_info;have hw:w.cell? ⟨wk,0,none⟩=some (.iface p.s.T p.s.v):=by
  obtain⟨al,cap,Rl,Rx,rfl,hr,hX⟩:=h;exact an hR.1.head 0 _ rfl
 have he:=tu p.s.T p.s.v;have hm:=L.ok.EO;have hc:=L.ok.DJ;have Hs:=a_ (show Go.Proofs.YtmdgfpeglgpiiaaGreatDoor.jA.val p.s= .iface p.s.T p.s.v from rfl);generalize P.ba z a=y at *;clear h hR hT hg hD;go_enter func132,ntmps132
 go_wp2_with (go_at_call 211;refine HL.kq ?_;rintro w1 ⟨R1,⟨al,cap,Rl,Rx,rfl,hr,hX⟩,d1⟩;have c0:w1.cell? ⟨wk,0,none⟩=some (.iface p.s.T p.s.v):=an d1.has.head 0 _ rfl;have Hr:=a_ hr;have HX:=a_ hX;have D1:=a_ d1;have Dl:=a_ (HS _ _ HX D1.at_.tail.right (zo _ _ D1) (λq=>FX _ _ D1 (Keys.cons.2 (.inr (Keys.app.2 (.inr q))))));clear hr hX d1 hw)
 refine Dl.kq ?_;rintro w2 ⟨R2,x2,d2⟩;have X2:=a_ x2;have D2:=a_ ((D1.perm (R':=Rx++((wk,.cells #[p.s.val,.slice al l.length cap] 284 (0,0))::Rl)) aF).step d2);clear x2 d2 Dl c0;have c1:w2.cell? ⟨wk,1,none⟩=some (.slice al l.length cap):=an D2.has.right.head 1 _ rfl;obtain⟨wU,eO,w5,AA,hrun,kz,hN⟩:=Hr.LD (K:=(wk,.cells #[p.s.val,.slice al l.length cap] 284 (0,0))::R2) (D2.perm (R':=Rl++((wk,.cells #[p.s.val,.slice al l.length cap] 284 (0,0))::R2)) aF) hj sB oQ sC rfl (by decide) underlying282 #[.int .i64 a,.int .u64 y] rfl (by intro u hu;simp only[List.mem_cons,List.not_mem_nil,or_false] at hu;rcases hu with rfl | rfl<;>rfl) (by unfold maxLen;omega) (by omega);obtain⟨et,Az,HN⟩:=dF hrun kz hN;have q5:=hN.has.right.head;have b1:=an q5 1 _ rfl;have f1:=br q5 1;clear hrun kz hN q5;generalize Gy:l.length=n at *;have Ln:=a_ Gy;clear Gy
 go_wp2_with (at_builtin;refine cP _ rfl (.tmp 37) (.tmp 41) 282 rfl _ _ _ _ rfl rfl et ?_)
 go_end0
 have hlen:(l++ [(a,y)]).length=n+1:=by rw[List.length_append,Ln.out];rfl
 have D9:=(HN.perm (R':=(wk,.cells #[p.s.val,.slice al n cap] 284 (0,0))::(AA++R2)) aF).set 1 (.slice wU (n+1) eO);refine⟨rfl,_,⟨wU,eO,AA,R2,rfl,?_,X2⟩,?_⟩
 ·rw[hlen,oldcells_snoc];exact Az
 ·rw[hlen];exact D9
end
section
variable {R0 R K:BL} {w0 w w':World} {wk:Nat}
def part_wk {F:FuncId} {caps:Array Value} (hF:∀args w,(callFunc F args).run prog w= .ok (.enter F args) w) {sv:Value} {Post:BL->Prop}
  (hD:ag R0 ((wk,WD #[sv,.slice none 0 0] 284)::R) w0 w)
  (hd:∀E W,ag R0 ((wk,.cells #[sv,.slice none 0 0] 284 (0,0))::(E++R)) w0 W->Calls prog F (#[.pointer (some ⟨wk,0,none⟩)]++caps) W λe W'=>e= .returned (.tuple #[])/\∃R',Post R'/\ag R0 (E++R') w0 W'):
  WR 210 #[Wz wk,.func (.func F) #[] caps] w (.agg #[Wy,Wy]) λw'=>∃R',Post R'/\ag R0 R' w0 w':=by
 have SQ:∀(fn:Fn) (first cap:Array Value) (w:World),(Instr.makeFunc fn first cap).run prog w= .ok (.func fn first cap) w:=λ_ _ _ _=>rfl
 have nJ:=hD.box #[Wz wk] 204;have wV:=nJ.box #[Wy,Wy] 202;have FE:=wV.box #[Wy] 3;have c1:((w.alloc (.cells #[Wz wk] 204)).alloc (.cells #[Wy,Wy] 202)).cell? ⟨wk,1,none⟩=some (.slice none 0 0):=an wV.has.tail.tail.head 1 _ rfl;have HD:=a_ hd;simp only[World.size_alloc] at FE;have H:=a_ (FE.perm (R':=(wk,.cells #[sv,.slice none 0 0] 284 (0,0))::(((w.heap.size+1+1,.cells #[Wy] 3 (0,0))::(w.heap.size+1,.cells #[Wy,Wy] 202 (0,0))::(w.heap.size,.cells #[Wz wk] 204 (0,0)):: [])++R)) aF);clear nJ wV FE hD hd
 go_enter_defers func210,ntmps210
 go_wp2_with (fail)
 refine (HD _ _ H).mono ?_;rintro e1 w1 ⟨rfl,R',hp,h1⟩;simp only[aU,List.cons_append,List.nil_append] at h1;have hb4:=h1.has.tail.head;obtain⟨d4,d5, -⟩:=qN hb4;obtain⟨f4,f5, -⟩:=Nd hb4;have H1:=a_ ((h1.tj.set 0 Wy).set 1 Wy);have HP:=a_ hp;clear h1 hb4 hp;go_wp2;refine leaves_cons (f:=273) (args:= #[.pointer (some ⟨w.heap.size,0,none⟩),.pointer (some ⟨w.heap.size+1+1,0,none⟩),.pointer (some ⟨w.heap.size+1,0,none⟩)]) (by simp) (by simp[go_sem]) ?_;refine (qD _).mono ?_;rintro e u' Mi ⟨rfl,rfl,rfl⟩;have H2:=H1;generalize (w1.setCell ⟨w.heap.size+1,0,none⟩ (.int .i64 0)).setCell ⟨w.heap.size+1,1,none⟩ (.int .i64 0)=w2 at *;have dw:=H2.has.head;have q4:w2.cell? ⟨w.heap.size+1,0,none⟩=some (.int .i64 0):=an dw 0 _ rfl;have q5:w2.cell? ⟨w.heap.size+1,1,none⟩=some (.int .i64 0):=an dw 1 _ rfl;simp[Leaves,settle,results,results210,go_sem,q4,q5];exact⟨R',HP,H2.tail.tail.tail⟩
def Fh {F:FuncId} {caps:Array Value} (hF:∀args w,(callFunc F args).run prog w= .ok (.enter F args) w) {sT:TypeId} {sV:Value} {Post:BL->Prop}
  (hD:ag R0 R w0 w)
  (hd:∀wk E W,ag R0 ((wk,.cells #[.iface sT sV,.slice none 0 0] 284 (0,0))::(E++R)) w0 W->Calls prog F (#[.pointer (some ⟨wk,0,none⟩)]++caps) W λe W'=>e= .returned (.tuple #[])/\∃R',Post R'/\ag R0 (E++R') w0 W'):
  WR 130 #[.iface sT sV,.func (.func F) #[] caps] w (.agg #[Wy,Wy]) λw'=>∃R',Post R'/\ag R0 R' w0 w':=by
 have hB:=hD.box #[Wy,Wy] 202;have nJ:=hB.box #[.iface sT sV,.slice none 0 0] 284;have HP:=a_ (part_wk (R:=(w.heap.size,.cells #[Wy,Wy] 202 (0,0))::R) hF (Post:=λR1=>∃R',R1=(w.heap.size,.cells #[Wy,Wy] 202 (0,0))::R'/\Post R') nJ (λE W hW=>(hd _ (E++ [(w.heap.size,.cells #[Wy,Wy] 202 (0,0))]) W (hW.perm aF)).mono λe W' ⟨h1,R',h2,h3⟩=>⟨h1,_,⟨R',rfl,h2⟩,h3.perm aF⟩));clear hD hd hB nJ;go_enter func130,ntmps130
 go_wp2_with (go_at_call 210;have hp:=HP.out;simp only[aU] at hp;refine hp.mono ?_;rintro e1 w1 ⟨rfl,R1,⟨R',rfl,hp1⟩,h1⟩;have hb4:=h1.has.head;have f4:=br hb4 0;have f5:=br hb4 1;have d4:=an hb4 0 _ rfl;have d5:=an hb4 1 _ rfl;have H1:=a_ ((h1.set 0 Wy).set 1 Wy);have wT:=a_ hp1;clear h1 hb4 hp1 hp)
 have H2:=H1;generalize (w1.setCell ⟨w.heap.size,0,none⟩ (.int .i64 0)).setCell ⟨w.heap.size,1,none⟩ (.int .i64 0)=w2 at *;have dw:=H2.has.head;have q4:w2.cell? ⟨w.heap.size,0,none⟩=some (.int .i64 0):=an dw 0 _ rfl;have q5:w2.cell? ⟨w.heap.size,1,none⟩=some (.int .i64 0):=an dw 1 _ rfl;exact bodyPost_ret (v:= .agg #[Wy,Wy]) (by simp[results,results130,go_sem,q4,q5]) rfl ⟨rfl,R',wT,H2.tail⟩
end
def Sp.sw {σ:Type} (P:Sp σ) (z:σ) (a x:Nat):σ:=P.st (P.ld z a) a x
def Sp.mk' {σ:Type} (P:Sp σ) (z:σ) (a x:Nat):Nat->σ
 | 0=>P.sw z a x
 | n+1=>P.sw (P.mk' z a x n) (a+1+n) 0
def make1_enter (args:Array Value) (w:World):(callFunc 131 args).run prog w= .ok (.enter 131 args) w:=by
 kernel_rfl
def word_lt (p f o:Nat) (h:Hd.Ok p f o):Hd.dv p f o<18446744073709551616:=by
 unfold Hd.Ok at h;unfold Hd.dv Hd.low;omega
section
variable {σ:Type} {p:FA} {P:Sp σ} {z:σ} {R0 Rx K E:BL} {w0 w w':World} {a wk x b4 b5 b7 n:Nat}
def Sp.EP (L:gB p P) (hst:∀z b c x,P.D z b->P.D z c->P.D (P.st z b x) c):∀(n:Nat),(∀i,i<=n->P.D z (a+i))->∀c,P.D z c->P.D (P.mk' z a x n) c
 | 0,h,c,hc=>hst _ _ _ _ (L.Jd _ _ _ (h 0 (Nat.le_refl _)) (h 0 (Nat.le_refl _))) (L.Jd _ _ _ (h 0 (Nat.le_refl _)) hc)
 | n+1,h,c,hc=>by
  have ih:=Sp.EP L hst n (λi hi=>h i (by omega));have h1:=ih _ (h (1+n) (by omega));rw[←Nat.add_assoc] at h1;exact hst _ _ _ _ (L.Jd _ _ _ h1 h1) (L.Jd _ _ _ h1 (ih c hc))
def make1_w (L:gB p P) (hst:∀z b c x,P.D z b->P.D z c->P.D (P.st z b x) c) (pp f o:Nat) (hok:Hd.Ok pp f o) (hx:x<18446744073709551616) (hdom:∀i,i<=pp+f+o->P.D z (a+i)) (hX:P.X z Rx) (hT:ax w0) (hg:aD R0)
  (hD:ag R0 ((wk,.cells #[p.s.val,.slice none 0 0] 284 (0,0))::(E++((b7,.cells #[.int .u64 x] 33 (0,0))::(b5,.cells #[pp,f,o] 31 (0,0))::(b4,.cells #[a] 3 (0,0))::(Rx++K)))) w0 w):
  WR 131 #[Wz wk,Wz b4,Wz b7,Wz b5] w (.tuple #[]) λw'=>∃R',(∃Rx',P.X (P.mk' z a x (pp+f+o)) Rx'/\R'=Rx'++K)/\ag R0 (E++R') w0 w':=by
 obtain⟨s,hs⟩:∃s,pp+f+o=s:=⟨_,rfl⟩
 have IX:s<=255:=by unfold Hd.Ok at hok;omega
 have hsz:Hd.dH pp f o=1+s:=by unfold Hd.dH;rw[b9 hok];omega
 rw[hs] at hdom ⊢;have Ex:=L.low z (a+0) (hdom 0 (Nat.zero_le _));have q7:=hD.has.tail.right.head;have q5:=hD.has.tail.right.tail.head;have c7:=an q7 0 (.int .u64 x) rfl;have c4:=an hD.has.tail.right.tail.tail.head 0 (.int .i64 a) rfl;have nc:=λW=>Hd.iC pp f o W
 rw[hsz] at nc;unfold Hd.hv at nc;replace nc:=a_ nc;have GG:zM wk p P z [] ((wk,.cells #[p.s.val,.slice none 0 0] 284 (0,0))::([]++Rx)):=⟨none,0,[],Rx,rfl,Rw.nil _ _ _,hX⟩
 have Kg:=hD.perm (R':=((wk,.cells #[p.s.val,.slice none 0 0] 284 (0,0))::([]++Rx))++((b4,.cells #[a] 3 (0,0))::(b5,.cells #[pp,f,o] 31 (0,0))::(b7,.cells #[.int .u64 x] 33 (0,0))::(E++K))) aF;have HS0:=a_ (tJ (w:=w) (x:=x) L GG Kg.at_.left (Kg.tz hT hg) (aD.app.1 (Kg.cK hT hg)).1 (hdom 0 (Nat.zero_le _)) hx (by simp));have oS:=a_ (λk l1 Rw K1 W (hk:k<s) (hl:l1.length<=1000) (hW:zM wk p P (P.mk' z a x k) l1 Rw) (hd:ag R0 (Rw++K1) w0 W)=>(show WR 132 #[Wz wk,((a:Int)+1+k:Int),.int .u64 0] W (.tuple #[]) λw'=>∃R',zM wk p P (P.mk' z a x (k+1)) (l1++ [(a+1+k,P.ba (P.mk' z a x k) (a+1+k))]) R'/\ag Rw R' W w' from by
  have LQ:P.D (P.mk' z a x k) (a+1+k):=Sp.EP L hst k (λi hi=>hdom i (by omega)) _ (by
   have:=hdom (1+k) (by omega);rw[←Nat.add_assoc] at this;exact this)
  have:=tJ (w:=W) (a:=a+1+k) (x:=0) L hW hd.at_.left (hd.tz hT hg) (aD.app.1 (hd.cK hT hg)).1 LQ (by decide) (by omega);rw[show ((a+1+k:Nat):Int)=(a:Int)+1+k from by omega] at this;exact this))
 obtain⟨HDp,Hs⟩:=aO Kg hs;clear hD hX hok hdom Kg GG q7 q5 hsz hs L hst hT hg;go_enter func131,ntmps131
 go_wp2_with (first
  | (go_at_call 132;refine HS0.kq ?_;rintro w5 ⟨Rw5,x5,d5⟩;have X5:=a_ x5;have D5:=a_ (HDp.step d5);have q:=D5.has.right.tail.head;have d0:=an q 0 (.int .i64 pp) rfl;have d1:=an q 1 (.int .i64 f) rfl;have d2:=an q 2 (.int .i64 o) rfl;clear x5 d5 q)
  | (go_at_call 52;refine (nc _).kq ?_;rintro w6 hb;have D6:=a_ (D5.grow hb);clear hb))
 clear D5 d0 d1 d2
 go_loopw [13] (λi wr=>∃(k:Nat) (l1:List (Nat×Nat)) (Rw:BL),i= .int .i64 k/\k<=s/\l1.length=k+1/\zM wk p P (P.mk' z a x k) l1 Rw/\ag R0 (Rw++((b4,.cells #[a] 3 (0,0))::(b5,.cells #[pp,f,o] 31 (0,0))::(b7,.cells #[.int .u64 x] 33 (0,0))::(E++K))) w0 wr) (λi _=>s-(intOf i).toNat)
 case atStart=>exact⟨0,_,Rw5,rfl,by omega,rfl,X5,D6⟩
 case round=>
  clear D6;obtain⟨k,l1,Rw,rfl,hk,xc,hW,hD⟩:=hrel;by_cases hlt:k<s
  ·have JD:=a_ (oS k l1 Rw _ wr hlt (by omega) hW hD);have c4:=an hD.has.right.head 0 (.int .i64 a) rfl;have D1:=a_ hD;have k1:(k:Int)<s:=by omega
   have k2:(0:Int)<=k:=by omega
   clear hW hD
   go_wp2_with (go_at_call 132;refine JD.kq ?_;rintro w7 ⟨JP,x7,d7⟩;have X7:=a_ x7;have D7:=a_ (D1.step d7);clear x7 d7)
   go_roundw
   case rel=>exact⟨k+1,_,JP,by go_num,by omega,by rw[List.length_append,xc];rfl,X7,D7⟩
   case measure=>simp[intOf];omega
  ·obtain rfl:k=s:=by omega
   obtain⟨RJ,D1⟩:=aO hW hD;clear hW hD;go_wp2
   go_end0
   obtain⟨al,cap,Rl,Rx',rfl, -,hX⟩:=RJ.out;refine⟨rfl,Rx'++K,⟨Rx',hX,rfl⟩,?_⟩;exact ag.drop (A:=(wk,.cells #[p.s.val,.slice al l1.length cap] 284 (0,0))::(b4,.cells #[a] 3 (0,0))::(b5,.cells #[pp,f,o] 31 (0,0))::(b7,.cells #[.int .u64 x] 33 (0,0))::Rl) (D1.perm (by simp only[List.cons_append];exact aF))
def make_w (L:gB p P) (hst:∀z b c x,P.D z b->P.D z c->P.D (P.st z b x) c) (pp f o:Nat) (hok:Hd.Ok pp f o) (ha:0<a) (hdom:∀i,i<=pp+f+o->P.D z (a+i)) (hX:P.X z Rx) (hT:ax w) (hg:aD Rx) (hR:At Rx w):
  WR 53 #[p.s.val,(a:Nat),Hd.hv pp f o] w Wy λw'=>∃Rx',P.X (P.mk' z a (Hd.dv pp f o) (pp+f+o)) Rx'/\ag Rx Rx' w w':=by
 have SQ:∀(fn:Fn) (first cap:Array Value) (w:World),(Instr.makeFunc fn first cap).run prog w= .ok (.func fn first cap) w:=λ_ _ _ _=>rfl
 have zU:∀(x y:Int) (w:World),(Instr.field 202 (.agg #[x,y]) 0).run prog w= .ok (.int .i64 x) w:=λx y w=>by kernel_rfl
 have My:=λW=>Hd.put_yes pp f o W hok
 have Eh:=λ(b4 b5 b7:Nat) (W:World) (hD:ag Rx ((b7,.cells #[WB (Hd.dv pp f o)] 33 (0,0))::(b5,.cells #[pp,f,o] 31 (0,0))::(b4,.cells #[a] 3 (0,0))::(Rx++ [])) w W)=>Fh (F:=131) (caps:= #[.pointer (some ⟨b4,0,none⟩),.pointer (some ⟨b7,0,none⟩),.pointer (some ⟨b5,0,none⟩)]) make1_enter (sT:=p.s.T) (sV:=p.s.v) hD (λwk E W hW=>make1_w (b4:=b4) (b5:=b5) (b7:=b7) (K:= []) L hst pp f o hok (word_lt pp f o hok) hdom hX hT hg hW)
 have et:=a_ Eh;have D0:=((ag.refl hR).box #[a] 3).box #[pp,f,o] 31;rw[aU] at D0;have HB:=a_ D0;have TA:=a_ (List.append_nil Rx);have Ex:=L.low z (a+0) (hdom 0 (Nat.zero_le _));have a1:(0:Int)<a:=by omega
 have a2:¬(a:Int)<=0:=by omega
 have a3:(a:Int)<=1048576:=by omega
 generalize Hd.dv pp f o=wd at *;unfold Hd.hv at My;have HP:=a_ My;unfold jA.val Hd.hv at *;clear My Eh D0 hX hT hg hR hdom hok L hst Ex;go_enter func53,ntmps53
 go_wp2_with (first
  | (go_at_call 129;refine (HP _).kq ?_;rintro w1 hb;have H1:=a_ ((HB.grow hb).box #[.int .u64 wd] 33);clear hb)
  | (go_at_call 130;refine (et _ _ _ _ (by rw[TA.out];exact H1)).kq ?_;rintro w2 ⟨R',⟨Rx',Dd,rfl⟩,h2⟩;have X2:=a_ Dd;have H2:=a_ h2;clear h2 Dd))
 go_ret;refine⟨rfl,Rx',X2,?_⟩;have:=H2.out;rw[List.append_nil] at this;exact this
end
def cF (m:Nat):FA:=⟨mK m,259,.pointer (some ⟨m,0,none⟩)⟩
def uP (m:Nat):Dw (cF m):=⟨uO m,λw=>(by kernel_rfl),λargs w=>(by kernel_rfl)⟩
def bT (m d_ c_ e_ t:Nat):Sp VS:=⟨λv R=>aH m d_ c_ e_ t v R/\fp v,λv a=>cR d_ c_ v a/\a<=1048576,λv a=>v.wd a,λv _=>v,λv a x=>fB v a x⟩
section
variable {m d_ c_ e_ t:Nat}
def eQ:gB (cF m) (bT m d_ c_ e_ t):=by
 refine⟨uP m,λz R a hX _=>hX.2 a,λz a h=>h.2,λz a b _ h=>h,λz a b _ _=>rfl,λz R W a hX hR hT hg hD=>?_,λz R W a x hX hR hT hg hD hx=>?_⟩
 ·obtain⟨e1,e2⟩:=fS hD.1;have:=jN hX.1 hR.1 (a:Nat);rw[e1,e2] at this;refine this.kq ?_;rintro w' hb;exact⟨rfl,R,hX,(ag.refl hR).grow hb⟩
 ·obtain⟨e1,e2⟩:=fS hD.1;have:=la hX.1 hR (a:Nat) x hx;have e:du d_ c_ z a x=fB z a x:=by
   unfold du;rw[b9 e1];rfl
  rw[e1,e] at this;refine this.kq ?_;rintro w' ⟨R',h1,h2⟩;exact⟨rfl,R',⟨h1,hX.2.put a hx⟩,h2⟩
def memSp_dom:∀(z:VS) b c x,(bT m d_ c_ e_ t).D z b->(bT m d_ c_ e_ t).D z c->(bT m d_ c_ e_ t).D ((bT m d_ c_ e_ t).st z b x) c:=λz b c x _ h=>h
end
def u64_info':(prog.info? 33).map (λi=>(i.zero,i.size,i.bytes))=some (some (.int .u64 0),1,8):=by kernel_rfl
def qd (n:Nat):Array Value:=(List.replicate n (Value.int .u64 0)).toArray
def made_words (n:Nat):madeCells (Value.int .u64 0).cells (n*1)=qd n:=by
 apply Array.toList_inj.1;rw[Nat.mul_one];show (madeCells #[Value.int .u64 0] n).toList=_
 rw[toList_madeCells_one];simp[qd]
def zL (n:Nat) (f:Nat->Nat) (cur:Array Value):Prop:=∀i,i<n->cur[i]?=some (.int .u64 (f i))
def ucells_set {k:Nat} {f:Nat->Nat} {cur:Array Value} (h:zL k f cur) (hk:k<cur.size) (x:Nat) (hx:f k=x):zL (k+1) f (cur.setIfInBounds k (.int .u64 x)):=λi hi=>by
 rw[Array.getElem?_setIfInBounds];by_cases e:k=i
 ·subst e;rw[b9 rfl,b9 hk,hx]
 ·rw[b_ e];exact h i (by omega)
def copy1_enter (args:Array Value) (w:World):(callFunc 295 args).run prog w= .ok (.enter 295 args) w:=by
 kernel_rfl
section
variable {m d_ c_ e_ t:Nat} {v:VS} {R0 Rx K E:BL} {w0 w w':World} {a b wk b4 b5 b7 n:Nat}
def copyW_dom {i:Nat} (c:Nat) (h:cR d_ c_ v c):cR d_ c_ (eT v a b i) c:=by
 unfold cR;rw[(rQ v a b i).1];exact h
def copy1_m (pp f o:Nat) (hok:Hd.Ok pp f o) (hA:∀i,i<=pp+f+o->cR d_ c_ v (a+i)) (hB:∀i,i<=pp+f+o->cR d_ c_ v (b+i)) (fZ:d_<=1048576) (hX:(bT m d_ c_ e_ t).X v Rx) (hT:ax w0) (hg:aD R0)
  (hD:ag R0 ((wk,.cells #[(cF m).s.val,.slice none 0 0] 284 (0,0))::(E++((b7,.cells #[pp,f,o] 31 (0,0))::(b5,.cells #[b] 3 (0,0))::(b4,.cells #[a] 3 (0,0))::(Rx++K)))) w0 w):
  WR 295 #[Wz wk,Wz b7,Wz b4,Wz b5] w (.tuple #[]) λw'=>∃R',(∃Rx',(bT m d_ c_ e_ t).X (eT v a b (1+(pp+f+o))) Rx'/\R'=Rx'++K)/\ag R0 (E++R') w0 w':=by
 obtain⟨z,hz⟩:∃z,1+(pp+f+o)=z:=⟨_,rfl⟩
 have Ae:z<=256:=by unfold Hd.Ok at hok;omega
 have hsz:Hd.dH pp f o=z:=by unfold Hd.dH;rw[b9 hok];omega
 have Ef:∀i,i<z->cR d_ c_ v (a+i):=λi hi=>hA i (by omega)
 have nJ:∀i,i<z->cR d_ c_ v (b+i):=λi hi=>hB i (by omega)
 rw[hz];have ha0:=(Ef 0 (by omega)).1;have hb0:=(nJ 0 (by omega)).1;obtain⟨i0,hi,hz0,vR,Mf⟩:=info_parts u64_info';have nP:∀W:World,(Instr.makeSlice 25 (.int .i64 (z:Int)) (.int .i64 (z:Int))).run prog W= .ok (.slice (some ⟨W.heap.size,0,none⟩) z z) (W.alloc (.cells (qd z) 33)):=λW=>by
  have h:=run_make (P:=prog) W 25 33 i0 (.int .u64 0) underlying25 hi hz0 .i64 .i64 (z:Int) (z:Int) (by omega) (by omega) (by rw[Mf];omega) (by omega);rw[vR,Int.toNat_natCast,made_words] at h;exact h
 have q:=hD.has.tail.right.head;obtain⟨d0,d1,d2, -⟩:=ft q;have nc:=λW=>Hd.iC pp f o W
 rw[hsz] at nc;unfold Hd.hv at nc;replace nc:=a_ nc;have GG:zM wk (cF m) (bT m d_ c_ e_ t) v [] ((wk,.cells #[(cF m).s.val,.slice none 0 0] 284 (0,0))::([]++Rx)):=⟨none,0,[],Rx,rfl,Rw.nil _ _ _,hX⟩
 have D0:=a_ (hD.perm (R':=((wk,.cells #[(cF m).s.val,.slice none 0 0] 284 (0,0))::([]++Rx))++((b4,.cells #[a] 3 (0,0))::(b5,.cells #[b] 3 (0,0))::(b7,.cells #[pp,f,o] 31 (0,0))::(E++K))) aF);have Ce:=a_ GG;have Jv:=a_ (λk l1 Rw K1 W (hk:k<z) (hW:zM wk (cF m) (bT m d_ c_ e_ t) v l1 Rw) (hd:ag R0 (Rw++K1) w0 W)=>(show WR 211 #[Wz wk,((a:Int)+k:Int)] W (WB (v.wd (a+k))) λw'=>∃R',zM wk (cF m) (bT m d_ c_ e_ t) v l1 R'/\ag Rw R' W w' from by
  have:=BY (w:=W) (a:=a+k) eQ hW hd.at_.left (hd.tz hT hg) (aD.app.1 (hd.cK hT hg)).1 ⟨Ef k hk,by have:=(Ef k hk).1;omega⟩;rw[show ((a+k:Nat):Int)=(a:Int)+k from by omega] at this;exact this))
 have oS:=a_ (λk l1 Rw K1 W (hk:k<z) (hl:l1.length<=1000) (hW:zM wk (cF m) (bT m d_ c_ e_ t) (eT v a b k) l1 Rw) (hd:ag R0 (Rw++K1) w0 W)=>(show WR 132 #[Wz wk,((b:Int)+k:Int),WB (v.wd (a+k))] W (.tuple #[]) λw'=>∃R',(∃l2,l2.length=l1.length+1/\zM wk (cF m) (bT m d_ c_ e_ t) (eT v a b (k+1)) l2 R')/\ag Rw R' W w' from by
  have:=tJ (w:=W) (a:=b+k) (x:=v.wd (a+k)) eQ hW hd.at_.left (hd.tz hT hg) (aD.app.1 (hd.cK hT hg)).1 ⟨copyW_dom _ (nJ k hk),by have:=(nJ k hk).1;omega⟩ (hX.2 _) (by omega);rw[show ((b+k:Nat):Int)=(b:Int)+k from by omega] at this;refine this.kq ?_;rintro w' ⟨R',h1,h2⟩;exact⟨rfl,R',⟨_,by rw[List.length_append];rfl,h1⟩,h2⟩))
 clear hD hX hok hA hB GG q hsz hT hg hz Ef nJ;go_enter func295,ntmps295
 go_wp2_with (first
  | (go_at_call 52;refine (nc _).kq ?_;rintro w6 hb;have D6:=a_ ((D0.grow hb).box (qd z) 33);clear hb))
 clear D0 d0 d1 d2 nP;generalize w6.heap.size=bx at *
 go_loopw [14] (λi wr=>∃(k:Nat) (cu:Array Value) (Rw:BL),i= .int .i64 k/\k<=z/\cu.size=z/\zL k (λj=>v.wd (a+j)) cu/\zM wk (cF m) (bT m d_ c_ e_ t) v [] Rw/\ag R0 ((bx,.cells cu 33 (0,0))::(Rw++((b4,.cells #[a] 3 (0,0))::(b5,.cells #[b] 3 (0,0))::(b7,.cells #[pp,f,o] 31 (0,0))::(E++K)))) w0 wr) (λi _=>z-(intOf i).toNat)
 case atStart=>exact⟨0,qd z,_,rfl,by omega,by simp[qd],λi hi=>by omega,Ce,D6⟩
 case round=>
  clear D6 Ce;obtain⟨k,cu,Rw,rfl,hk,hcs,PZ,hW,hD⟩:=hrel;have c4:=an hD.has.tail.right.head 0 (.int .i64 a) rfl;by_cases hlt:k<z
  ·have Ll:=a_ (Jv k [] Rw _ wr hlt hW (hD.perm (R':=Rw++((bx,.cells cu 33 (0,0))::(b4,.cells #[a] 3 (0,0))::(b5,.cells #[b] 3 (0,0))::(b7,.cells #[pp,f,o] 31 (0,0))::(E++K))) aF));have D1:=a_ (hD.perm (R':=Rw++((bx,.cells cu 33 (0,0))::(b4,.cells #[a] 3 (0,0))::(b5,.cells #[b] 3 (0,0))::(b7,.cells #[pp,f,o] 31 (0,0))::(E++K))) aF);have RM:=a_ (ucells_set PZ (by rw[hcs];exact hlt) (v.wd (a+k)) rfl);have Hcs:=a_ hcs;obtain⟨v0,hv0⟩:∃q,cu[k]?=some q:=⟨cu[k]'(by omega),Array.getElem?_eq_getElem (by omega)⟩
   have Hv0:=a_ hv0;generalize v.wd (a+k)=y at *;have k1:(k:Int)<z:=by omega
   have k2:(0:Int)<=k:=by omega
   have k3:((k:Int)).toNat=k:=by omega
   clear hW hD PZ hcs hv0
   go_wp2_with (go_at_call 211;refine Ll.kq ?_;rintro w7 ⟨JP,x7,d7⟩;have X7:=a_ x7;have D7:=a_ (D1.step d7);have q:=D7.has.right.head;have dk:=an q k _ Hv0;have fk:=br q k;have D8:=a_ ((D7.perm (R':=(bx,.cells cu 33 (0,0))::(JP++((b4,.cells #[a] 3 (0,0))::(b5,.cells #[b] 3 (0,0))::(b7,.cells #[pp,f,o] 31 (0,0))::(E++K)))) aF).set k (.int .u64 y));clear x7 d7 q)
   go_roundw
   case rel=>exact⟨k+1,_,JP,by go_num,hlt,by rw[Array.size_setIfInBounds];exact Hcs,RM,X7,D8⟩
   case measure=>simp[intOf];omega
  ·obtain rfl:k=z:=by omega
   obtain⟨Cf,D2,RM⟩:=dF hW hD PZ;have k1:¬(k:Int)<k:=by omega
   clear hW hD PZ hcs
   go_wp2_with (fail)
   clear c4;have D3:=a_ (D2.perm (R':=(bx,.cells cu 33 (0,0))::(Rw++((b4,.cells #[a] 3 (0,0))::(b5,.cells #[b] 3 (0,0))::(b7,.cells #[pp,f,o] 31 (0,0))::(E++K)))) aF);clear D2
   go_loopw [28] (λi wr=>∃(j:Nat) (l1:List (Nat×Nat)) (Rw:BL),i= .int .i64 j/\j<=k/\l1.length=j/\zM wk (cF m) (bT m d_ c_ e_ t) (eT v a b j) l1 Rw/\ag R0 ((bx,.cells cu 33 (0,0))::(Rw++((b4,.cells #[a] 3 (0,0))::(b5,.cells #[b] 3 (0,0))::(b7,.cells #[pp,f,o] 31 (0,0))::(E++K)))) w0 wr) (λi _=>k-(intOf i).toNat)
   case atStart=>exact⟨0,[],Rw,rfl,by omega,rfl,Cf,D3⟩
   case round=>
    clear D3 Cf;obtain⟨j,l1,RV,rfl,hj,xc,hW,hD⟩:=hrel;have c5:=an hD.has.tail.right.tail.head 0 (.int .i64 b) rfl;by_cases gR:j<k
    ·have hcj:wr.cell? ⟨bx,j,none⟩=some (.int .u64 (v.wd (a+j):Nat)):=an hD.has.head j _ (RM j gR);have Ll:=a_ (oS j l1 RV _ wr gR (by omega) hW (hD.perm (R':=RV++((bx,.cells cu 33 (0,0))::(b4,.cells #[a] 3 (0,0))::(b5,.cells #[b] 3 (0,0))::(b7,.cells #[pp,f,o] 31 (0,0))::(E++K))) aF));have D1:=a_ (hD.perm (R':=RV++((bx,.cells cu 33 (0,0))::(b4,.cells #[a] 3 (0,0))::(b5,.cells #[b] 3 (0,0))::(b7,.cells #[pp,f,o] 31 (0,0))::(E++K))) aF);have MP:=a_ xc;generalize v.wd (a+j)=y at *;have k2:(j:Int)<k:=by omega
     have k3:(0:Int)<=j:=by omega
     have k4:((j:Int)).toNat=j:=by omega
     clear hW hD xc
     go_wp2_with (go_at_call 132;refine Ll.kq ?_;rintro w7 ⟨JP,⟨l2,VC,x7⟩,d7⟩;have X7:=a_ x7;have Y7:=a_ VC;have D7:=a_ ((D1.step d7).perm (R':=(bx,.cells cu 33 (0,0))::(JP++((b4,.cells #[a] 3 (0,0))::(b5,.cells #[b] 3 (0,0))::(b7,.cells #[pp,f,o] 31 (0,0))::(E++K)))) aF);clear x7 d7 VC)
     go_roundw
     case rel=>exact⟨j+1,l2,JP,by go_num,gR,by rw[Y7.out,MP.out],X7,D7⟩
     case measure=>simp[intOf];omega
    ·obtain rfl:j=k:=by omega
     obtain⟨RJ,D1⟩:=aO hW hD;have k2:¬(j:Int)<j:=by omega
     clear hW hD xc c5
     go_wp2_with (fail)
     go_end0
     obtain⟨al,cap,Rl,Rx',rfl, -,hX⟩:=RJ.out;refine⟨rfl,Rx'++K,⟨Rx',hX,rfl⟩,?_⟩;exact ag.drop (A:=(bx,.cells cu 33 (0,0))::(wk,.cells #[(cF m).s.val,.slice al l1.length cap] 284 (0,0))::(b4,.cells #[a] 3 (0,0))::(b5,.cells #[b] 3 (0,0))::(b7,.cells #[pp,f,o] 31 (0,0))::Rl) (D1.perm (by simp only[List.cons_append];exact aF))
def copy_m (pp f o:Nat) (hok:Hd.Ok pp f o) (hh:Hd.Is (v.wd a)/\Hd.tp (v.wd a)=pp/\Hd.tf (v.wd a)=f/\Hd.to (v.wd a)=o) (ha:0<a) (hb:0<b) (hA:∀i,i<=pp+f+o->cR d_ c_ v (a+i)) (hB:∀i,i<=pp+f+o->cR d_ c_ v (b+i)) (fZ:d_<=1048576)
  (hX:(bT m d_ c_ e_ t).X v Rx) (hT:ax w) (hg:aD Rx) (hR:At Rx w):
  WR 246 #[(cF m).s.val,(a:Nat),(b:Nat)] w Wy λw'=>∃Rx',(bT m d_ c_ e_ t).X (eT v a b (1+(pp+f+o))) Rx'/\ag Rx Rx' w w':=by
 have SQ:∀(fn:Fn) (first cap:Array Value) (w:World),(Instr.makeFunc fn first cap).run prog w= .ok (.func fn first cap) w:=λ_ _ _ _=>rfl
 have zU:∀(x y:Int) (w:World),(Instr.field 202 (.agg #[x,y]) 0).run prog w= .ok (.int .i64 x) w:=λx y w=>by kernel_rfl
 obtain⟨h1,rfl,rfl,rfl⟩:=hh;have hd0:=(hA 0 (Nat.zero_le _)).1;have Eh:=λ(b4 b5 b7:Nat) (R1:BL) (W:World) (hX:(bT m d_ c_ e_ t).X v R1) (hD:ag Rx ((b7,.cells #[(Hd.tp (v.wd a):Nat),(Hd.tf (v.wd a):Nat),(Hd.to (v.wd a):Nat)] 31 (0,0))::(b5,.cells #[b] 3 (0,0))::(b4,.cells #[a] 3 (0,0))::(R1++ [])) w W)=>Fh (F:=295) (caps:= #[.pointer (some ⟨b7,0,none⟩),.pointer (some ⟨b4,0,none⟩),.pointer (some ⟨b5,0,none⟩)]) copy1_enter (sT:=(cF m).s.T) (sV:=(cF m).s.v) hD (λwk E W hW=>copy1_m (b4:=b4) (b5:=b5) (b7:=b7) (K:= []) _ _ _ hok hA hB fZ hX hT hg hW)
 have et:=a_ Eh;have D0:=((ag.refl hR).box #[a] 3).box #[b] 3;rw[aU] at D0;have c4:=an D0.has.tail.head 0 _ rfl;have c5:=an D0.has.head 0 _ rfl;have D1:=a_ (D0.perm (R':=Rx++((w.heap.size,.cells #[a] 3 (0,0))::(w.heap.size+1,.cells #[b] 3 (0,0)):: [])) aF);have NA:(bT m d_ c_ e_ t).D v a:=⟨hA 0 (Nat.zero_le _),by omega⟩
 have qf:=a_ (λW (hd:ag Rx (Rx++((w.heap.size,.cells #[a] 3 (0,0))::(w.heap.size+1,.cells #[b] 3 (0,0)):: [])) w W)=>(show WR 98 #[(cF m).s.val,(a:Nat)] W (.tuple #[.agg #[(Hd.tp (v.wd a):Nat),(Hd.tf (v.wd a):Nat),(Hd.to (v.wd a):Nat)],Wy]) λw'=>∃R',(bT m d_ c_ e_ t).X v R'/\ag Rx R' W w' from pU eQ hX hd.at_.left (hd.tz hT hg) hg ha NA h1));have TA:=a_ (List.append_nil (α:=Nat×Obj));have b1:(0:Int)<b:=by omega
 have b2:¬(b:Int)<=0:=by omega
 generalize Hd.tp (v.wd a)=tp at *;generalize Hd.tf (v.wd a)=tf at *;generalize Hd.to (v.wd a)=to at *;unfold jA.val at *;clear Eh D0 hX hT hg hR hA hB hok h1 NA;go_enter func246,ntmps246
 go_wp2_with (first
  | (go_at_call 98;refine (qf _ D1).kq ?_;rintro w1 ⟨R1,x1,d1⟩;have X1:=a_ x1;have H1:=a_ ((D1.step d1).perm (R':=(w.heap.size+1,.cells #[b] 3 (0,0))::(w.heap.size,.cells #[a] 3 (0,0))::(R1++ [])) aF);have H2:=a_ (H1.box #[tp,tf,to] 31);have e5:World.cell? _ _=_:=an H2.has.tail.head 0 (.int .i64 b) rfl;clear x1 d1)
  | (go_at_call 130;refine (et _ _ _ _ _ X1 H2).kq ?_;rintro w2 ⟨R',⟨Rx',Dd,rfl⟩,h2⟩;have X2:=a_ Dd;have H3:=a_ h2;clear h2 Dd))
 go_ret;refine⟨rfl,Rx',X2,?_⟩;have:=H3.out;rw[List.append_nil] at this;exact this
end
section
attribute [local go_sem] Oper.semAt_some
def mj (kb m d_ c_ e_ t:Nat) (g:Nat->Nat) (to:Nat) (s:CS) (R:BL):Prop:=
 ∃wb n mw ow Rm,R=(kb,.cells #[Wz m,.map (some wb),(to+bW g s.l:Nat)] 247 (0,0))::(wb,ow)::Rm/\aH m d_ c_ e_ t s.v Rm/\VM n mw ow/\n<=s.l.length/\∀a:Nat,mw (a:Int)=if a∈s.l then some (.int .i64 (ku g to s.l a:Nat)) else none
structure xg (d_ c_:Nat) (g:Nat->Nat) (St:Nat->Prop) (to W:Nat) (v0:VS):Prop where
 cw:zC g St to W
 g0:g=v0.wd
 mp:∀x,to<=x->x<to+W->cR d_ c_ v0 x
 src:∀x,St x->∀r,r<bC (g x)->cR d_ c_ v0 (x+r)
 is:∀x,St x->Hd.Is (g x)
 pos:∀x,St x->0<x
 Ws:0<to
 jn:d_<=1048576
section
variable {kb m d_ c_ e_ t to W a x y n i:Nat} {g:Nat->Nat} {v v0:VS} {s:CS} {St:Nat->Prop} {dn:Nat->Nat->Prop} {R:BL} {w w':World}
def vG {c:Nat} (h:cR d_ c_ v0 c) (e:v.mp=v0.mp):cR d_ c_ v c:=by
 unfold cR;rw[e];exact h
def xg.lt (h:xg d_ c_ g St to W v0) (hx:St x):x<d_:=by
 have:=(h.src x hx 0 (by unfold bC;omega)).1;omega
def xg.keep (h:xg d_ c_ g St to W v0) (hI:cV g St to v0 s dn) (hx:St x) {r:Nat} (hr:r<bC (g x)):s.v.wd (x+r)=g (x+r):=by
 have h1:=h.cw.src x hx r hr;have h2:=h.cw.e_ s.l hI.nodup hI.st;rw[hI.out (x+r) (by omega),h.g0]
def xg.hdr (h:xg d_ c_ g St to W v0) (hI:cV g St to v0 s dn) (hx:St x):s.v.wd x=g x:=by
 have:=h.keep hI hx (r:=0) (by unfold bC;omega);exact this
def xg.oA (h:xg d_ c_ g St to W v0) (hx:St x):to+W<=d_:=by
 have h1:=h.cw.e_ [x] (by simp) (by simpa using hx);have h2:bW g [x]=bC (g x):=by simp[bW]
 have h3:=(h.mp (to+W-1) (by unfold bC at h2;omega) (by unfold bC at h2;omega)).1;unfold bC at h2;omega
def Fp (hw:xg d_ c_ g St to W v0) (hI:cV g St to v0 s dn) (ha:a=0\/St a) (h:mj kb m d_ c_ e_ t g to s R) (hR:At R w) (hT:ax w) (hN:aD R):
  WR 167 #[Wz kb,a] w (ku g to (bP g to s a).l a:Nat) λw'=>∃R',mj kb m d_ c_ e_ t g to (bP g to s a) R'/\ag R R' w w':=by
 have H0:=a_ h;have D0:=a_ (ag.refl hR);rcases Nat.eq_zero_or_pos a with rfl | hpos
 ·have e1:bP g to s 0=s:=by unfold bP;rw[b9 (.inl rfl)]
  have e2:ku g to s.l 0=0:=by unfold ku;rw[b9 rfl]
  rw[e1,e2];clear h hw hI ha hR hT hN e1 e2;go_enter func167,ntmps167;go_wp2;go_ret;exact⟨rfl,R,H0,D0⟩
 ·have hst:=ha.resolve_left (by omega);have hlt:=hw.lt hst;have ey:=hw.jn;obtain⟨wb,n,mw,ow,Rm,rfl,hm,hv,hn,Aa⟩:=h;obtain⟨c0,c1,c2, -⟩:=ft hR.1.head;have Qm:prog.underlying 132=some (.map 3 3):=by kernel_rfl
  have hz0:∀W:World,(zeroValue 3).run prog W= .ok (.int .i64 0) W:=λW=>by kernel_rfl
  have hmem:=hv.look_ok (w:=w) (b:=wb) Qm (hz0 w) hR.1.tail.head (f:=(a:Int)) (by constructor<;>omega);by_cases hal:a∈s.l
  ·have e1:bP g to s a=s:=by unfold bP;rw[b9 (.inr hal)]
   rw[e1];rw[Aa a,b9 hal] at hmem;have IM:(Instr.lookup 132 (.map (some wb)) (.int .i64 a) true).run prog w= .ok (.tuple #[(ku g to s.l a:Nat),true]) w:=hmem;have a1:¬(a:Int)=0:=by omega
   have a2:((a:Int)==0)=false:=by rw[beq_eq_false_iff_ne];exact a1
   generalize ku g to s.l a=z at *;clear hw hI ha hR hT hN e1 hm hv hn Aa hmem Qm hz0 hst;go_enter func167,ntmps167;go_wp2;go_ret;exact⟨rfl,_,H0,D0⟩
  ·rw[Aa a,b_ hal] at hmem;have IM:(Instr.lookup 132 (.map (some wb)) (.int .i64 a) true).run prog w= .ok (.tuple #[Wy,false]) w:=hmem;have e1:bP g to s a=⟨s.l++ [a],eT s.v a (to+bW g s.l) (bC (g a))⟩:=by
    unfold bP;rw[b_];rintro (q | q)
    ·omega
    ·exact hal q
   have e2:ku g to (s.l++ [a]) a=to+bW g s.l:=by
    unfold ku;rw[cG,od hal]
   rw[e1];simp only[e2];have hroom:=hw.cw.e_ (s.l++ [a]) (List.nodup_append.2 ⟨hI.nodup,by simp,λx hx y hy e=>by
    rw[List.mem_singleton] at hy;exact hal (hy▸e▸hx)⟩) (λx hx=>(List.mem_append.1 hx).elim (hI.st x) λq=>by
     rw[List.mem_singleton] at q;exact q▸hst)
   rw[lL] at hroom;have GF:=hw.oA hst;have fY:=hw.is a hst;have Qh:=hw.hdr hI hst;have hsz:bC (g a)=1+(Hd.tp (g a)+Hd.tf (g a)+Hd.to (g a)):=rfl;have SB:(bT m d_ c_ e_ t).X s.v Rm:=⟨hm,λb=>hI.sm b⟩
   have EB:∀i,i<=Hd.tp (g a)+Hd.tf (g a)+Hd.to (g a)->cR d_ c_ s.v (a+i):=λi hi=>vG (hw.src a hst i (by omega)) hI.fr.1
   have VV:∀i,i<=Hd.tp (g a)+Hd.tf (g a)+Hd.to (g a)->cR d_ c_ s.v ((to+bW g s.l)+i):=λi hi=>vG (hw.mp _ (by omega) (by omega)) hI.fr.1
   have NA:(bT m d_ c_ e_ t).D s.v a:=⟨EB 0 (Nat.zero_le _),by omega⟩
   have ND:aD Rm:=fun⟨x,hx,e⟩=>hN ⟨x,by simp[hx],e⟩
   have qf:=a_ (λW K (hd:ag ((kb,.cells #[Wz m,.map (some wb),(to+bW g s.l:Nat)] 247 (0,0))::(wb,ow)::Rm) (Rm++K) w W)=>(show WR 98 #[(cF m).s.val,(a:Nat)] W (.tuple #[.agg #[(Hd.tp (g a):Nat),(Hd.tf (g a):Nat),(Hd.to (g a):Nat)],Wy]) λw'=>∃R',(bT m d_ c_ e_ t).X s.v R'/\ag Rm R' W w' from by
    have:=pU (w:=W) (eQ (m:=m)) SB hd.at_.left (hd.tz hT hN) ND hpos NA (by show Hd.Is (s.v.wd a);rw[Qh];exact fY);rw[show (bT m d_ c_ e_ t).ba s.v a=g a from Qh] at this;exact this))
   have GV:=a_ (λW R1 K (hX:(bT m d_ c_ e_ t).X s.v R1) (hd:ag ((kb,.cells #[Wz m,.map (some wb),(to+bW g s.l:Nat)] 247 (0,0))::(wb,ow)::Rm) (R1++K) w W)=>(show WR 246 #[(cF m).s.val,(a:Nat),(to+bW g s.l:Nat)] W Wy λw'=>∃Rx',(bT m d_ c_ e_ t).X (eT s.v a (to+bW g s.l) (bC (g a))) Rx'/\ag R1 Rx' W w' from
    copy_m (w:=W) (Hd.tp (g a)) (Hd.tf (g a)) (Hd.to (g a)) fY.1 (by rw[Qh];exact⟨fY,rfl,rfl,rfl⟩) hpos (by have:=hw.Ws;omega) EB VV ey hX (hd.tz hT hN) (aD.app.1 (hd.cK hT hN)).1 hd.at_.left))
   have nc:=a_ (λW=>by
    have:=Hd.iC (Hd.tp (g a)) (Hd.tf (g a)) (Hd.to (g a)) W;rw[show Hd.dH (Hd.tp (g a):Nat) (Hd.tf (g a):Nat) (Hd.to (g a):Nat)=((bC (g a):Nat):Int) from by
     unfold Hd.dH;rw[b9 fY.1];omega] at this
    exact this)
   have HV:=a_ hv;have Hfin:=a_ (show ∀b:Nat,(λx:Int=>if x=(a:Int) then some (Value.int .i64 (to+bW g s.l:Nat)) else mw x) (b:Int)=if b∈s.l++ [a] then some (.int .i64 (ku g to (s.l++ [a]) b:Nat)) else none from λb=>by
    show (if (b:Int)=(a:Int) then some (Value.int .i64 (to+bW g s.l:Nat)) else mw b)=_
    by_cases q:b=a
    ·subst q;rw[b9 rfl,b9 (by simp),e2]
    ·rw[cG,Aa b];by_cases q2:b∈s.l
     ·rw[b9 q2,b9 (List.mem_append_left _ q2),xp (.inr q2)]
     ·rw[b_ q2,b_ (by simp[q2,q])])
   have Hn:=a_ (show n+1<=(s.l++ [a]).length from by rw[List.length_append];show n+1<=s.l.length+1;omega);have UB:=a_ (show n<maxLen from by
    have h1:s.l.length<=bW g s.l:=by
     unfold bW;have:∀l:List Nat,l.length<=(l.map λx=>bC (g x)).sum:=λl=>by
      induction l with
      | nil=>simp
      | cons x l ih=>simp only[List.length_cons,List.map_cons,List.sum_cons];unfold bC at *;omega
     exact this _
    unfold maxLen;omega)
   have Nr:to+bW g (s.l++ [a])=to+bW g s.l+bC (g a):=by rw[lL];omega
   have Het:=a_ Nr;have a1:¬(a:Int)=0:=by omega
   have a2:((a:Int)==0)=false:=by rw[beq_eq_false_iff_ne];exact a1
   have z1:to+bW g s.l+bC (g a)<=1048576:=by omega
   have UA:=a_ Qm;have z2:a<=1048576:=by omega
   generalize bC (g a)=sz at *;generalize Hd.tp (g a)=tp at *;generalize Hd.tf (g a)=tf at *;generalize Hd.to (g a)=BR at *;generalize htt:to+bW g s.l=tt at *;have s1:=eH ((tt:Int)+sz);have gH:(cF m).s.val= .iface 92 (.pointer (some ⟨m,0,none⟩)):=rfl;rw[gH] at qf GV;unfold Hd.hv at nc;clear hw hI ha hR hT hN e1 e2 hm hv hn Aa hmem Qm hz0 hst hroom GF fY Qh hsz SB EB VV NA ND htt Nr gH hlt;go_enter func167,ntmps167
   go_wp2_with (first
    | (go_at_call 98;refine (qf _ _ (D0.perm (R':=Rm++((kb,.cells #[Wz m,.map (some wb),tt] 247 (0,0))::(wb,ow):: [])) aF)).kq ?_;rintro w1 ⟨R1,x1,d1⟩;have X1:=a_ x1;have H1:=a_ ((D0.perm (R':=Rm++((kb,.cells #[Wz m,.map (some wb),tt] 247 (0,0))::(wb,ow):: [])) aF).step d1);have H2:=a_ (H1.box #[tp,tf,BR] 31);have e0:World.cell? _ _=_:=an H2.has.tail.right.head 0 (.pointer (some ⟨m,0,none⟩)) rfl;have e2:World.cell? _ _=_:=an H2.has.tail.right.head 2 (.int .i64 tt) rfl;clear x1 d1)
    | (go_at_call 246;refine (GV _ R1 _ X1 (H2.perm (R':=R1++((w1.heap.size,.cells #[tp,tf,BR] 31 (0,0))::(kb,.cells #[Wz m,.map (some wb),tt] 247 (0,0))::(wb,ow):: [])) aF)).kq ?_;rintro w2 ⟨R2,x2,d2⟩;have X2:=a_ x2;have H3:=a_ (((H2.perm (R':=R1++((w1.heap.size,.cells #[tp,tf,BR] 31 (0,0))::(kb,.cells #[Wz m,.map (some wb),tt] 247 (0,0))::(wb,ow):: [])) aF).step d2).perm (R':=(wb,ow)::(kb,.cells #[Wz m,.map (some wb),tt] 247 (0,0))::(w1.heap.size,.cells #[tp,tf,BR] 31 (0,0))::R2) aF);clear x2 d2;have g1:World.cell? _ _=_:=an H3.has.tail.head 1 (.map (some wb)) rfl;obtain⟨w3,QF,hrun,FJ,d3⟩:=HV.uc UB UA H3 (f:=(a:Int)) (by constructor<;>omega) (.int .i64 tt);have V3:=a_ FJ;have H4:=a_ d3;clear FJ d3))
   clear c0 c1 c2 e0 e2 g1 hrun IM H0 qf GV H1 H2 H3 X1 HV a1 a2 hal hpos UB UA;generalize w1.heap.size=hx at *;have k2:=an H4.has.tail.head 2 (.int .i64 tt) rfl;have q:=H4.has.tail.tail.head;obtain⟨b0,b1,b2, -⟩:=ft q;clear q;refine aP (S:=λW=>W.cell? ⟨kb,2,none⟩=some (.int .i64 tt)/\W.cell? ⟨hx,0,none⟩=some (.int .i64 tp)/\W.cell? ⟨hx,1,none⟩=some (.int .i64 tf)/\W.cell? ⟨hx,2,none⟩=some (.int .i64 BR)) (by kernel_rfl) ⟨k2,b0,b1,b2⟩ (λhHeld=>?_);refine aR 0 ?_;refine aR 1 ?_;refine aR 2 ?_;refine aR 3 ?_;refine aR 4 ?_;simp only[aI];refine jS 5 (λK hK=>?_);go_simp;refine (nc _).kq ?_;rintro w4 hb;have H5:=a_ (H4.drew.grow hb);clear hb;have q:=H5.has.tail.tail.head;refine hK _ _ ⟨an H5.has.tail.head 2 (.int .i64 tt) rfl,an q 0 (.int .i64 tp) rfl,an q 1 (.int .i64 tf) rfl,an q 2 (.int .i64 BR) rfl⟩ (λhHeld=>?_);clear hK K
   try simp only[aI]
   clear q;refine aR 6 ?_;refine aR 7 ?_;refine aR 8 ?_;simp only[aI];have k4:=an H5.has.tail.head 2 (.int .i64 tt) rfl;have f4:=br H5.has.tail.head 2;refine sD 9 (λK hK=>?_);go_simp;refine hK _ _ ?_;clear hK K
   try simp only[aI]
   have H6:=a_ (((H5.perm (R':=(kb,WD #[Wz m,.map (some wb),tt] 247)::(wb,QF)::(hx,WD #[tp,tf,BR] 31)::R2) aF)).set 2 ((tt:Int)+sz:Int));clear k2 b0 b1 b2 k4 f4 H4 H5 hHeld;go_wp2;go_ret;refine⟨rfl,_,⟨wb,n+1,_,QF,R2,rfl,X2.1,V3,Hn,Hfin⟩,?_⟩;have e:=Het.out;rw[e];have ec:((tt+sz:Nat):Int)=(tt:Int)+sz:=by omega
   rw[ec];exact (H6.perm (R':=(hx,WD #[tp,tf,BR] 31)::(kb,WD #[Wz m,.map (some wb),((tt:Int)+sz:Int)] 247)::(wb,QF)::R2) (show ((kb,WD #[Wz m,.map (some wb),((tt:Int)+sz:Int)] 247)::(wb,QF)::(hx,WD #[tp,tf,BR] 31)::R2:BL).Perm _ from aF)).tail
end
section
variable {kb m d_ c_ e_ t to W a x y n i:Nat} {g:Nat->Nat} {v v0:VS} {s:CS} {St:Nat->Prop} {dn:Nat->Nat->Prop} {R:BL} {w w':World}
def mj.DO {c:VS} (h:mj kb m d_ c_ e_ t g to s R) (hR:Has R w):w.cell? ⟨kb,0,none⟩=some (.pointer (some ⟨m,0,none⟩)):=by
 obtain⟨wb,n,mw,ow,Rm,rfl,hm,hv,hn,Aa⟩:=h;exact an hR.head 0 _ rfl
def mj.space (h:mj kb m d_ c_ e_ t g to s R) (uD:∀b,s.v.wd b<18446744073709551616):∃Rk Rm,R=Rk++Rm/\(bT m d_ c_ e_ t).X s.v Rm/\∀v' bI,(bT m d_ c_ e_ t).X v' bI->mj kb m d_ c_ e_ t g to ⟨s.l,v'⟩ (Rk++bI):=by
 obtain⟨wb,n,mw,ow,Rm,rfl,hm,hv,hn,Aa⟩:=h;exact⟨[_,_],Rm,rfl,⟨hm,uD⟩,λv' bI hx=>⟨wb,n,mw,ow,bI,rfl,hx.1,hv,hn,Aa⟩⟩
def xg.dst (hw:xg d_ c_ g St to W v0) (hI:cV g St to v0 s dn) (hx:x∈s.l) {r:Nat} (hr:r<bC (g x)):cR d_ c_ s.v (to+aN g s.l x+r):=by
 have h1:=ia (g:=g) hx;have h2:=hw.cw.e_ s.l hI.nodup hI.st;exact vG (hw.mp _ (by omega) (by omega)) hI.fr.1
def cV.head (hI:cV g St to v0 s dn) (hx:x∈s.l):s.v.wd (to+aN g s.l x)=g x:=by
 have:=hI.raw x hx 0 (by unfold bC;omega) (by omega);exact this
def turn_facts {L:List Nat} (hw:xg d_ c_ g St to W v0) (hL:∀z∈L,z∈s.l) (Jb:x∉L) (hx:x∈s.l) (h:cV g St to v0 s (λz r=>z∈L)) (hn:n<Hd.tp (g x)):
  (∃dn,cV g St to v0 (aV g to s (to+aN g s.l x) n) dn)/\(aV g to s (to+aN g s.l x) n).v.wd (to+aN g s.l x)=g x/\(aV g to s (to+aN g s.l x) n).v.wd (to+aN g s.l x+1+n)=g (x+1+n)/\(g (x+1+n)=0\/St (g (x+1+n)))/\
  (∀r,r<bC (g x)->cR d_ c_ (aV g to s (to+aN g s.l x) n).v (to+aN g s.l x+r))/\
  (∃dn,cV g St to v0 (bP g to (aV g to s (to+aN g s.l x) n) (g (x+1+n))) dn)/\(bP g to (aV g to s (to+aN g s.l x) n) (g (x+1+n))).v.wd (to+aN g s.l x)=g x/\
  (∀r,r<bC (g x)->cR d_ c_ (bP g to (aV g to s (to+aN g s.l x) n) (g (x+1+n))).v (to+aN g s.l x+r)):=by
 obtain⟨i1,i2,i3⟩:=cV.turn hw.cw hw.g0 hL Jb hx h n (by omega);have i3:=i3 hn;have OK:x∈(aV g to s (to+aN g s.l x) n).l:=by
  rw[i2];exact dB.2 (.inl hx)
 have hoff:aN g (aV g to s (to+aN g s.l x) n).l x=aN g s.l x:=by
  rw[i2];exact lF hx _
 have hp:g (x+1+n)=0\/St (g (x+1+n)):=hw.cw.ptr x (h.st x hx) _ (List.mem_map.2 ⟨n,List.mem_range.2 hn,rfl⟩);have hLn:∀z r,(z∈L\/(z=x/\r<n))->z∈(aV g to s (to+aN g s.l x) n).l:=by
  rintro z r (q | ⟨rfl, -⟩)
  ·rw[i2];exact dB.2 (.inl (hL z q))
  ·exact OK
 have j1:=i1.BQ hw.cw hw.g0 hp hLn;have Wf:x∈(bP g to (aV g to s (to+aN g s.l x) n) (g (x+1+n))).l:=by
  rw[lK];exact gJ.2 (.inl OK)
 have Ol:aN g (bP g to (aV g to s (to+aN g s.l x) n) (g (x+1+n))).l x=aN g s.l x:=by
  rw[lK];have:=lF (g:=g) (l:=(aV g to s (to+aN g s.l x) n).l) OK [g (x+1+n)];exact this.trans hoff
 have a1:=i1.head OK;have a2:=j1.head Wf;rw[hoff] at a1;rw[Ol] at a2;refine⟨⟨_,i1⟩,a1,i3,hp,λr hr=>?_,⟨_,j1⟩,a2,λr hr=>?_⟩
 ·have:=hw.dst i1 OK hr;rw[hoff] at this;exact this
 ·have:=hw.dst j1 Wf hr;rw[Ol] at this;exact this
def wv (h0:0<a) (hd:∀r,r<bC (v.wd a)->cR d_ c_ v (a+r)) (hl:d_<=1048576) (hi:Hd.Is (v.wd a)):Ob (bT m d_ c_ e_ t) v a:=
 ⟨h0,λr hr=>⟨hd r hr,by have:=(hd r hr).1;omega⟩,hi⟩
def xI {z:Nat} (h:Hd.Is z) (hn:n<Hd.tp z):dx z n 1=0:=by
 have hk:=(pS h (1+n)).2 (by omega);unfold qG at hk;have:=of_decide_eq_true hk;unfold dx;rw[b9];rw[show (((1+n:Nat):Int)-1)=n from by omega] at this;exact this
def turn_ptr {z tt:Nat} (hz:Hd.Is z) (hn:n<Hd.tp z) (hh:s.v.wd tt=z) (hp:s.v.wd (tt+1+n)<=2147483647) (h0:0<tt) (hd:∀r,r<bC z->cR d_ c_ s.v (tt+r)) (hl:d_<=1048576) (uD:∀b,s.v.wd b<18446744073709551616) (h:mj kb m d_ c_ e_ t g to s R) (hR:At R w) (hT:ax w) (hN:aD R):
  WR 97 #[(cF m).s.val,(tt:Nat),n] w (.tuple #[(s.v.wd (tt+1+n):Nat),Wy]) λw'=>∃R',mj kb m d_ c_ e_ t g to s R'/\ag R R' w w':=by
 obtain⟨Rk,Rm,rfl,hX,NN⟩:=h.space uD;have ho:=wv (m:=m) (e_:=e_) (t:=t) (v:=s.v) (a:=tt) h0 (by rw[hh];exact hd) hl (by rw[hh];exact hz);have hf:dx ((bT m d_ c_ e_ t).ba s.v tt) n 1=0:=by
  rw[show (bT m d_ c_ e_ t).ba s.v tt=z from hh];exact xI hz hn
 have II:(bT m d_ c_ e_ t).gw s.v tt n 1=s.v.wd (tt+1+n):=by
  unfold Sp.gw;rw[b9 hf,Int.toNat_natCast];rfl
 have hgt:(bT m d_ c_ e_ t).gt s.v tt n 1=s.v:=by
  unfold Sp.gt;rw[b9 hf];rfl
 have:=uV (w:=w) (i:=(n:Int)) (eQ (m:=m)) hX hR.right hT (aD.app.1 hN).2 ho (by rw[II];exact hp);rw[II,hgt,hf] at this;refine this.kq ?_;rintro w' ⟨R',x1,d1⟩;exact⟨rfl,Rk++R',NN _ _ x1,(ag.step (A:=Rm) ((ag.refl hR).perm (R':=Rm++Rk) aF) d1).perm aF⟩
def turn_set {z tt q:Nat} (hz:Hd.Is z) (hn:n<Hd.tp z) (hh:s.v.wd tt=z) (hq:q<=2147483647) (h0:0<tt) (hd:∀r,r<bC z->cR d_ c_ s.v (tt+r)) (hl:d_<=1048576) (uD:∀b,s.v.wd b<18446744073709551616) (h:mj kb m d_ c_ e_ t g to s R) (hR:At R w) (hT:ax w) (hN:aD R):
  WR 235 #[(cF m).s.val,(tt:Nat),n,(q:Nat)] w Wy λw'=>∃R',mj kb m d_ c_ e_ t g to ⟨s.l,fB s.v (tt+1+n) q⟩ R'/\ag R R' w w':=by
 obtain⟨Rk,Rm,rfl,hX,NN⟩:=h.space uD;have ho:=wv (m:=m) (e_:=e_) (t:=t) (v:=s.v) (a:=tt) h0 (by rw[hh];exact hd) hl (by rw[hh];exact hz);have hf:dx ((bT m d_ c_ e_ t).ba s.v tt) n 1=0:=by
  rw[show (bT m d_ c_ e_ t).ba s.v tt=z from hh];exact xI hz hn
 have Ow:(bT m d_ c_ e_ t).pt s.v tt n 1 q=fB s.v (tt+1+n) q:=by
  unfold Sp.pt;rw[b9 hf,Int.toNat_natCast];rfl
 have:=ou (w:=w) (i:=(n:Int)) (eQ (m:=m)) hX hR.right hT (aD.app.1 hN).2 ho hq;rw[Ow,hf] at this;refine this.kq ?_;rintro w' ⟨R',x1,d1⟩;exact⟨rfl,Rk++R',NN _ _ x1,(ag.step (A:=Rm) ((ag.refl hR).perm (R':=Rm++Rk) aF) d1).perm aF⟩
def atC_le (hw:xg d_ c_ g St to W v0) (hI:cV g St to v0 s dn) {c:Nat} (hc:c=0\/c∈s.l):ku g to s.l c<=to+W:=by
 unfold ku
 split
 ·omega
 ·next h0=>
  have h1:=ia (g:=g) (hc.resolve_left h0);have h2:=hw.cw.e_ s.l hI.nodup hI.st;omega
def turn_k {L:List Nat} (hw:xg d_ c_ g St to W v0) (hL:∀z∈L,z∈s.l) (Jb:x∉L) (hx:x∈s.l) (hI:cV g St to v0 s (λz r=>z∈L)) (h:mj kb m d_ c_ e_ t g to s R) (hR:At R w) (hT:ax w) (hN:aD R):
  WR 168 #[Wz kb,(to+aN g s.l x:Nat)] w (to+aN g s.l x+bC (g x):Nat) λw'=>∃R',mj kb m d_ c_ e_ t g to (aV g to s (to+aN g s.l x) (Hd.tp (g x))) R'/\ag R R' w w':=by
 have hst:=hI.st x hx;have fY:=hw.is x hst;have ey:=hw.jn;have hle:=ia (g:=g) hx;have hroom:=hw.cw.e_ s.l hI.nodup hI.st;have GF:=hw.oA hst;have h256:=wL fY;have Qv:Hd.tp (g x)<bC (g x):=by unfold bC;omega
 have hd0:∀r,r<bC (g x)->cR d_ c_ s.v (to+aN g s.l x+r):=λr hr=>hw.dst hI hx hr
 have Qg:=hI.head hx;have HF:=a_ (λn (hn:n<Hd.tp (g x))=>turn_facts (n:=n) hw hL Jb hx hI hn);have hC:=λn=>(show aV g to s (to+aN g s.l x) (n+1)=⟨(bP g to (aV g to s (to+aN g s.l x) n) ((aV g to s (to+aN g s.l x) n).v.wd (to+aN g s.l x+1+n))).l,fB (bP g to (aV g to s (to+aN g s.l x) n) ((aV g to s (to+aN g s.l x) n).v.wd (to+aN g s.l x+1+n))).v (to+aN g s.l x+1+n) (ku g to (bP g to (aV g to s (to+aN g s.l x) n) ((aV g to s (to+aN g s.l x) n).v.wd (to+aN g s.l x+1+n))).l ((aV g to s (to+aN g s.l x) n).v.wd (to+aN g s.l x+1+n)))⟩ from rfl)
 have HC:=a_ hC;have ht0:=hw.Ws;have nc:=a_ (λW=>by
  have:=Hd.iC (Hd.tp (g x)) (Hd.tf (g x)) (Hd.to (g x)) W;rw[show Hd.dH (Hd.tp (g x):Nat) (Hd.tf (g x):Nat) (Hd.to (g x):Nat)=((bC (g x):Nat):Int) from by
   unfold Hd.dH;rw[b9 fY.1];unfold bC;omega] at this
  exact this)
 have c0:=h.DO (c:=v0) hR.1;have H0:=a_ h;have D0:=a_ (ag.refl hR);have gH:(cF m).s.val= .iface 92 (.pointer (some ⟨m,0,none⟩)):=rfl;have qf:=a_ (show WR 98 #[(cF m).s.val,(to+aN g s.l x:Nat)] w (.tuple #[.agg #[(Hd.tp (g x):Nat),(Hd.tf (g x):Nat),(Hd.to (g x):Nat)],Wy]) λw'=>∃R',mj kb m d_ c_ e_ t g to s R'/\ag R R' w w' from by
  obtain⟨Rk,Rm,rfl,hX,NN⟩:=h.space hI.sm;have ho:=wv (m:=m) (e_:=e_) (t:=t) (v:=s.v) (a:=to+aN g s.l x) (by omega) (by rw[Qg];exact hd0) ey (by rw[Qg];exact fY);have:=pU (w:=w) (eQ (m:=m)) hX hR.right hT (aD.app.1 hN).2 ho.pos ho.FB ho.is;rw[show (bT m d_ c_ e_ t).ba s.v (to+aN g s.l x)=g x from Qg] at this;refine this.kq ?_;rintro w' ⟨R',x1,d1⟩;exact⟨rfl,Rk++R',NN _ _ x1,(ag.step (A:=Rm) ((ag.refl hR).perm (R':=Rm++Rk) aF) d1).perm aF⟩)
 have JA:=a_ (λn (hn:n<Hd.tp (g x)) R1 K W (h1:mj kb m d_ c_ e_ t g to (aV g to s (to+aN g s.l x) n) R1) (hd:ag R (R1++K) w W)=>(show WR 97 #[(cF m).s.val,(to+aN g s.l x:Nat),n] W (.tuple #[(g (x+1+n):Nat),Wy]) λw'=>∃R',mj kb m d_ c_ e_ t g to (aV g to s (to+aN g s.l x) n) R'/\ag R1 R' W w' from by
  obtain⟨⟨US,f1⟩,f2,f3,f4,f5,f6,f7,f8⟩:=HF n hn;have:=turn_ptr (w:=W) fY hn f2 (by
   rw[f3];rcases f4 with q | q
   ·omega
   ·have:=hw.lt q;omega) (by omega) f5 ey f1.sm h1 hd.at_.left (hd.tz hT hN) (aD.app.1 (hd.cK hT hN)).1
  rw[f3] at this;exact this))
 have RI:=a_ (λn (hn:n<Hd.tp (g x)) R1 K W (h1:mj kb m d_ c_ e_ t g to (aV g to s (to+aN g s.l x) n) R1) (hd:ag R (R1++K) w W)=>(show WR 167 #[Wz kb,(g (x+1+n):Nat)] W (ku g to (bP g to (aV g to s (to+aN g s.l x) n) (g (x+1+n))).l (g (x+1+n)):Nat) λw'=>∃R',mj kb m d_ c_ e_ t g to (bP g to (aV g to s (to+aN g s.l x) n) (g (x+1+n))) R'/\ag R1 R' W w' from by
  obtain⟨⟨US,f1⟩,f2,f3,f4,f5,f6,f7,f8⟩:=HF n hn;exact Fp (w:=W) hw f1 f4 h1 hd.at_.left (hd.tz hT hN) (aD.app.1 (hd.cK hT hN)).1))
 have ko:=a_ (λn (hn:n<Hd.tp (g x)) R1 K W (h1:mj kb m d_ c_ e_ t g to (bP g to (aV g to s (to+aN g s.l x) n) (g (x+1+n))) R1) (hd:ag R (R1++K) w W)=>(show WR 235 #[(cF m).s.val,(to+aN g s.l x:Nat),n,(ku g to (bP g to (aV g to s (to+aN g s.l x) n) (g (x+1+n))).l (g (x+1+n)):Nat)] W Wy λw'=>∃R',mj kb m d_ c_ e_ t g to (aV g to s (to+aN g s.l x) (n+1)) R'/\ag R1 R' W w' from by
  obtain⟨⟨US,f1⟩,f2,f3,f4,f5,⟨dn2,f6⟩,f7,f8⟩:=HF n hn;have e:aV g to s (to+aN g s.l x) (n+1)=⟨(bP g to (aV g to s (to+aN g s.l x) n) (g (x+1+n))).l,fB (bP g to (aV g to s (to+aN g s.l x) n) (g (x+1+n))).v (to+aN g s.l x+1+n) (ku g to (bP g to (aV g to s (to+aN g s.l x) n) (g (x+1+n))).l (g (x+1+n)))⟩:=by
   rw[aV,f3]
  rw[e];have bu:g (x+1+n)=0\/g (x+1+n)∈(bP g to (aV g to s (to+aN g s.l x) n) (g (x+1+n))).l:=by
   rw[lK,gJ];rcases Classical.em (g (x+1+n)=0) with q | q
   ·exact .inl q
   ·exact .inr (.inr ⟨rfl,q⟩)
  have:=atC_le hw f6 bu;exact turn_set (w:=W) fY hn f7 (by omega) (by omega) f8 ey f6.sm h1 hd.at_.left (hd.tz hT hN) (aD.app.1 (hd.cK hT hN)).1))
 have jz:=a_ (λR1 K W (s1:CS) (h1:mj kb m d_ c_ e_ t g to s1 R1) (hd:ag R (R1++K) w W)=>h1.DO (c:=v0) hd.has.left);have z1:to+aN g s.l x+bC (g x)<=1048576:=by omega
 have z2:Hd.tp (g x)<=256:=by omega
 rw[gH] at qf JA ko;have e0:aV g to s (to+aN g s.l x) 0=s:=rfl;have Tw:=H0.out;rw[←e0] at Tw;have MC:=a_ (show WR 98 #[.iface 92 (.pointer (some ⟨m,0,none⟩)),(to+aN g s.l x:Nat)] w (.tuple #[.agg #[(Hd.tp (g x):Nat),(Hd.tf (g x):Nat),(Hd.to (g x):Nat)],Wy]) λw'=>∃R',mj kb m d_ c_ e_ t g to (aV g to s (to+aN g s.l x) 0) R'/\ag R R' w w' from qf);unfold Hd.hv at nc;generalize to+aN g s.l x=tt at *;generalize bC (g x)=sz at *;generalize Hd.tp (g x)=tp at *;generalize Hd.tf (g x)=tf at *;generalize Hd.to (g x)=BR at *;have s1:=eH ((tt:Int)+sz);clear hw hL Jb hx hI h hR hT hN hst fY ey hle hroom GF h256 Qv hd0 Qg HF hC HC ht0 H0 gH qf e0 Tw;go_enter func168,ntmps168
 go_wp2_with (go_at_call 98;refine MC.kq ?_;rintro w1 ⟨R1,x1,d1⟩;have X1:=a_ x1;have H2:=a_ (((ag.trans D0 d1).box #[tp,tf,BR] 31).perm (R':=R1++ [(w1.heap.size,.cells #[tp,tf,BR] 31 (0,0))]) aF);clear x1 d1)
 clear c0 MC D0;generalize w1.alloc (.cells #[tp,tf,BR] 31)=w2 at *;generalize w1.heap.size=hx at *
 go_loopw [22] (λiv wr=>∃(n:Nat) (R1:BL),iv= .int .i64 n/\n<=tp/\mj kb m d_ c_ e_ t g to (aV g to s tt n) R1/\ag R (R1++ [(hx,.cells #[tp,tf,BR] 31 (0,0))]) w wr) (λiv _=>tp-(intOf iv).toNat)
 case atStart=>exact⟨0,R1,rfl,Nat.zero_le _,X1,H2⟩
 case round=>
  clear X1 H2;obtain⟨n,R1,rfl,hn,h1,hd⟩:=hrel;obtain⟨HD,H1⟩:=aO hd h1;by_cases hlt:n<tp
  ·have c0:=jz R1 _ wr _ h1 hd;have RD:=a_ (JA n hlt R1 _ wr h1 hd);have HTn:=a_ (λR1 K W h1 hd=>RI n hlt R1 K W h1 hd);have HSn:=a_ (λR1 K W h1 hd=>ko n hlt R1 K W h1 hd);have n1:(n:Int)<tp:=by omega
   clear JA RI ko h1 hd H1;generalize VU:aV g to s tt (n+1)=s3 at *;have RS:=a_ VU;clear VU;generalize bP g to (aV g to s tt n) (g (x+1+n))=s2 at *;generalize aV g to s tt n=sn at *;generalize ku g to s2.l (g (x+1+n))=q at *;generalize g (x+1+n)=p at *
   go_wp2_with (go_at_call 97;refine RD.kq ?_;rintro w3 ⟨R3,x3,d3⟩;have X3:=a_ x3;have H3:=a_ (HD.step d3);clear x3 d3)
   clear c0;have c0:=jz R3 _ w3 _ X3 H3;refine aP (S:=λW=>W.cell? ⟨kb,0,none⟩=some (.pointer (some ⟨m,0,none⟩))) (by kernel_rfl) c0 (λhHeld=>?_);refine aR 0 ?_;refine aR 1 ?_;refine aR 2 ?_;refine aR 3 ?_;refine aR 4 ?_;refine aR 5 ?_;refine aR 6 ?_;refine aR 7 ?_;refine aR 8 ?_;simp only[aI];refine jS 9 (λK hK=>?_);go_simp;refine (HTn R3 _ w3.drew X3 H3.drew).kq ?_;rintro w4 ⟨R4,x4,d4⟩;have X4:=a_ x4;have H4:=a_ (H3.drew.step d4);clear x4 d4;refine hK _ _ (jz R4 _ w4 _ X4 H4) (λhHeld=>?_);clear hK K
   try simp only[aI]
   refine sD 10 (λK hK=>?_);go_simp;refine (HSn R4 _ w4 X4 H4).kq ?_;rintro w5 ⟨R5,x5,d5⟩;have X5:=a_ x5;have H5:=a_ (H4.step d5);clear x5 d5;refine hK _ _ ?_;clear hK K
   try simp only[aI]
   clear c0 hHeld;go_wp2
   go_roundw
   case rel=>exact⟨n+1,R5,by go_num,hlt,by rw[RS.out];exact X5,H5⟩
   case measure=>simp[intOf];omega
  ·obtain rfl:n=tp:=by omega
   have q:=hd.has.right.head;obtain⟨b0,b1,b2, -⟩:=ft q;clear JA RI ko h1 hd q
   go_wp2_with (go_at_call 52;refine (nc _).kq ?_;rintro w3 hb;have H3:=a_ (HD.grow hb);clear hb)
   go_ret;exact⟨by simp,R1,H1,H3.bN⟩
end
section
variable {m d_ c_ e_ t rb:Nat} {v:VS} {Rm Rr:BL} {zs:List Nat} {St:Nat->Prop} {D:Nat->Prop} {w w':World} {c:eZ}
def sound_s (h:aH m d_ c_ e_ t v Rm) (hr:dO rb zs Rr) (hw:Whole v.wd St (cR d_ c_ v) d_) (hz:∀a∈zs,a=0\/St a) (hfit:∀a,St a->c.cq<=a/\a+bC (v.wd a)<=c.top)
  (hc:c.Ok c_ d_) (hp:Fr.dp c_) (tN:1<=c_) (Ac:bd (aj v.wd zs) d_<=c.aT-c.to) (fZ:1<=d_/\d_<=1000000) (hR:At (Rm++Rr) w) (hT:ax w) (hg:aD (Rm++Rr)):
  WR 164 #[Wz m,Wz rb,.agg c.cells] w (.tuple #[(bd (aj v.wd zs) d_:Nat),Wy]) λw'=>Below w.heap.size w w':=by
 have HW:=a_ (λW (hW:Has Rm W)=>iI h hW);have hst:=hc.aL;have HX:=a_ (λW=>nF d_ W fZ.1 (Nat.le_trans fZ.2 (by decide)));have zE:=a_ (λW (hW:Has Rr W)=>wI (w:=W) hr hW);have vS:1<=zs.length:=hr.1;have CE:(zs.length:Int)≠0:=by omega
 have Mf:((zs.length:Int)==0)=false:=by rw[beq_eq_false_iff_ne];exact CE
 have qT:=a_ (λW (hA:At Rm W)=>AM (w:=W) h hA ⟨tN,fZ.2⟩ hp hc);have hlo:c.to<=c.aT/\c.aT<=d_:=hc.to.2;have hsl:bd (aj v.wd zs) d_<=1000000:=by omega
 have g1:decide (((c.aT:Int)-c.to)<(bd (aj v.wd zs) d_:Nat))=false:=dP;have Nv:¬((c.aT:Int)-c.to)<(bd (aj v.wd zs) d_:Nat):=by omega
 have s0:=eH ((c.aT:Int)-c.to);have RO:=a_ (And.intro g1 (And.intro Nv (And.intro s0 (And.intro hlo hsl))));have D0:=a_ ((((ag.refl hR).box c.cells 126).box #[Wy] 3).box #[Wy] 28);obtain⟨H,Hr,Hw,Hz,Hf,HT,Hg,HR⟩:=xZ h hr hw hz hfit hT hg hR;clear h hr hw hz hfit hT hg hR hc vS hlo hsl g1 Nv s0 Ac;obtain⟨F,T,O,L,B,S,A⟩:=c;unfold eZ.cells at *;simp only at *;refine (callsIn_wide (n:=3)).1 ?_;refine callsIn_of_wp_marks func164 rfl trivial ?_ rfl;simp only[ntmps164,List.size_toArray,List.length_cons,List.length_nil,Nat.reduceAdd,Nat.reduceSub,Array.replicate_succ,Array.replicate_zero,List.push_toArray,List.append_toArray,List.nil_append,List.cons_append];refine wpIn_wide.2 ?_
 go_wp2_with (first
  | (go_at_call 213;refine (zE _ D0.has.tail.tail.tail.right).kq ?_;rintro w1 rfl;have Pn:=a_ D0;have q:=Pn.has.tail.tail.head;have a0:=an q 0 (.int .i64 F) rfl;have a1:=an q 1 (.int .i64 T) rfl;have a2:=an q 2 (.int .i64 O) rfl;have a3:=an q 3 (.int .i64 L) rfl;have a4:=an q 4 (.int .i64 B) rfl;have a5:=an q 5 (.int .i64 S) rfl;have a6:=an q 6 (.int .i64 A) rfl;clear q)
  | (go_at_call 214;refine (qT _ Pn.at_.tail.tail.tail.left).kq ?_;rintro w1 hb;have D1:=a_ (Pn.grow hb);clear hb a0 a1 a2 a3 a4 a5 a6)
  | (go_at_call 157;refine (HW _ D1.has.tail.tail.tail.left).kq ?_;rintro w1 rfl)
  | (go_at_call 156;refine (HX _).mono ?_;rintro e w2 ⟨ob,rfl,Ro,o2,d2⟩;have O2:=a_ o2;have D2:=a_ (D1.bh d2);clear o2 d2))
 have mX:=a_ (λW (hd:Has Rr W)=>ru (w:=W) Hr hd);have et:=a_ (λW K al cap Rw (row:Rz 3 1 zs.length (ez zs) al cap Rw) (hd:ag (Rm++Rr) ((Ro++(Rm++Rw))++K) w W)=>(show WA 158 #[(mK m).val,.slice al zs.length cap,Wz ob,S] W λe w'=>∃r v':Int,e= .returned (.tuple #[.agg #[(bQ (aj v.wd zs) d_:Nat),(bd (aj v.wd zs) d_:Nat),r,v'],Wy])/\∃ew,dg ob d_ (aj v.wd zs) ew/\ag Ro ew W w' from by
  have h2:=hd.bN;exact nW (nX H) Hw Hz row (by have:=Hr.2.1;omega) hst.1 hst.2 O2 h2.at_ (h2.tz HT Hg) (h2.cK HT Hg)))
 clear HX HW D0 Pn zE qT CE Mf D1;have zZ:(mK m).val= .iface 92 (.pointer (some ⟨m,0,none⟩)):=rfl;rw[zZ] at et;have D3:=a_ (D2.drew);have q:=D3.has.right.tail.tail.head;have c5:=an q 5 _ rfl;clear q;simp only[World.size_alloc] at D3;refine wp_region_noPanic ?_;refine aP (S:=λW=>W.cell? ⟨w.heap.size,5,none⟩=some (.int .i64 S)) (by kernel_rfl) c5 (λhHeld=>?_);generalize w2.drew=w3 at *;generalize w.heap.size=bc at *;refine aR 0 ?_;refine aR 1 ?_;refine aR 2 ?_;refine aR 4 ?_;refine aR 5 ?_;refine aR 6 ?_;simp only[aI];refine ke (i:=3) (j:=11) (by decide+kernel) rfl rfl (λK hK=>?_) (λK hK=>?_)
 ·go_simp;refine (mX _ D3.has.right.tail.tail.tail.right).mono ?_;rintro e w4 ⟨al,cap,rfl,Rw,r4,d4⟩;have R4:=a_ r4;have D4:=a_ (D3.bh d4);clear r4 d4;refine hK _ _ (an D4.has.right.right.tail.tail.head 5 _ rfl) (λhHeld=>?_);clear hK K
  try simp only[aI]
  refine ke (i:=7) (j:=11) (by decide+kernel) rfl rfl (λK hK=>?_) (λK hK=>?_)
  ·go_simp;refine (et _ ((bc+1+1,.cells #[Wy] 28 (0,0))::(bc+1,.cells #[Wy] 3 (0,0))::(bc,.cells #[F,T,O,L,B,S,A] 126 (0,0))::Rr) al cap Rw R4 (D4.perm aF)).mono ?_;rintro e w5 ⟨rr,rv,rfl,ew,o5,d5⟩;have O5:=a_ o5;have D5:=a_ ((D4.perm (R':=Ro++(Rw++((bc+1+1,.cells #[Wy] 28 (0,0))::(bc+1,.cells #[Wy] 3 (0,0))::(bc,.cells #[F,T,O,L,B,S,A] 126 (0,0))::(Rm++Rr)))) aF).step d5);clear o5 d5;refine hK _ _ (an D5.has.right.right.tail.tail.head 5 _ rfl) (λhHeld=>?_);clear hK K
   try simp only[aI]
   refine aR 8 ?_;refine aR 9 ?_;refine aR 10 ?_;simp only[aI];refine jS 11 (λK hK=>?_);go_simp;have D6:=a_ ((ag.drop (A:=Rw) (D5.perm (R':=Rw++(ew++((bc+1+1,.cells #[Wy] 28 (0,0))::(bc+1,.cells #[Wy] 3 (0,0))::(bc,.cells #[F,T,O,L,B,S,A] 126 (0,0))::(Rm++Rr)))) aF)).box #[Wy,Wy,Wy,Wy] 236);refine hK _ _ (an D6.has.tail.right.tail.tail.head 5 _ rfl) (λhHeld=>?_);clear hK K
   try simp only[aI]
   generalize jJ:w5.heap.size=bx at *;generalize w5.alloc (.cells #[Wy,Wy,Wy,Wy] 236)=w6 at *;have q:=D6.has.head;obtain⟨b0,b1,b2,b3, -⟩:=jD q;obtain⟨f0,f1,f2,f3, -⟩:=tU q;clear q;refine jS 12 (λK hK=>?_);go_simp;have D7:=a_ ((((D6.set 0 (bQ (aj v.wd zs) d_:Nat)).set 1 (bd (aj v.wd zs) d_:Nat)).set 2 rr).set 3 rv);clear b0 b1 b2 b3 f0 f1 f2 f3;refine hK _ _ (an D7.has.tail.right.tail.tail.head 5 _ rfl) (λhHeld=>?_);clear hK K
   try simp only[aI]
   refine sD 13 (λK hK=>?_);go_simp;refine hK _ _ ?_;clear hK K
   try simp only[aI]
   refine NoPanic.normal ?_;have D9:=a_ (D7.perm (R':=ew++((bc+1+1,.cells #[Wy] 28 (0,0))::(bc+1,.cells #[Wy] 3 (0,0))::(bc,.cells #[F,T,O,L,B,S,A] 126 (0,0))::(Rm++(Rr++([(bx,.cells #[(bQ (aj v.wd zs) d_:Nat),(bd (aj v.wd zs) d_:Nat),rr,rv] 236 (0,0))]:BL))))) aF);clear D7 D6;generalize ((((w6.setCell ⟨bx,0,none⟩ (.int .i64 (bQ (aj v.wd zs) d_:Nat))).setCell ⟨bx,1,none⟩ (.int .i64 (bd (aj v.wd zs) d_:Nat))).setCell ⟨bx,2,none⟩ (.int .i64 rr)).setCell ⟨bx,3,none⟩ (.int .i64 rv))=w7 at *;clear hHeld jJ R4 D4 D5 D3;clear mX et D2
   go_wp2_with (go_at_call 175;refine (all_mk _ _).kq ?_;rintro w8 rfl)
   have iJ:=a_ (D9.box #[Wz ob] 215);obtain⟨Bm,rZ⟩:∃Bm,w7.heap.size=Bm:=⟨_,rfl⟩
   simp only[rZ] at iJ ⊢;generalize w7.alloc (.cells #[Wz ob] 215)=w8 at *;clear D9 rZ;refine (wpIn_wide (n:=3)).1 ?_;have gv:=eM (λ(pre:List (Nat×Nat)) (Rl:BL)=>Rl= []) (Rm++Rr) w HT Hg;refine dC (gf:=254) (lb:= #[.pointer (some ⟨Bm,0,none⟩)]) rfl dS (fL (Bm:=Bm) (T:=215) O5) (λ_=>rfl) ((Bm,.cells #[Wz ob] 215 (0,0))::(ew++((bc+1+1,.cells #[Wy] 28 (0,0))::(bc+1,.cells #[Wy] 3 (0,0))::(bc,.cells #[F,T,O,L,B,S,A] 126 (0,0))::(Rm++(Rr++([(bx,.cells #[(bQ (aj v.wd zs) d_:Nat),(bd (aj v.wd zs) d_:Nat),rr,rv] 236 (0,0))]:BL))))))
    (λx hx=>by
     rcases List.mem_cons.1 hx with rfl | hx
     ·exact List.mem_cons_self ..
     ·exact List.mem_cons_of_mem _ (List.mem_append_left _ hx))
    (λpre K W=>∃Rl:BL,Rl= []/\ag (Rm++Rr) (Rl++K) w W) (λc pre K W=>False/\∃Rl:BL,Rl= []/\ag (Rm++Rr) (Rl++K) w W) gv (λc=>gv.and _) ⟨[],rfl,iJ.out⟩ ?Nb ?jE ?rG ?rR ?th
   case jE=>
    intro l x W K hK;simp only[gg,eK,List.setIfInBounds_toArray,List.set_cons_zero,List.set_cons_succ]
    gi_wp2
    exact hK
   case rG=>
    clear iJ;intro l' pre x post K' W gz hsub hi;obtain⟨e1,e2,e3⟩:=eC O5.ok gz;obtain⟨x,z0⟩:=x;simp only at e1 e2 e3;obtain⟨Rl,rfl,hD⟩:=hi;have hst:=fF.st Hw Hz (cA.1 e2);obtain⟨t1,t2⟩:=Hf x hst;rw[e1] at e3;have e4:aj v.wd zs x=bC (v.wd x):=b9 (cA.1 e2);have jJ:=hD.has.right.one (hsub (bc,.cells #[F,T,O,L,B,S,A] 126 (0,0)) (by simp));obtain⟨c0,c1, -⟩:=qN jJ;have x1:(x:Int)<=1048576:=by omega
    have x2:(z0:Int)<=1048576:=by omega
    have g1:decide ((x:Int)<F)=false:=dP;have g2:decide ((T:Int)<(x:Int)+z0)=false:=dP;have g3:decide (x<F)=false:=dP;have g4:decide (T<x+z0)=false:=dP;have g5:¬x<F:=by omega
    have g6:¬T<x+z0:=by omega
    have g7:F<=x:=by omega
    have g8:x+z0<=T:=by omega
    have s1:=eH ((x:Int)+z0);have HD:=a_ hD;clear hD jJ e1 e2 e3 e4 gz gv hst t1 t2 hsub
    gi_wp2
    exact⟨[],rfl,HD⟩
   case rR=>
    intro D W hi;obtain⟨Rl,rfl,hD⟩:=hi;simp only[List.nil_append] at hD;have q6:=hD.has.tail.tail.right.tail.head;have q7:=hD.has.tail.tail.right.head;have q8:=hD.has.tail.tail.right.tail.tail.head;have q9:=hD.has.tail.tail.right.tail.tail.tail.right.right.head;have c6:=an q6 0 (.int .i64 0) rfl;have c7:=an q7 0 (.int .i64 0) rfl;have f6:=br q6 0;have f7:=br q7 0;obtain⟨-, -,c2,c3, -⟩:=jD q8;have c9:=an q9 1 (.int .i64 (bd (aj v.wd zs) d_:Nat)) rfl;have HD:=a_ hD;obtain⟨g1,UZ,s0,hlo,hsl⟩:=RO.out;clear iJ hD q6 q7 q8 q9 gv
    gi_wp2
    go_wp2;have rA:=(HD.perm (R':=(bc+1,.cells #[Wy] 3 (0,0))::(D,.deferred (some []))::(Bm,.cells #[Wz ob] 215 (0,0))::(bc+1+1,.cells #[Wy] 28 (0,0))::(bc,.cells #[F,T,O,L,B,S,A] 126 (0,0))::(ew++(Rm++(Rr++([(bx,.cells #[(bQ (aj v.wd zs) d_:Nat),(bd (aj v.wd zs) d_:Nat),rr,rv] 236 (0,0))]:BL))))) aF).set 0 (bd (aj v.wd zs) d_:Nat);simp only[List.setIfInBounds_toArray,List.set_cons_zero] at rA;have ue:=(rA.perm (R':=(bc+1+1,.cells #[Wy] 28 (0,0))::(bc+1,.cells #[(bd (aj v.wd zs) d_:Nat)] 3 (0,0))::(D,.deferred (some []))::(Bm,.cells #[Wz ob] 215 (0,0))::(bc,.cells #[F,T,O,L,B,S,A] 126 (0,0))::(ew++(Rm++(Rr++([(bx,.cells #[(bQ (aj v.wd zs) d_:Nat),(bd (aj v.wd zs) d_:Nat),rr,rv] 236 (0,0))]:BL))))) aF).set 0 Wy;simp only[List.setIfInBounds_toArray,List.set_cons_zero] at ue;have qe:=(ue.perm (R':=(D,.deferred (some []))::(bc+1+1,.cells #[Wy] 28 (0,0))::(bc+1,.cells #[(bd (aj v.wd zs) d_:Nat)] 3 (0,0))::(Bm,.cells #[Wz ob] 215 (0,0))::(bc,.cells #[F,T,O,L,B,S,A] 126 (0,0))::(ew++(([(bx,.cells #[(bQ (aj v.wd zs) d_:Nat),(bd (aj v.wd zs) d_:Nat),rr,rv] 236 (0,0))]:BL)++(Rm++Rr)))) aF)
    have tX:=qe.has.head;have uf:=qe.putObj (.deferred none);have q0:=an uf.has.tail.head 0 (.int .i64 0) rfl;have q1:=an uf.has.tail.tail.head 0 (.int .i64 (bd (aj v.wd zs) d_:Nat)) rfl;refine⟨by simp,.inl ⟨_,_,rfl,run_takeDeferred tX,?_⟩⟩;refine⟨.tuple #[(bd (aj v.wd zs) d_:Nat),Wy],?_,rfl,uf.quiet HR.1 uf.has.tail.tail.tail.tail.tail.right.right⟩;simp[results,results164,go_sem,q0,q1]
   case th=>
    rintro D c pre W hp ⟨hf, -⟩;exact hf.elim
  ·go_simp;have vp:=a_ (D4.box #[Wy,Wy,Wy,Wy] 236);refine hK _ _ (an vp.has.tail.right.right.tail.tail.head 5 _ rfl) (λhHeld=>?_);clear hK K
   try simp only[aI]
   generalize jJ:w4.heap.size=bx at *;generalize w4.alloc (.cells #[Wy,Wy,Wy,Wy] 236)=w4a at *;refine jS 7 (λK hK=>?_);go_simp;refine (et _ ((bx,.cells #[Wy,Wy,Wy,Wy] 236 (0,0))::(bc+1+1,.cells #[Wy] 28 (0,0))::(bc+1,.cells #[Wy] 3 (0,0))::(bc,.cells #[F,T,O,L,B,S,A] 126 (0,0))::Rr) al cap Rw R4 (vp.perm aF)).mono ?_;rintro e w5 ⟨rr,rv,rfl,ew,o5,d5⟩;have O5:=a_ o5;have D5:=a_ ((vp.perm (R':=Ro++((bx,.cells #[Wy,Wy,Wy,Wy] 236 (0,0))::(Rw++((bc+1+1,.cells #[Wy] 28 (0,0))::(bc+1,.cells #[Wy] 3 (0,0))::(bc,.cells #[F,T,O,L,B,S,A] 126 (0,0))::(Rm++Rr))))) aF).step d5);clear o5 d5;refine hK _ _ (an D5.has.right.tail.right.tail.tail.head 5 _ rfl) (λhHeld=>?_);clear hK K
   try simp only[aI]
   refine aR 8 ?_;refine aR 9 ?_;refine aR 10 ?_;simp only[aI];have D6:=a_ (ag.drop (A:=Rw) (D5.perm (R':=Rw++((bx,.cells #[Wy,Wy,Wy,Wy] 236 (0,0))::(ew++((bc+1+1,.cells #[Wy] 28 (0,0))::(bc+1,.cells #[Wy] 3 (0,0))::(bc,.cells #[F,T,O,L,B,S,A] 126 (0,0))::(Rm++Rr))))) aF));have q:=D6.has.head;obtain⟨b0,b1,b2,b3, -⟩:=jD q;obtain⟨f0,f1,f2,f3, -⟩:=tU q;clear q;refine jS 12 (λK hK=>?_);go_simp;have D7:=a_ ((((D6.set 0 (bQ (aj v.wd zs) d_:Nat)).set 1 (bd (aj v.wd zs) d_:Nat)).set 2 rr).set 3 rv);clear b0 b1 b2 b3 f0 f1 f2 f3;refine hK _ _ (an D7.has.tail.right.tail.tail.head 5 _ rfl) (λhHeld=>?_);clear hK K
   try simp only[aI]
   refine sD 13 (λK hK=>?_);go_simp;refine hK _ _ ?_;clear hK K
   try simp only[aI]
   refine NoPanic.normal ?_;have D9:=a_ (D7.perm (R':=ew++((bc+1+1,.cells #[Wy] 28 (0,0))::(bc+1,.cells #[Wy] 3 (0,0))::(bc,.cells #[F,T,O,L,B,S,A] 126 (0,0))::(Rm++(Rr++([(bx,.cells #[(bQ (aj v.wd zs) d_:Nat),(bd (aj v.wd zs) d_:Nat),rr,rv] 236 (0,0))]:BL))))) aF);clear D7 D6;generalize ((((w5.setCell ⟨bx,0,none⟩ (.int .i64 (bQ (aj v.wd zs) d_:Nat))).setCell ⟨bx,1,none⟩ (.int .i64 (bd (aj v.wd zs) d_:Nat))).setCell ⟨bx,2,none⟩ (.int .i64 rr)).setCell ⟨bx,3,none⟩ (.int .i64 rv))=w7 at *;clear hHeld jJ R4 D4 D5 D3 vp;clear mX et D2
   go_wp2_with (go_at_call 175;refine (all_mk _ _).kq ?_;rintro w8 rfl)
   have iJ:=a_ (D9.box #[Wz ob] 215);obtain⟨Bm,rZ⟩:∃Bm,w7.heap.size=Bm:=⟨_,rfl⟩
   simp only[rZ] at iJ ⊢;generalize w7.alloc (.cells #[Wz ob] 215)=w8 at *;clear D9 rZ;refine (wpIn_wide (n:=3)).1 ?_;have gv:=eM (λ(pre:List (Nat×Nat)) (Rl:BL)=>Rl= []) (Rm++Rr) w HT Hg;refine dC (gf:=254) (lb:= #[.pointer (some ⟨Bm,0,none⟩)]) rfl dS (fL (Bm:=Bm) (T:=215) O5) (λ_=>rfl) ((Bm,.cells #[Wz ob] 215 (0,0))::(ew++((bc+1+1,.cells #[Wy] 28 (0,0))::(bc+1,.cells #[Wy] 3 (0,0))::(bc,.cells #[F,T,O,L,B,S,A] 126 (0,0))::(Rm++(Rr++([(bx,.cells #[(bQ (aj v.wd zs) d_:Nat),(bd (aj v.wd zs) d_:Nat),rr,rv] 236 (0,0))]:BL))))))
    (λx hx=>by
     rcases List.mem_cons.1 hx with rfl | hx
     ·exact List.mem_cons_self ..
     ·exact List.mem_cons_of_mem _ (List.mem_append_left _ hx))
    (λpre K W=>∃Rl:BL,Rl= []/\ag (Rm++Rr) (Rl++K) w W) (λc pre K W=>False/\∃Rl:BL,Rl= []/\ag (Rm++Rr) (Rl++K) w W) gv (λc=>gv.and _) ⟨[],rfl,iJ.out⟩ ?a11 ?vB ?DG ?DV ?Fl
   case vB=>
    intro l x W K hK;simp only[gg,eK,List.setIfInBounds_toArray,List.set_cons_zero,List.set_cons_succ]
    gi_wp2
    exact hK
   case DG=>
    clear iJ;intro l' pre x post K' W gz hsub hi;obtain⟨e1,e2,e3⟩:=eC O5.ok gz;obtain⟨x,z0⟩:=x;simp only at e1 e2 e3;obtain⟨Rl,rfl,hD⟩:=hi;have hst:=fF.st Hw Hz (cA.1 e2);obtain⟨t1,t2⟩:=Hf x hst;rw[e1] at e3;have e4:aj v.wd zs x=bC (v.wd x):=b9 (cA.1 e2);have jJ:=hD.has.right.one (hsub (bc,.cells #[F,T,O,L,B,S,A] 126 (0,0)) (by simp));obtain⟨c0,c1, -⟩:=qN jJ;have x1:(x:Int)<=1048576:=by omega
    have x2:(z0:Int)<=1048576:=by omega
    have g1:decide ((x:Int)<F)=false:=dP;have g2:decide ((T:Int)<(x:Int)+z0)=false:=dP;have g3:decide (x<F)=false:=dP;have g4:decide (T<x+z0)=false:=dP;have g5:¬x<F:=by omega
    have g6:¬T<x+z0:=by omega
    have g7:F<=x:=by omega
    have g8:x+z0<=T:=by omega
    have s1:=eH ((x:Int)+z0);have HD:=a_ hD;clear hD jJ e1 e2 e3 e4 gz gv hst t1 t2 hsub
    gi_wp2
    exact⟨[],rfl,HD⟩
   case DV=>
    intro D W hi;obtain⟨Rl,rfl,hD⟩:=hi;simp only[List.nil_append] at hD;have q6:=hD.has.tail.tail.right.tail.head;have q7:=hD.has.tail.tail.right.head;have q8:=hD.has.tail.tail.right.tail.tail.head;have q9:=hD.has.tail.tail.right.tail.tail.tail.right.right.head;have c6:=an q6 0 (.int .i64 0) rfl;have c7:=an q7 0 (.int .i64 0) rfl;have f6:=br q6 0;have f7:=br q7 0;obtain⟨-, -,c2,c3, -⟩:=jD q8;have c9:=an q9 1 (.int .i64 (bd (aj v.wd zs) d_:Nat)) rfl;have HD:=a_ hD;obtain⟨g1,UZ,s0,hlo,hsl⟩:=RO.out;clear iJ hD q6 q7 q8 q9 gv
    gi_wp2
    go_wp2;have rA:=(HD.perm (R':=(bc+1,.cells #[Wy] 3 (0,0))::(D,.deferred (some []))::(Bm,.cells #[Wz ob] 215 (0,0))::(bc+1+1,.cells #[Wy] 28 (0,0))::(bc,.cells #[F,T,O,L,B,S,A] 126 (0,0))::(ew++(Rm++(Rr++([(bx,.cells #[(bQ (aj v.wd zs) d_:Nat),(bd (aj v.wd zs) d_:Nat),rr,rv] 236 (0,0))]:BL))))) aF).set 0 (bd (aj v.wd zs) d_:Nat);simp only[List.setIfInBounds_toArray,List.set_cons_zero] at rA;have ue:=(rA.perm (R':=(bc+1+1,.cells #[Wy] 28 (0,0))::(bc+1,.cells #[(bd (aj v.wd zs) d_:Nat)] 3 (0,0))::(D,.deferred (some []))::(Bm,.cells #[Wz ob] 215 (0,0))::(bc,.cells #[F,T,O,L,B,S,A] 126 (0,0))::(ew++(Rm++(Rr++([(bx,.cells #[(bQ (aj v.wd zs) d_:Nat),(bd (aj v.wd zs) d_:Nat),rr,rv] 236 (0,0))]:BL))))) aF).set 0 Wy;simp only[List.setIfInBounds_toArray,List.set_cons_zero] at ue;have qe:=(ue.perm (R':=(D,.deferred (some []))::(bc+1+1,.cells #[Wy] 28 (0,0))::(bc+1,.cells #[(bd (aj v.wd zs) d_:Nat)] 3 (0,0))::(Bm,.cells #[Wz ob] 215 (0,0))::(bc,.cells #[F,T,O,L,B,S,A] 126 (0,0))::(ew++(([(bx,.cells #[(bQ (aj v.wd zs) d_:Nat),(bd (aj v.wd zs) d_:Nat),rr,rv] 236 (0,0))]:BL)++(Rm++Rr)))) aF)
    have tX:=qe.has.head;have uf:=qe.putObj (.deferred none);have q0:=an uf.has.tail.head 0 (.int .i64 0) rfl;have q1:=an uf.has.tail.tail.head 0 (.int .i64 (bd (aj v.wd zs) d_:Nat)) rfl;refine⟨by simp,.inl ⟨_,_,rfl,run_takeDeferred tX,?_⟩⟩;refine⟨.tuple #[(bd (aj v.wd zs) d_:Nat),Wy],?_,rfl,uf.quiet HR.1 uf.has.tail.tail.tail.tail.tail.right.right⟩;simp[results,results164,go_sem,q0,q1]
   case Fl=>
    rintro D c pre W hp ⟨hf, -⟩;exact hf.elim
 ·go_simp;have tR:=a_ (D3.box #[Wy,Wy,Wy,Wy] 236);refine hK _ _ (an tR.has.tail.right.tail.tail.head 5 _ rfl) (λhHeld=>?_);clear hK K
  try simp only[aI]
  generalize jJ:w3.heap.size=bx at *;generalize w3.alloc (.cells #[Wy,Wy,Wy,Wy] 236)=w3a at *;refine jS 3 (λK hK=>?_);go_simp;refine (mX _ tR.has.tail.right.tail.tail.tail.right).mono ?_;rintro e w4 ⟨al,cap,rfl,Rw,r4,d4⟩;have R4:=a_ r4;have vp:=a_ (tR.bh d4);clear r4 d4;refine hK _ _ (an vp.has.right.tail.right.tail.tail.head 5 _ rfl) (λhHeld=>?_);clear hK K
  try simp only[aI]
  refine jS 7 (λK hK=>?_);go_simp;refine (et _ ((bx,.cells #[Wy,Wy,Wy,Wy] 236 (0,0))::(bc+1+1,.cells #[Wy] 28 (0,0))::(bc+1,.cells #[Wy] 3 (0,0))::(bc,.cells #[F,T,O,L,B,S,A] 126 (0,0))::Rr) al cap Rw R4 (vp.perm aF)).mono ?_;rintro e w5 ⟨rr,rv,rfl,ew,o5,d5⟩;have O5:=a_ o5;have D5:=a_ ((vp.perm (R':=Ro++((bx,.cells #[Wy,Wy,Wy,Wy] 236 (0,0))::(Rw++((bc+1+1,.cells #[Wy] 28 (0,0))::(bc+1,.cells #[Wy] 3 (0,0))::(bc,.cells #[F,T,O,L,B,S,A] 126 (0,0))::(Rm++Rr))))) aF).step d5);clear o5 d5;refine hK _ _ (an D5.has.right.tail.right.tail.tail.head 5 _ rfl) (λhHeld=>?_);clear hK K
  try simp only[aI]
  refine aR 8 ?_;refine aR 9 ?_;refine aR 10 ?_;simp only[aI];have D6:=a_ (ag.drop (A:=Rw) (D5.perm (R':=Rw++((bx,.cells #[Wy,Wy,Wy,Wy] 236 (0,0))::(ew++((bc+1+1,.cells #[Wy] 28 (0,0))::(bc+1,.cells #[Wy] 3 (0,0))::(bc,.cells #[F,T,O,L,B,S,A] 126 (0,0))::(Rm++Rr))))) aF));have q:=D6.has.head;obtain⟨b0,b1,b2,b3, -⟩:=jD q;obtain⟨f0,f1,f2,f3, -⟩:=tU q;clear q;refine jS 12 (λK hK=>?_);go_simp;have D7:=a_ ((((D6.set 0 (bQ (aj v.wd zs) d_:Nat)).set 1 (bd (aj v.wd zs) d_:Nat)).set 2 rr).set 3 rv);clear b0 b1 b2 b3 f0 f1 f2 f3;refine hK _ _ (an D7.has.tail.right.tail.tail.head 5 _ rfl) (λhHeld=>?_);clear hK K
  try simp only[aI]
  refine sD 13 (λK hK=>?_);go_simp;refine hK _ _ ?_;clear hK K
  try simp only[aI]
  refine NoPanic.normal ?_;have D9:=a_ (D7.perm (R':=ew++((bc+1+1,.cells #[Wy] 28 (0,0))::(bc+1,.cells #[Wy] 3 (0,0))::(bc,.cells #[F,T,O,L,B,S,A] 126 (0,0))::(Rm++(Rr++([(bx,.cells #[(bQ (aj v.wd zs) d_:Nat),(bd (aj v.wd zs) d_:Nat),rr,rv] 236 (0,0))]:BL))))) aF);clear D7 D6;generalize ((((w5.setCell ⟨bx,0,none⟩ (.int .i64 (bQ (aj v.wd zs) d_:Nat))).setCell ⟨bx,1,none⟩ (.int .i64 (bd (aj v.wd zs) d_:Nat))).setCell ⟨bx,2,none⟩ (.int .i64 rr)).setCell ⟨bx,3,none⟩ (.int .i64 rv))=w7 at *;clear hHeld jJ R4 tR D5 vp D3;clear mX et D2
  go_wp2_with (go_at_call 175;refine (all_mk _ _).kq ?_;rintro w8 rfl)
  have iJ:=a_ (D9.box #[Wz ob] 215);obtain⟨Bm,rZ⟩:∃Bm,w7.heap.size=Bm:=⟨_,rfl⟩
  simp only[rZ] at iJ ⊢;generalize w7.alloc (.cells #[Wz ob] 215)=w8 at *;clear D9 rZ;refine (wpIn_wide (n:=3)).1 ?_;have gv:=eM (λ(pre:List (Nat×Nat)) (Rl:BL)=>Rl= []) (Rm++Rr) w HT Hg;refine dC (gf:=254) (lb:= #[.pointer (some ⟨Bm,0,none⟩)]) rfl dS (fL (Bm:=Bm) (T:=215) O5) (λ_=>rfl) ((Bm,.cells #[Wz ob] 215 (0,0))::(ew++((bc+1+1,.cells #[Wy] 28 (0,0))::(bc+1,.cells #[Wy] 3 (0,0))::(bc,.cells #[F,T,O,L,B,S,A] 126 (0,0))::(Rm++(Rr++([(bx,.cells #[(bQ (aj v.wd zs) d_:Nat),(bd (aj v.wd zs) d_:Nat),rr,rv] 236 (0,0))]:BL))))))
   (λx hx=>by
    rcases List.mem_cons.1 hx with rfl | hx
    ·exact List.mem_cons_self ..
    ·exact List.mem_cons_of_mem _ (List.mem_append_left _ hx))
   (λpre K W=>∃Rl:BL,Rl= []/\ag (Rm++Rr) (Rl++K) w W) (λc pre K W=>False/\∃Rl:BL,Rl= []/\ag (Rm++Rr) (Rl++K) w W) gv (λc=>gv.and _) ⟨[],rfl,iJ.out⟩ ?a12 ?vC ?DH ?DW ?Fm
  case vC=>
   intro l x W K hK;simp only[gg,eK,List.setIfInBounds_toArray,List.set_cons_zero,List.set_cons_succ]
   gi_wp2
   exact hK
  case DH=>
   clear iJ;intro l' pre x post K' W gz hsub hi;obtain⟨e1,e2,e3⟩:=eC O5.ok gz;obtain⟨x,z0⟩:=x;simp only at e1 e2 e3;obtain⟨Rl,rfl,hD⟩:=hi;have hst:=fF.st Hw Hz (cA.1 e2);obtain⟨t1,t2⟩:=Hf x hst;rw[e1] at e3;have e4:aj v.wd zs x=bC (v.wd x):=b9 (cA.1 e2);have jJ:=hD.has.right.one (hsub (bc,.cells #[F,T,O,L,B,S,A] 126 (0,0)) (by simp));obtain⟨c0,c1, -⟩:=qN jJ;have x1:(x:Int)<=1048576:=by omega
   have x2:(z0:Int)<=1048576:=by omega
   have g1:decide ((x:Int)<F)=false:=dP;have g2:decide ((T:Int)<(x:Int)+z0)=false:=dP;have g3:decide (x<F)=false:=dP;have g4:decide (T<x+z0)=false:=dP;have g5:¬x<F:=by omega
   have g6:¬T<x+z0:=by omega
   have g7:F<=x:=by omega
   have g8:x+z0<=T:=by omega
   have s1:=eH ((x:Int)+z0);have HD:=a_ hD;clear hD jJ e1 e2 e3 e4 gz gv hst t1 t2 hsub
   gi_wp2
   exact⟨[],rfl,HD⟩
  case DW=>
   intro D W hi;obtain⟨Rl,rfl,hD⟩:=hi;simp only[List.nil_append] at hD;have q6:=hD.has.tail.tail.right.tail.head;have q7:=hD.has.tail.tail.right.head;have q8:=hD.has.tail.tail.right.tail.tail.head;have q9:=hD.has.tail.tail.right.tail.tail.tail.right.right.head;have c6:=an q6 0 (.int .i64 0) rfl;have c7:=an q7 0 (.int .i64 0) rfl;have f6:=br q6 0;have f7:=br q7 0;obtain⟨-, -,c2,c3, -⟩:=jD q8;have c9:=an q9 1 (.int .i64 (bd (aj v.wd zs) d_:Nat)) rfl;have HD:=a_ hD;obtain⟨g1,UZ,s0,hlo,hsl⟩:=RO.out;clear iJ hD q6 q7 q8 q9 gv
   gi_wp2
   go_wp2;have rA:=(HD.perm (R':=(bc+1,.cells #[Wy] 3 (0,0))::(D,.deferred (some []))::(Bm,.cells #[Wz ob] 215 (0,0))::(bc+1+1,.cells #[Wy] 28 (0,0))::(bc,.cells #[F,T,O,L,B,S,A] 126 (0,0))::(ew++(Rm++(Rr++([(bx,.cells #[(bQ (aj v.wd zs) d_:Nat),(bd (aj v.wd zs) d_:Nat),rr,rv] 236 (0,0))]:BL))))) aF).set 0 (bd (aj v.wd zs) d_:Nat);simp only[List.setIfInBounds_toArray,List.set_cons_zero] at rA;have ue:=(rA.perm (R':=(bc+1+1,.cells #[Wy] 28 (0,0))::(bc+1,.cells #[(bd (aj v.wd zs) d_:Nat)] 3 (0,0))::(D,.deferred (some []))::(Bm,.cells #[Wz ob] 215 (0,0))::(bc,.cells #[F,T,O,L,B,S,A] 126 (0,0))::(ew++(Rm++(Rr++([(bx,.cells #[(bQ (aj v.wd zs) d_:Nat),(bd (aj v.wd zs) d_:Nat),rr,rv] 236 (0,0))]:BL))))) aF).set 0 Wy;simp only[List.setIfInBounds_toArray,List.set_cons_zero] at ue;have qe:=(ue.perm (R':=(D,.deferred (some []))::(bc+1+1,.cells #[Wy] 28 (0,0))::(bc+1,.cells #[(bd (aj v.wd zs) d_:Nat)] 3 (0,0))::(Bm,.cells #[Wz ob] 215 (0,0))::(bc,.cells #[F,T,O,L,B,S,A] 126 (0,0))::(ew++(([(bx,.cells #[(bQ (aj v.wd zs) d_:Nat),(bd (aj v.wd zs) d_:Nat),rr,rv] 236 (0,0))]:BL)++(Rm++Rr)))) aF)
   have tX:=qe.has.head;have uf:=qe.putObj (.deferred none);have q0:=an uf.has.tail.head 0 (.int .i64 0) rfl;have q1:=an uf.has.tail.tail.head 0 (.int .i64 (bd (aj v.wd zs) d_:Nat)) rfl;refine⟨by simp,.inl ⟨_,_,rfl,run_takeDeferred tX,?_⟩⟩;refine⟨.tuple #[(bd (aj v.wd zs) d_:Nat),Wy],?_,rfl,uf.quiet HR.1 uf.has.tail.tail.tail.tail.tail.right.right⟩;simp[results,results164,go_sem,q0,q1]
  case Fm=>
   rintro D c pre W hp ⟨hf, -⟩;exact hf.elim
end
end
abbrev bF (m aa top aT:Nat):Obj:= .cells #[Wz m,aa,top,aT] 240 (0,0)
def kX (r m:Nat) (w:World) (c0:w.cell? ⟨r,0,none⟩=some (.pointer (some ⟨m,0,none⟩))):
  WR 159 #[Wz r] w false λw'=>w=w':=by
 go_enter func159,ntmps159;go_wp2;go_ret;exact⟨rfl,rfl⟩
section
variable {m r d_ c_ e_ t aa top aT:Nat} {v:VS} {Rm R0 K:BL} {w0 w w':World}
def oo (h:w.heap[r]?=some (bF m aa top aT)):WR 77 #[Wz r] w aa λw'=>w=w':=by
 obtain⟨c0,c1, -⟩:=qN h;have cg:=a_ (kX r m w c0);clear h;go_enter func77,ntmps77
 go_wp2_with (go_at_call 159;refine cg.kq ?_;rintro w1 rfl)
 go_ret;exact⟨rfl,rfl⟩
def wF (h:w.heap[r]?=some (bF m aa top aT)):WR 76 #[Wz r] w top λw'=>w=w':=by
 obtain⟨c0, -,c2, -⟩:=ft h;have cg:=a_ (kX r m w c0);clear h;go_enter func76,ntmps76
 go_wp2_with (go_at_call 159;refine cg.kq ?_;rintro w1 rfl)
 go_ret;exact⟨rfl,rfl⟩
def Fg (hR:At [(r,bF m aa top aT)] w) {x:Nat} (hx:aa<=x/\x<=aT):WR 87 #[Wz r,x] w Wy λw'=>ag [(r,bF m aa top aT)] [(r,bF m aa x aT)] w w':=by
 have h:=hR.1.head;obtain⟨c0,c1,c2,c3, -⟩:=jD h;have f2:=br h 2;have cg:=a_ (kX r m w c0);have Hx:=a_ ((ag.refl hR).set 2 x);have h1:¬(x:Int)<aa:=by omega
 have h2:¬(aT:Int)<x:=by omega
 have h3:¬x<aa:=by omega
 have h4:¬aT<x:=by omega
 clear h hR;go_enter func87,ntmps87
 go_wp2_with (go_at_call 159;refine cg.kq ?_;rintro w1 rfl)
 go_ret;exact⟨rfl,Hx⟩
def Ff (h:aH m d_ c_ e_ t v Rm) (hR:Has Rm w) (hw:1<=d_) (a b:Nat) (hab:a<=b/\b<=d_):
  WA 110 #[Wz m,a,b] w λe w'=>∃r,e= .returned (.tuple #[Wz r,Wy])/\ag [] [(r,bF m a a b)] w w':=by
 have Hw:=a_ (iI h hR);have HB:=a_ ((ag.refl (At.nil (w:=w))).box #[Wz m,a,a,b] 240);have hz:¬(d_:Int)=0:=by omega
 have Mf:((d_:Int)==0)=false:=by simp;omega
 have h1:¬(a:Int)<0:=by omega
 have h2:¬(b:Int)<a:=by omega
 have h3:¬(d_:Int)<b:=by omega
 have h4:¬b<a:=by omega
 have h5:¬d_<b:=by omega
 have q2:decide ((b:Int)<a)=false:=decide_eq_false h2;have q3:decide ((d_:Int)<b)=false:=decide_eq_false h3;have q4:decide (b<a)=false:=decide_eq_false h4;have q5:decide (d_<b)=false:=decide_eq_false h5;clear h hR;go_enter func110,ntmps110
 go_wp2_with (go_at_call 157;refine Hw.kq ?_;rintro w1 rfl)
 go_ret2
 exact⟨_,rfl,HB⟩
def rg_alloc_no (h:w.heap[r]?=some (bF m aa top aT)) (ey:aT<=1048576) (ht:top<=aT) (n:Nat) (h1:1<=n) (h2:aT<top+n) (hn:n<=1048576):
  WR 128 #[Wz r,n] w (.tuple #[Wy,(21:Int)]) λw'=>Below w.heap.size w w':=by
 obtain⟨c0, -,c2,c3, -⟩:=jD h;have cg:=a_ (kX r m w c0);have s1:=eH ((aT:Int)-top);have q1:decide ((aT:Int)-top<n)=true:=kr;have q2:¬(n:Int)<1:=by omega
 have q3:decide ((n:Int)<1)=false:=decide_eq_false q2;clear h;go_enter func128,ntmps128
 go_wp2_with (go_at_call 159;refine cg.kq ?_;rintro w1 rfl)
 go_quiet (fail)
 go_wp2
 go_ret2
 exact⟨rfl,Fr.aA _ _⟩
def rg_alloc (h:aH m d_ c_ e_ t v Rm) (hR:At ((r,bF m aa top aT)::Rm) w) (ht:t<=999000000000000) (ey:aT<=1048576) (n:Nat) (h1:1<=n) (h2:top+n<=aT) (hE:dc d_ c_ e_ v (top:Nat) (top+n:Nat)=0):
  WR 128 #[Wz r,n] w (.tuple #[top,Wy]) λw'=>∃bI,aH m d_ c_ e_ (t+d_/c_) (bH d_ c_ e_ v (top:Nat) (top+n:Nat)) bI/\ag ((r,bF m aa top aT)::Rm) ((r,bF m aa (top+n) aT)::bI) w w':=by
 have D0:=a_ ((ag.refl hR).perm (R':=Rm++ [(r,bF m aa top aT)]) aF);have hh:=hR.1.head;obtain⟨c0, -,c2,c3, -⟩:=jD hh;have cg:=a_ (kX r m w c0);have s1:=eH ((aT:Int)-top);have q1:decide ((aT:Int)-top<n)=false:=dP;have q2:¬(n:Int)<1:=by omega
 have q3:decide ((n:Int)<1)=false:=decide_eq_false q2;have s2:=eH ((top:Int)+n);have Be:=λW (hW:At Rm W)=>rk h hW ht (top:Nat) (top+n:Nat)
 rw[hE] at Be;have ec:((top+n:Nat):Int)=(top:Int)+n:=by omega
 generalize bH d_ c_ e_ v (top:Nat) (top+n:Nat)=v' at *;rw[ec] at Be;obtain⟨Hneed,S2,EC⟩:=dF Be s2 ec;clear h hR Be s2 ec hh hE;go_enter func128,ntmps128
 go_wp2_with (go_at_call 159;refine cg.kq ?_;rintro w1 rfl)
 go_quiet (fail)
 clear s1 q1 c0 c2 c3;go_wp2;have D2:=a_ (D0.grow (Fr.aA nq w));generalize w.drewN nq=W at *;have hh:=D2.has.right.head;obtain⟨c0, -,c2, -⟩:=ft hh;have s2:=S2.out;clear hh
 go_region_held3 (λw'=>w'.cell? ⟨r,0,none⟩=some (.pointer (some ⟨m,0,none⟩))/\w'.cell? ⟨r,2,none⟩=some (.int .i64 top)) (first | exact⟨c0,c2⟩ | exact⟨d0,d2⟩ | go_keep) ((go_at_call 165;refine (Hneed _ (D2.grow (ay W)).at_.left).kq ?_;rintro w5 ⟨bI,m5,d5⟩;have M5:=a_ m5;have D5:=a_ ((D2.grow (ay W)).step d5);have hh:=D5.has.right.head;have d0:=an hh 0 _ rfl;have d2:=an hh 2 _ rfl;have f2:=br hh 2;clear m5 d5 hh))
 clear c0 c2 s2;have D6:=a_ ((D5.perm (R':=(r,bF m aa top aT)::bI) aF).set 2 ((top:Int)+n:Int));go_wp2
 go_ret2
 refine⟨rfl,bI,M5,?_⟩;have:=D6.out;rw[←EC.out] at this;exact this
end
end Go.Proofs.YtmdgfpeglgpiiaaGreatDoor

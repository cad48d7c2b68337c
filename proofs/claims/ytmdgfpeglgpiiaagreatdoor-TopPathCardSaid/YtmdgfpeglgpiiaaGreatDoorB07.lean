import Derived.Test.YtmdgfpeglgpiiaaGreatDoorB06
set_option linter.all false
set_option maxRecDepth 100000
set_option maxHeartbeats 16000000
namespace Go.Proofs.YtmdgfpeglgpiiaaGreatDoor
open Go.ChangeShapes Go.WideShapes Go.ChangeAt Go.RowKit Go.Maps Go.Sort
open Vq Oq Go.Proofs.Tryz
def GM (g:Nat->Nat) (a x:Nat):Nat->Nat:=λb=>if b=a then x else g b
def MH.kZ (m:MH) (a i x:Nat):MH:={m with L:=m.L.set (a-1) {m.ob a with w:=(m.ob a).w.set i x}}
def MH.ic (m:MH) (i x:Nat):MH:={m with S:=m.S.set i x}
def MH.new (m:MH) (p f o:Nat):MH:={m with L:=m.L++ [⟨p,f,o,List.replicate (p+f+o) 0⟩]}
section
variable {g g':Nat->Nat}{rs:List Nat}{m:MH}{Q:Nat->Prop}{φ:Nat->Nat}{aa top a i x:Nat}
def MH.EU (h1:1<=a) (h2:a<=m.L.length) (b:Nat) (hb:1<=b):(m.kZ a i x).ob b=if b=a then {m.ob a with w:=(m.ob a).w.set i x} else m.ob b:=by unfold MH.ob MH.kZ;rw[ac,I'];by_cases e:b=a;subst e;rw[b9 rfl,iY,b9 rfl];rfl;rw[cG,b_ e,ac]
def MH.ob_new {p f o:Nat} {b:Nat} (hb:b<=m.L.length) (bp:1<=b):(m.new p f o).ob b=m.ob b:=by unfold MH.ob MH.new;rw[ac,rf e9,ac]
def MH.ob_last {p f o:Nat}:(m.new p f o).ob (m.L.length+1)=⟨p,f,o,List.replicate (p+f+o) 0⟩:=by unfold MH.ob MH.new;rw[ac,ai6,y' (bi _),ad0];rfl
def MH.pt_setW (h1:1<=a) (h2:a<=m.L.length) (b:Nat) (hb:1<=b):∀p∈(m.kZ a i x).pt b,p∈m.pt b\/(b=a/\p=x/\i<(m.ob a).p):=λp hp=>by
 unfold MH.pt at hp ⊢;rw[MH.EU h1 h2 b hb] at hp;by_cases e:b=a
 .subst e;rw[b9 rfl] at hp;simp only at hp;obtain⟨j,hj⟩:=List.getElem?_of_mem hp;rw[Km] at hj;split at hj
  .next hlt=>
   rw[I'] at hj;split at hj
   .next e2=>
    split at hj;cases hj;exact .inr ⟨rfl,rfl,e9⟩;cases hj
   left;exact PP (i:=j) (by rw[Km,b9 hlt];exact hj)
  cases hj
 rw[b_ e] at hp;exact .inl hp
def cX.set (h:cX g rs m Q φ aa top) (ha:Q a) (hi:i<(m.ob a).w.length) {y:Nat} (hy:y<18446744073709551616) (hx:if i<(m.ob a).p then (x=0\/Q x)/\y=φ x else y=x):cX (GM g (φ a+1+i) y) rs (m.kZ a i x) Q φ aa top:=by
 obtain⟨r1,r2⟩:=h.xf a ha;have vO:=λb (hb:Q b)=>MH.EU (i:=i) (x:=x) r1 r2 b (h.xf b hb).1;have hsz:∀b,Q b->((m.kZ a i x).ob b).sz=(m.ob b).sz:=λb hb=>by
  rw[vO b hb];split
  .next e=>
   subst e;rfl
  rfl
 have GI:=h.wl a ha;have hla:=h.lies a ha;have hne:∀b j,Q b->j<(m.ob b).sz->φ b+j=φ a+1+i->b=a/\j=1+i:=λb j hb hj e=>by rcases T_ (φ b) (φ a) with q|q|q;have:=h.apart b a hb ha q;omega;exact⟨h.inj b a hb ha q,e9⟩;have:=h.apart a b ha hb q;unfold MO.sz at this;omega
 refine⟨h.pos,h.zero,λb hb=>?_,h.inj,h.root,h.rs,λb hb p hp=>?_,λb hb=>?_,λb hb=>?_,λb c hb hc hlt=>?_,λb hb=>?_,λb j hb hj=>?_,λb=>?_⟩;rw[show (m.kZ a i x).L.length=m.L.length from p_];exact h.xf b hb;rcases MH.pt_setW r1 r2 b (h.xf b hb).1 p hp with q|⟨rfl,rfl,q⟩;exact h.cl b hb p q;rw[b9 q] at hx;exact hx.1
 .rw[vO b hb];split
  .next e=>
   subst e;show ((m.ob b).w.set i x).length=_;rw[p_];exact GI
  exact h.wl b hb
 rw[hsz b hb];exact h.lies b hb;rw[hsz b hb];exact h.apart b c hb hc hlt
 .have e1:GM g (φ a+1+i) y (φ b)=g (φ b):=b_ λe=>(by have:=(hne b 0 hb (by unfold MO.sz;omega) e).2;omega);rw[e1,vO b hb];split
  .next e=>
   subst e;exact h.hd b hb
  exact h.hd b hb
 .have hlen:((m.kZ a i x).ob b).w.length=(m.ob b).w.length:=by
   rw[vO b hb];split
   .next e=>
    subst e;exact p_
   rfl
  have Qi:j<(m.ob b).w.length:=e9
  have dX:=h.wl b hb;unfold GM;by_cases e:φ b+1+j=φ a+1+i
  .obtain⟨rfl,hO⟩:=hne b (1+j) hb (by unfold MO.sz;omega) e9;obtain rfl:j=i:=e9
   have e3:(if b=b then ({m.ob b with w:=(m.ob b).w.set j x}:MO) else m.ob b)={m.ob b with w:=(m.ob b).w.set j x}:=b9 rfl;rw[b9 e,vO b hb,e3];show y=if j<(m.ob b).p then φ (((m.ob b).w.set j x).getD j 0) else ((m.ob b).w.set j x).getD j 0;rw[ac,I',b9 rfl,b9 Qi];show y=if j<(m.ob b).p then φ x else x;split at hx
   .next q=>rw[b9 q];exact hx.2
   next q=>rw[b_ q];exact hx
  .rw[b_ e,h.Cr b j hb Qi,vO b hb];by_cases e2:b=a
   subst e2;have e3:(if b=b then ({m.ob b with w:=(m.ob b).w.set i x}:MO) else m.ob b)={m.ob b with w:=(m.ob b).w.set i x}:=b9 rfl;rw[e3];have hO:¬i=j:=λq=>e (by rw[q]);show _=if j<(m.ob b).p then φ (((m.ob b).w.set i x).getD j 0) else ((m.ob b).w.set i x).getD j 0;simp only[ac,I',b_ hO];rw[b_ e2]
 unfold GM;split;exact hy;exact h.small b
def cX.ic (h:cX g rs m Q φ aa top) (i:Nat) (hx:x=0\/Q x):cX g (rs.set i (φ x)) (m.ic i x) Q φ aa top:=⟨h.pos,h.zero,h.xf,h.inj,λa ha=>(af4 ha).elim (h.root a) (λe=>e▸hx),by rw[h.rs];exact (Z' ..).symm,h.cl,h.wl,h.lies,h.apart,h.hd,h.Cr,h.small⟩
def cX.new (h:cX g rs m Q φ aa top) (hb:aa<=top) {p f o:Nat} (hh:Hd.Is (g' top)/\Hd.tp (g' top)=p/\Hd.tf (g' top)=f/\Hd.to (g' top)=o) (hz:∀i,i<p+f+o->g' (top+1+i)=0) (hold:∀a,a<top->g' a=g a) (hs:∀a,g' a<18446744073709551616): cX g' rs (m.new p f o) (λa=>Q a\/a=m.L.length+1) (λa=>if a=m.L.length+1 then top else φ a) aa (top+(1+(p+f+o))):=by
 have hn:¬Q (m.L.length+1):=λq=>by have:=h.xf _ q;omega
 have hne:∀a,Q a->a≠m.L.length+1:=λa ha e=>hn (e▸ha);have hφ:∀a,Q a\/a=0->(if a=m.L.length+1 then top else φ a)=φ a:=λa ha=>b_ (ha.elim (hne a) (λe=>e9));have vO:∀a,Q a->(m.new p f o).ob a=m.ob a:=λa ha=>MH.ob_new (h.xf a ha).2 (h.xf a ha).1;have hlt:∀a,Q a->φ a<top:=λa ha=>by have:=h.lies a ha;have hz:1<=(m.ob a).sz:=(by unfold MO.sz;omega);omega
 have Ow:∀a,Q a->(m.new p f o).pt a=m.pt a:=λa ha=>by unfold MH.pt;rw[vO a ha]
 have hlast:=MH.ob_last (m:=m) (p:=p) (f:=f) (o:=o);have hcl0:∀a,Q a->∀i,i<(m.ob a).p->i<(m.ob a).w.length->(m.ob a).w.getD i 0=0\/Q ((m.ob a).w.getD i 0):=λa ha i hi qw=>by refine h.cl a ha _ ?_;unfold MH.pt;refine PP (i:=i) ?_;rw[Km,b9 hi,co qw,ac,co qw];rfl
 refine⟨h.pos,?_,?_,?_,?_,?_,?_,?_,?_,?_,?_,?_,hs⟩;show (if 0=m.L.length+1 then top else φ 0)=0;rw[cG,h.zero];have e:(m.new p f o).L.length=m.L.length+1:=by simp[MH.new]
 rw[e];rintro a (ha|rfl);have:=h.xf a ha;omega;omega;rintro a b (ha|rfl) (hb|rfl);rw[hφ a (.inl ha),hφ b (.inl hb)];exact h.inj a b ha hb;simp only[b9,hφ a (.inl ha)];have:=hlt a ha;omega;simp only[b9,hφ b (.inl hb)];have:=hlt b hb;omega;exact λ_=>rfl;exact λa ha=>(h.root a ha).imp id .inl;rw[h.rs];refine s_ λa ha=>?_;exact (hφ a ((h.root a ha).symm)).symm;rintro a (ha|rfl) q hq;rw[Ow a ha] at hq;exact (h.cl a ha q hq).imp id .inl;unfold MH.pt at hq;rw[hlast] at hq;exact .inl (List.mem_replicate.1 (ab3 hq)).2;rintro a (ha|rfl);rw[vO a ha];exact h.wl a ha;rw[hlast];simp;rintro a (ha|rfl);simp only[hφ a (.inl ha),vO a ha];have:=h.lies a ha;omega;rw[hlast];simp only[b9,MO.sz];omega;rintro a b (ha|rfl) (hb|rfl);simp only[hφ a (.inl ha),hφ b (.inl hb),vO a ha];exact h.apart a b ha hb;simp only[hφ a (.inl ha),vO a ha,b9];exact λ_=>(h.lies a ha).2;simp only[hφ b (.inl hb),b9];have:=hlt b hb;omega;intro q;omega;rintro a (ha|rfl);simp only[hφ a (.inl ha),vO a ha,hold _ (hlt a ha)];exact h.hd a ha;rw[hlast];simp only[b9];exact hh;rintro a i (ha|rfl) hi;rw[vO a ha] at hi ⊢;have hl:=h.wl a ha;have hlie:=h.lies a ha;unfold MO.sz at hlie;simp only[hφ a (.inl ha)];rw[hold _ e9,h.Cr a i ha hi];by_cases ya:i<(m.ob a).p;rw[b9 ya,b9 ya,hφ _ ((hcl0 a ha i ya hi).symm)];rw[b_ ya,b_ ya];rw[hlast] at hi ⊢;simp only[I_] at hi;have e:(List.replicate (p+f+o) 0:List Nat).getD i 0=0:=by rw[ac,af8,b9 hi];rfl
 simp only[b9,e];rw[hz i hi,b_ (show ¬0=m.L.length+1 by omega),h.zero];split<;>rfl
def cX.move (h:cX g rs m Q φ aa top) (ht:top<=1000000) {DF top':Nat} (to:Nat->Nat) (hb:0<DF) (hl:∀x,fF g rs x->DF<=to x/\to x+bC (g x)<=top') (hap:∀x y,fF g rs x->fF g rs y->x≠y->to x+bC (g x)<=to y\/to y+bC (g y)<=to x) (hh:∀x,fF g rs x->g' (to x)=g x) (hf:∀x i,fF g rs x->i<Hd.tp (g x)+Hd.tf (g x)+Hd.to (g x)->g' (to x+1+i)=if i<Hd.tp (g x) then (if g (x+1+i)=0 then 0 else to (g (x+1+i))) else g (x+1+i))
  (hs:∀a,g' a<18446744073709551616):cX g' (rs.map λx=>if x=0 then 0 else to x) m (gA m.pt m.S) (λa=>if a=0 then 0 else to (φ a)) DF top':=by
 have hr:∀a,gA m.pt m.S a->fF g rs (φ a):=λa ha=>(h.lH ht _).2 (IR (((h.PK ht).2.1 a).2 ha));have hq:∀a,gA m.pt m.S a->Q a:=λa ha=>h.wD ha;have hφ:∀a,gA m.pt m.S a->(if a=0 then 0 else to (φ a))=to (φ a):=λa ha=>b_ ha.ne;have hz:∀x:Nat,1<=bC x:=λx=>by unfold bC;omega
 refine⟨hb,b9 rfl,λa ha=>h.xf a (hq a ha),λa b ha AZ e=>?_,λa ha=>?_,?_,λa ha p hp=>?_,λa ha=>h.wl a (hq a ha),λa ha=>?_,λa b ha AZ hlt=>?_,λa ha=>?_,λa i ha hi=>?_,hs⟩;simp only[hφ a ha,hφ b AZ] at e;refine h.inj a b (hq a ha) (hq b AZ) (L_ λhn=>?_);have h1:=hz (g (φ a));have h2:=hz (g (φ b));rcases hap _ _ (hr a ha) (hr b AZ) hn with r|r<;>omega;rcases su (a=0) with e|e;exact .inl e;exact .inr (.root ha e);rw[h.rs,Pi];refine s_ λa ha=>?_;show (if φ a=0 then 0 else to (φ a))=_;rcases h.root a ha with rfl|q;rw[h.zero,b9 rfl];rw[b_ (h.Ct q),b_ (by have:=h.xf a q;omega)];rcases su (p=0) with e|e;exact .inl e;exact .inr (.ptr ha hp e);simp only[hφ a ha];rw[<-h.mh (hq a ha)];exact hl _ (hr a ha);simp only[hφ a ha,hφ b AZ] at hlt ⊢;rw[<-h.mh (hq a ha)];have hn:φ a≠φ b:=λe=>by rw[e] at hlt;omega
 have h2:=hz (g (φ b));rcases hap _ _ (hr a ha) (hr b AZ) hn with r|r;exact r;omega;simp only[hφ a ha];rw[hh _ (hr a ha)];exact h.hd a (hq a ha);simp only[hφ a ha];obtain⟨-,h1,h2,h3⟩:=h.hd a (hq a ha);have hl:=h.wl a (hq a ha);rw[hf _ i (hr a ha) e9,h1,h.Cr a i (hq a ha) hi];by_cases ya:i<(m.ob a).p;rw[b9 ya,b9 ya,b9 ya];have hmem:(m.ob a).w.getD i 0∈m.pt a:=by unfold MH.pt;refine PP (i:=i) ?_;rw[Km,b9 ya,co hi,ac,co hi];rfl
 rcases h.cl a (hq a ha) _ hmem with q|q;rw[q,h.zero,b9 rfl];rw[b_ (h.Ct q),b_ (by have:=h.xf _ q;omega)];rw[b_ ya,b_ ya];rw[b_ ya]
end
def iw {f:Nat->Bool} {a:Nat}:∀ {n:Nat},(∀i,i<n->f (a+i)=true)->aG f (a+n)=aG f a+n
 |0,_=>rfl
 |n+1,h=>by rw[<-Nat.add_assoc,bM,iw λi hi=>h i e9,h n e9];simp;omega
def AJ {E:Nat->Nat} {N a:Nat} (ha:a<N) (hl:dI E a=true):aG (dI E) a<bB E N/\vD E N (aG (dI E) a)=a:=by
 have h1:aG (dI E) a<aG (dI E) N:=by have h2:aG (dI E) (a+1)<=aG (dI E) N:=cT _ e9;rw[bM,hl] at h2;simp at h2;omega
 refine⟨h1,?_⟩;obtain⟨q1,q2,q3⟩:=rq h1;show qR (dI E) N (aG (dI E) a)=a;generalize qR (dI E) N (aG (dI E) a)=b at *;rcases T_ a b with e|e|e;have h2:aG (dI E) (a+1)<=aG (dI E) b:=cT _ e9;rw[bM,hl] at h2;simp at h2;omega;exact e.symm;have h2:aG (dI E) (b+1)<=aG (dI E) a:=cT _ e9;rw[bM,q2] at h2;simp at h2;omega
section
variable {g:Nat->Nat}{rs:List Nat}{m:MH}{Q:Nat->Prop}{φ:Nat->Nat}{aa top N:Nat}{y:aJ}{v:VS}
def gm {x:Nat}:aj g rs x≠0↔fF g rs x:=by
 unfold aj;split
 .next h=>exact⟨λ_=>h,λ_=>lJ _⟩
 next h=>exact⟨λq=>absurd rfl q,λq=>absurd q h⟩
def ik {x:Nat} (h:fF g rs x):aj g rs x=bC (g x):=b9 h
def cX.De (h:cX g rs m Q φ aa top) {x:Nat} (hx:fF g rs x):cX.St Q φ x:=hx.st (h.whole (bi _)) h.wG
def cX.ju (h:cX g rs m Q φ aa top) (hN:top<=N):bS (aj g rs) N:=by have hw:=h.whole hN;refine⟨λa ha=>?_,λa x ha h1 h2=>?_⟩;have:=gm.1 ha;rw[ik this];exact hw.fit a (h.De this);have IW:=gm.1 ha;rw[ik IW] at h2;refine L_ λhn=>?_;have Qt:=gm.1 hn;have:=hw.apart a x (h.De IW) (h.De Qt) h1;omega
def cX.Qz (h:cX g rs m Q φ aa top) {x i:Nat} (hx:fF g rs x) (hi:i<bC (g x)):dI (aj g rs) (x+i)=true:=fR.2 ⟨x,e9,by rw[ik hx];omega⟩
def cX.goes (h:cX g rs m Q φ aa top) (hN:top<=N) {x i:Nat} (hx:fF g rs x) (hi:i<bC (g x)): aG (dI (aj g rs)) (x+i)=aG (dI (aj g rs)) x+i/\aG (dI (aj g rs)) x+i<bB (aj g rs) N/\vD (aj g rs) N (aG (dI (aj g rs)) x+i)=x+i/\qS (aj g rs) (x+i)=x:=by have e:=iw (f:=dI (aj g rs)) (a:=x) (n:=i) λj hj=>h.Qz hx e9;have hw:=(h.whole hN).fit x (h.De hx);have hb:=AJ (N:=N) (a:=x+i) e9 (h.Qz hx hi);rw[e] at hb;exact⟨e,hb.1,hb.2,Ao (h.ju hN) ⟨e9,by rw[ik hx];omega⟩⟩
def pS {x:Nat} (h:Hd.Is x) (j:Nat):qG x (j:Int)=true↔1<=j/\j-1<Hd.tp x:=by
 unfold qG Hd.kindOf;rw[l_];constructor
 .intro q;split at q
  .next r=>
   split at q
   .next s=>omega
   split at q<;>omega
  omega
 rintro⟨h1,h2⟩;rw[b9 ⟨h.1,e9,e9⟩,iY]
def cX.fwd (h:cX g rs m Q φ aa top) (hN:top<=y.d_) (tK:y.d_<=1000000) (hE:y.E=aj g rs) (hg:y.g=g) {g':Nat->Nat} (hZ:∀i,i<y.aq->g' (y.c.to+i)=y.nw g i) (oO:0<y.c.to) (hw:∀a,g' a<18446744073709551616): cX g' (rs.map λx=>if x=0 then 0 else qp y.E y.c.to x) m (gA m.pt m.S) (λa=>if a=0 then 0 else qp y.E y.c.to (φ a)) y.c.to (y.c.to+y.aq):=by
 have sk:y.aq=bB (aj g rs) y.d_:=by unfold aJ.aq;rw[hE]
 have zu:∀i,y.bw i=vD (aj g rs) y.d_ i:=λi=>by unfold aJ.bw;rw[hE]
 have zA:=h.whole hN;have ba:∀x i,fF g rs x->i<bC (g x)->g' (qp y.E y.c.to x+i)=y.tE (g (x+i)) (x+i) x:=λx i hx hi=>by obtain⟨g1,g2,g3,g4⟩:=h.goes hN hx hi;have e:qp y.E y.c.to x+i=y.c.to+(aG (dI (aj g rs)) x+i):=(by unfold qp;rw[hE];omega);rw[e,hZ _ (by rw[sk];exact g2)];unfold aJ.nw;rw[zu,g3,hE,g4]
 refine h.move e9 (λx=>qp y.E y.c.to x) oO (λx hx=>?_) (λx z hx hz hne=>?_) (λx hx=>?_) (λx i hx hi=>?_) (λa=>?_);have hs:1<=bC (g x):=by unfold bC;omega
 obtain⟨g1,g2,g3,g4⟩:=h.goes hN hx (i:=bC (g x)-1) e9;unfold qp;rw[hE,sk];omega;have key:∀x z,fF g rs x->fF g rs z->x<z->qp y.E y.c.to x+bC (g x)<=qp y.E y.c.to z:=λx z hx hz hlt=>by have h1:=zA.apart x z (h.De hx) (h.De hz) hlt;have h2:aG (dI (aj g rs)) (x+bC (g x))=aG (dI (aj g rs)) x+bC (g x):=iw λj hj=>h.Qz hx hj;have h3:aG (dI (aj g rs)) (x+bC (g x))<=aG (dI (aj g rs)) z:=cT _ h1;unfold qp;rw[hE];omega
 rcases ip x z with q|q;exact .inl (key x z hx hz q);exact .inr (key z x hz hx e9);have hs:0<bC (g x):=by unfold bC;omega
 have:=ba x 0 hx hs;rw[sc] at this;rw[this];unfold aJ.tE;rw[b_];rfl;rintro⟨-,q⟩;rw[hg,sc,Int.sub_self] at q;have:=(pS (zA.is x (h.De hx)) 0).1 q;omega;have fY:=zA.is x (h.De hx);have:=ba x (1+i) hx (by unfold bC;omega);rw[aa5,this];unfold aJ.tE;have e1:((x+(1+i):Nat):Int)-x=((1+i:Nat):Int):=e9;rw[hg,e1];have e2:qG (g x) ((1+i:Nat):Int)=true↔i<Hd.tp (g x):=by rw[pS fY];omega
 rw[show x+(1+i)=x+1+i from e9];by_cases qw:i<Hd.tp (g x);rw[b9 qw];by_cases h0:g (x+1+i)=0;rw[b_ (λq=>q.1 h0),b9 h0,h0];rw[b9 ⟨h0,e2.2 qw⟩,b_ h0];have hr:fF g rs (g (x+1+i)):= .ptr hx (mt.2 ⟨i,B_.2 qw,rfl⟩) h0;have hf:=zA.fit _ (h.De hr);have hs:0<bC (g (g (x+1+i))):=by unfold bC;omega
 have hl:=h.Qz hr (i:=0) hs;rw[sc] at hl;rw[i_ _ e9];unfold aJ.to;rw[b9,f_];unfold lh;rw[lw,l_,f_,hE];exact⟨e9,hl⟩;rw[b_ qw,b_ (λq=>qw (e2.1 q.2))];exact hw a
def aJ.oc (y:aJ) (OE:y.c.to<2147483648) (hs:∀a,g a<18446744073709551616) (i:Nat):y.nw g i<18446744073709551616:=by unfold aJ.nw aJ.tE;split;unfold aJ.to;split;unfold qp;have h1:aG (dI y.E) (IntKind.i64.wrap (g (y.bw i):Nat)).toNat<=(IntKind.i64.wrap (g (y.bw i):Nat)).toNat:=bE _ _;have hb:IntKind.i64.wrap (g (y.bw i):Nat)<9223372036854775808:=(by rw[IntKind.wrap_i64];omega);omega;omega;exact hs _
def cX.open0 (h:cX g rs m Q φ aa top) (hN:top<=y.d_) (tK:y.d_<=1000000) (hE:y.E=aj g rs) (hg:y.g=g) (s:ml) (hm:s.mv=λ_=>false) (oO:0<y.c.to) (OE:y.c.to<2147483648) (hw:∀a,s.v.wd a<18446744073709551616): cX (y.ba g s) (rs.map λx=>if x=0 then 0 else qp y.E y.c.to x) m (gA m.pt m.S) (λa=>if a=0 then 0 else qp y.E y.c.to (φ a)) y.c.to (y.c.to+y.aq):=by refine h.fwd hN tK hE hg (λi hi=>?_) oO λa=>?_;unfold aJ.ba;rw[hm,b9 (show y.waits (λ_=>false) (y.c.to+i) from⟨e9,(show y.c.to+i<y.c.to+y.aq by omega),rfl⟩),A_];unfold aJ.ba;split;exact y.oc OE h.small _;exact hw a
end
def fA (np:Nat) (k:Nat->Bool) (q:Nat):Nat->VS->VS
 |0,v=>v
 |n+1,v=>if k (q+n)=true then bY np (fA np k q n v) ((q+n:Nat):Int) else fA np k q n v
section
variable {np p q n:Nat}{k:Nat->Bool}{v:VS}
def unmapS_spec (hp:p<np) (hu:bg np v):(bY np v (p:Nat)).wd=v.wd/\(bY np v (p:Nat)).aM=v.aM/\bg np (bY np v (p:Nat))/\∀x,(bY np v (p:Nat)).mp x=if x=p then false else v.mp x:=by
 refine⟨?_,?_,hu.bY,λx=>?_⟩;unfold bY;split<;>rfl;unfold bY;split<;>rfl;unfold bY;split;rfl;next e=>
 split
 .next e2=>
  unfold lj at e;rw[cG] at e;subst e2;cases hq:v.mp x with
  |false=>rfl
  |true=>rw[f_,b9 hq] at e;exact absurd rfl e
 rfl
def pc (hu:bg np v):∀n,q+n<=np->(fA np k q n v).wd=v.wd/\(fA np k q n v).aM=v.aM/\bg np (fA np k q n v)/\∀x,(fA np k q n v).mp x=true↔v.mp x=true/\¬(q<=x/\x<q+n/\k x=true)
 |0,_=>⟨rfl,rfl,hu,λx=>⟨λh=>⟨h,λr=>e9⟩,λh=>h.1⟩⟩
 |n+1,hn=>by obtain⟨h1,h2,h3,h4⟩:=pc hu n e9;unfold fA;by_cases hk:k (q+n)=true;rw[b9 hk];obtain⟨u1,u2,u3,u4⟩:=unmapS_spec (p:=q+n) e9 h3;refine⟨u1.trans h1,u2.trans h2,u3,λx=>?_⟩;rw[u4];by_cases e:x=q+n;subst e;rw[b9 rfl];exact⟨λh=>(by cases h),λh=>absurd ⟨e9,e9,hk⟩ h.2⟩;rw[b_ e,h4];constructor;rintro⟨a,b⟩;exact⟨a,λr=>b ⟨r.1,e9,r.2.2⟩⟩;rintro⟨a,b⟩;exact⟨a,λr=>b ⟨r.1,e9,r.2.2⟩⟩;rw[b_ hk];refine⟨h1,h2,h3,λx=>?_⟩;rw[h4];constructor;rintro⟨a,b⟩;refine⟨a,λr=>b ⟨r.1,?_,r.2.2⟩⟩;rcases ip x (q+n) with e|e;exact e;have:x=q+n:=e9;subst this;exact absurd r.2.2 hk;rintro⟨a,b⟩;exact⟨a,λr=>b ⟨r.1,e9,r.2.2⟩⟩
end
def tQ (np c_ aa top:Nat) (v:VS):Prop:=∀p,p<np->(v.mp p=true↔∃a,aa<=a/\a<top/\a/c_=p)
section
variable {np c_ aa top p:Nat}{v:VS}
def mO (hp:1<=c_) (hb:aa%c_=0):(∃a,aa<=a/\a<top/\a/c_=p)↔aa/c_<=p/\p*c_<top:=by have e:=k_ (go hb);constructor;rintro⟨a,h1,h2,rfl⟩;exact⟨pm h1,DW (C_ a c_) h2⟩;rintro⟨h1,h2⟩;refine⟨p*c_,?_,h2,aa0 _ e9⟩;have:=r_ c_ h1;omega
def tx {x:Nat} (hp:1<=c_):x<(top+c_-1)/c_↔x*c_<top:=by rw[Nat.lt_iff_add_one_le,Cq e9,ut,WP];omega
def nu (h:tQ np c_ aa top v) (hu:bg np v) (hp:1<=c_) (hb:aa%c_=0) (qY:aa<=top) (ht:top<=np*c_):v.used=(top-aa+c_-1)/c_:=by
 have e:=k_ (go hb);have e1:(top+c_-1)/c_=aa/c_+(top-aa+c_-1)/c_:=by have:top+c_-1=(top-aa+c_-1)+aa/c_*c_:=e9;rw[this,ad2 _ _ e9,WF]
 generalize hc:(top-aa+c_-1)/c_=c at *;have h1:v.used=aW (λp=>aa/c_<=p/\p<aa/c_+c) np:=by rw[hu];refine ly λp hp2=>?_;rw[h p hp2,mO hp hb,<-tx hp,e1]
 have h2:=eI (aa/c_) c np;have h3:=gF (aa/c_) c np (by rw[<-e1];have:(top+c_-1)/c_<np+1:=(by rw[j_ e9,ut];omega);omega);omega
def vE {v':VS} {k:Nat->Bool} (h:tQ np c_ aa top v) (hu:bg np v) (hp:1<=c_) (hb:aa%c_=0) (qY:aa<=top) (ht:top<=np*c_) (hv:v'=fA np k (aa/c_) ((top+c_-1)/c_-aa/c_) v): v'.wd=v.wd/\v'.aM=v.aM/\bg np v'/\∀p,p<np->(v'.mp p=true↔(∃a,aa<=a/\a<top/\a/c_=p)/\k p=false):=by
 have hle:(top+c_-1)/c_<=np:=by have:(top+c_-1)/c_<np+1:=(by rw[j_ e9,ut];omega);omega
 have hge:aa/c_<=(top+c_-1)/c_:=pm e9;obtain⟨h1,h2,h3,h4⟩:=pc (q:=aa/c_) (k:=k) hu ((top+c_-1)/c_-aa/c_) e9;rw[hv];refine⟨h1,h2,h3,λp hp2=>?_⟩;rw[h4,h p hp2];constructor;rintro⟨a,b⟩;refine⟨a,?_⟩;have:=(mO hp hb).1 a;have:=(tx (top:=top) hp).2 this.2;cases hk:k p with
 |false=>rfl
 |true=>exact absurd ⟨e9,e9,hk⟩ b
 rintro⟨a,b⟩;exact⟨a,λr=>by rw[b] at r;exact absurd r.2.2 z9⟩
end
section
variable {g:Nat->Nat}{rs:List Nat}{m:MH}{Q:Nat->Prop}{φ:Nat->Nat}{aa top N d_:Nat}{y:aJ}{v v':VS}
def vY {E:Nat->Nat} {lo hi N:Nat} (h:∀x,dI E x=true->lo<=x/\x<hi) (hl:lo<=hi):bB E N<=hi-lo:=by
 unfold bB;have:aG (dI E) N<=aW (λi=>lo<=i/\i<lo+(hi-lo)) N:=by have e:aG (dI E) N=aW (λi=>dI E i=true) N:=ly λi _=>Iff.rfl;rw[e];exact bR λi _ q=>by have:=h i q;omega
 exact h_ this (eI lo (hi-lo) N)
def cX.vX (h:cX g rs m Q φ aa top) {x:Nat} (hx:dI (aj g rs) x=true):aa<=x/\x<top:=by obtain⟨s,h1,h2⟩:=fR.1 hx;have hr:fF g rs s:=gm.1 e9;rw[ik hr] at h2;obtain⟨a,ha,rfl⟩:=h.De hr;have:=h.lies a ha;rw[h.mh ha] at h2;omega
def cX.opened (h:cX g rs m Q φ aa top) (hy:y.E=aj g rs) (hgv:g=v.wd) (hW:1<=y.c_/\y.d_%y.c_=0) (Mc:d_%y.c_=0) (qY:aa<=top/\top<=aa+d_/\aa+d_<=y.d_) (FH:aa%y.c_=0) (oO:y.c.to%y.c_=0) (ey:y.c.aT=y.c.to+d_/\y.c.aT<=y.d_) (hap:aa+d_<=y.c.to\/y.c.aT<=aa) (hblk:1<=y.c.block) (hdiv:y.c.block∣y.c_\/y.c_∣y.c.block) (hroom:y.e_=d_/y.c_+(y.c.aE+2)*(y.q+3)) (kN:tQ (y.d_/y.c_) y.c_ aa top v) (hu:bg (y.d_/y.c_) v) (hh:v.aM<=y.e_) (hv:v'=fA (y.d_/y.c_) (λq=>decide (y.cw (λ_=>true) q=0)) (aa/y.c_) ((top+y.c_-1)/y.c_-aa/y.c_) v): y.Good g (y.c.to+y.aq) ⟨v',λ_=>false⟩:=by
 obtain⟨hp,OI⟩:=hW;have Cw:=k_ (go OI);have zu:∀i,i<y.aq->aa<=y.bw i/\y.bw i<top:=λi hi=>by have:=(fy y hi).2.1;rw[hy] at this;exact h.vX this
 have sk:y.aq<=d_:=by have:=vY (E:=y.E) (N:=y.d_) (lo:=aa) (hi:=top) (λx hx=>by rw[hy] at hx;exact h.vX hx) qY.1;have e:y.aq=bB y.E y.d_:=rfl;omega
 have ok:y.Ok:=by refine⟨?_,hp,oO,⟨e9,ey.2⟩,OI,hblk,hdiv,λi a hi h1 h2 e=>?_⟩;rw[hy];exact h.ju e9;have hb:=zu i hi;have e1:=k_ (go FH);have e2:=k_ (go oO);have e3:=k_ (go Mc);have d1:=C_ (y.bw i) y.c_;have d2:=Nat.lt_div_mul_add (a:=a) (b:=y.c_) e9;have d3:=C_ a y.c_;have d4:=Nat.lt_div_mul_add (a:=y.bw i) (b:=y.c_) e9;rw[e] at d1 d4;rcases hap with q|q;have h3:y.c.to/y.c_<=a/y.c_:=pm h1;have:=r_ y.c_ h3;omega;have h3:aa/y.c_<=y.bw i/y.c_:=pm hb.1;rw[e] at h3;have:=r_ y.c_ h3;omega
 obtain⟨c1,c2,c3,c4⟩:=vE kN hu hp FH qY.1 e9 hv;have Kp:∀p,(decide (y.cw (λ_=>true) p=0))=false↔∃i,i<y.aq/\y.bw i/y.c_=p:=λp=>by rw[Do,aJ.nA];constructor;intro q;refine L_ λhn=>q λi hi _ e=>hn ⟨i,hi,e⟩;rintro⟨i,hi,e⟩ q;exact q i hi rfl e
 have hF:∀p,y.M (λ_=>false) (y.c.to+y.aq) p↔∃i,i<y.aq/\y.bw i/y.c_=p:=λp=>by unfold aJ.M aJ.F aJ.T aJ.Al;constructor;rintro (⟨i,hi,_,e⟩|⟨i,_,q,_⟩|⟨a,h1,h2,_⟩);exact⟨i,hi,e⟩;cases q;omega;rintro⟨i,hi,e⟩;exact .inl ⟨i,hi,rfl,e⟩
 have h0:aG (λ_=>false) y.nb=0:=dD λ_ _=>rfl;refine⟨ok,⟨⟨e9,e9⟩,λp hp2=>?_,λi hi _=>?_,c3,λ_ _=>rfl,?_⟩,λmv' hle xP=>?_,?_⟩;show v'.mp p=true↔_;rw[c4 p hp2,Kp,hF];constructor;exact λq=>q.2;rintro⟨i,hi,e⟩;exact⟨⟨y.bw i,(zu i hi).1,(zu i hi).2,e⟩,i,hi,e⟩;show v'.wd _=_;rw[c1,hgv];show v'.aM<=_;rw[c2];exact hh;have hc:=ok.count (mv:=λ_=>false) (mv':=mv') (top:=y.c.to+y.aq) (A:=y.c.aE) e9 (λk q=>by cases q) xP;have h1:aW (y.M (λ_=>false) (y.c.to+y.aq)) (y.d_/y.c_)<=d_/y.c_:=by refine h_ (bR λp _ q=>?_) (eI (aa/y.c_) (d_/y.c_) _);obtain⟨i,hi,e⟩:=(hF p).1 q;have hb:=zu i hi;rw[<-e];refine⟨pm hb.1,?_⟩;have:(aa+d_)/y.c_=aa/y.c_+d_/y.c_:=(by have e1:=k_ (go Mc);rw[<-e1,ad2 _ _ e9,aa0 _ e9]);rw[<-this,j_ e9];have e1:=k_ (go FH);have e2:=k_ (go Mc);rw[this,ut,e1,e2];omega
 rw[hroom];have:(y.c.aE+2)*(y.q+3)=y.q*y.c.aE+3*y.c.aE+2*y.q+6:=by rw[ut,ad7,GP y.c.aE y.q];omega
 omega;show aG (λ_=>false) y.nb<=_;omega
end
noncomputable def aJ.pk (y:aJ) (g0:Nat->Nat) (v:VS):Nat->VS
 |0=>v
 |n+1=>fB (y.pk g0 v n) (y.c.to+n) (y.nw g0 n)
section
variable {g g0:Nat->Nat}{rs:List Nat}{m:MH}{Q:Nat->Prop}{φ:Nat->Nat}{aa top d_:Nat}{y:aJ}{v v':VS}
def aJ.yw (y:aJ) (g0:Nat->Nat) (v:VS):∀n,(y.pk g0 v n).mp=v.mp/\(y.pk g0 v n).used=v.used/\(y.pk g0 v n).aM=v.aM/\∀a,(y.pk g0 v n).wd a=if y.c.to<=a/\a<y.c.to+n then y.nw g0 (a-y.c.to) else v.wd a
 |0=>⟨rfl,rfl,rfl,λa=>by rw[cG];rfl⟩
 |n+1=>by obtain⟨h1,h2,h3,h4⟩:=aJ.yw y g0 v n;refine⟨h1,h2,h3,λa=>?_⟩;show (if a=y.c.to+n then y.nw g0 n else (y.pk g0 v n).wd a)=_;by_cases e:a=y.c.to+n;rw[b9 e,iY,e,A_];rw[b_ e,h4];by_cases q:y.c.to<=a/\a<y.c.to+n;rw[b9 q,iY];rw[b_ q,cG]
def aJ.down {lo:Nat} (h:∀x,dI y.E x=true->lo<=x) {i:Nat} (hi:i<y.aq):lo+i<=y.bw i:=by
 have hb:=fy y hi;have h1:aG (dI y.E) (y.bw i)<=y.bw i-lo:=by have e:aG (dI y.E) (y.bw i)=aW (λx=>dI y.E x=true) (y.bw i):=ly λx _=>Iff.rfl;rw[e];exact h_ (bR λx hx q=>⟨h x q,e9⟩) (eI lo (y.bw i-lo) _)
 have:=h _ hb.2.1;omega
def cX.packed (h:cX v.wd rs m Q φ aa top) (hE:y.E=aj v.wd rs) (hg:y.g=v.wd) (hW:1<=y.c_/\y.d_%y.c_=0) (qY:aa<=top/\top<=y.d_) (tK:y.d_<=1000000) (FH:aa%y.c_=0) (oO:y.c.to=aa) (kN:tQ (y.d_/y.c_) y.c_ aa top v) (hu:bg (y.d_/y.c_) v) (hv:v'=fA (y.d_/y.c_) (λq=>decide (aa+y.aq<=q*y.c_)) (aa/y.c_) ((top+y.c_-1)/y.c_-aa/y.c_) (y.pk v.wd v y.aq)): cX v'.wd (rs.map λx=>if x=0 then 0 else qp y.E aa x) m (gA m.pt m.S) (λa=>if a=0 then 0 else qp y.E aa (φ a)) aa (aa+y.aq)/\
   tQ (y.d_/y.c_) y.c_ aa (aa+y.aq) v'/\bg (y.d_/y.c_) v'/\v'.aM=v.aM/\y.aq<=top-aa:=by
 obtain⟨hp,Mc⟩:=hW;have Cw:=k_ (go Mc);obtain⟨p1,p2,p3,p4⟩:=aJ.yw y v.wd v y.aq;have OG:bg (y.d_/y.c_) (y.pk v.wd v y.aq):=by unfold bg;rw[p2,p1];exact hu
 have hclo1:tQ (y.d_/y.c_) y.c_ aa top (y.pk v.wd v y.aq):=λp hp=>by rw[p1];exact kN p hp
 obtain⟨c1,c2,c3,c4⟩:=vE hclo1 OG hp FH qY.1 e9 hv;have sk:y.aq<=top-aa:=vY (E:=y.E) (N:=y.d_) (lo:=aa) (hi:=top) (λx hx=>by rw[hE] at hx;exact h.vX hx) qY.1;have hpos:=h.pos;have hR:=h.fwd (y:=y) qY.2 tK hE hg (g':=v'.wd) (λi hi=>by rw[c1,p4,iY,A_]) e9 (λa=>by rw[c1,p4];split;exact y.oc e9 h.small _;exact h.small a);rw[oO] at hR;refine⟨hR,λp Ov=>?_,c3,c2.trans p3,sk⟩;rw[c4 p Ov,mO hp FH,mO hp FH,Do];constructor;rintro⟨a,b⟩;exact⟨a.1,e9⟩;rintro⟨a,b⟩;exact⟨⟨a,e9⟩,e9⟩
end
structure CS where
 l:List Nat
 v:VS
def bW (g:Nat->Nat) (l:List Nat):Nat:=(l.map λx=>bC (g x)).sum
def aN (g:Nat->Nat):List Nat->Nat->Nat
 |[],_=>0
 |x::l,a=>if x=a then 0 else bC (g x)+aN g l a
def eT (v:VS) (a t:Nat):Nat->VS
 |0=>v
 |n+1=>fB (eT v a t n) (t+n) (v.wd (a+n))
def ku (g:Nat->Nat) (to:Nat) (l:List Nat) (a:Nat):Nat:=if a=0 then 0 else to+aN g l a
def bP (g:Nat->Nat) (to:Nat) (s:CS) (a:Nat):CS:=if a=0\/a∈s.l then s else⟨s.l++ [a],eT s.v a (to+bW g s.l) (bC (g a))⟩
def aV (g:Nat->Nat) (to:Nat) (s:CS) (t:Nat):Nat->CS
 |0=>s
 |n+1=>⟨(bP g to (aV g to s t n) ((aV g to s t n).v.wd (t+1+n))).l,fB (bP g to (aV g to s t n) ((aV g to s t n).v.wd (t+1+n))).v (t+1+n) (ku g to (bP g to (aV g to s t n) ((aV g to s t n).v.wd (t+1+n))).l ((aV g to s t n).v.wd (t+1+n)))⟩
def gZ (g:Nat->Nat) (to:Nat):Nat->Nat->CS->CS
 |0,_,s=>s
 |n+1,i,s=>if h:i<s.l.length then gZ g to n (i+1) (aV g to s (to+aN g s.l s.l[i]) (Hd.tp (g s.l[i]))) else s
section
variable {g:Nat->Nat}{to a x y n:Nat}{l l':List Nat}{v v0:VS}{s:CS}
def lL:bW g (l++ [a])=bW g l+bC (g a):=by unfold bW;rw[DV,List.sum_append];simp
def lE:∀ {l:List Nat},x∈l->aN g (l++ [a]) x=aN g l x
 |y::l,h=>by show (if y=x then 0 else bC (g y)+aN g (l++ [a]) x)=if y=x then 0 else bC (g y)+aN g l x;by_cases e:y=x;rw[b9 e,b9 e];rw[b_ e,b_ e,lE ((ii.1 h).resolve_left λq=>e q.symm)]
def od:∀ {l:List Nat},a∉l->aN g (l++ [a]) a=bW g l
 |[],_=>by simp[aN,bW]
 |y::l,h=>by have h1:y≠a:=λe=>h (e▸fd ..);show (if y=a then 0 else bC (g y)+aN g (l++ [a]) a)=bW g (y::l);rw[b_ h1,od λq=>h (dl _ q)];simp[bW]
def ia:∀ {l:List Nat},x∈l->aN g l x+bC (g x)<=bW g l
 |y::l,h=>by have e:bW g (y::l)=bC (g y)+bW g l:=(by simp[bW]);rw[e];show (if y=x then 0 else bC (g y)+aN g l x)+_<=_;by_cases q:y=x;subst q;rw[b9 rfl];omega;rw[b_ q];have:=ia ((ii.1 h).resolve_left λr=>q r.symm);omega
def uS:aN g (x::l) a=if x=a then 0 else bC (g x)+aN g l a:=rfl
def mM:∀ {l:List Nat},x∈l->y∈l->x≠y->aN g l x+bC (g x)<=aN g l y\/aN g l y+bC (g y)<=aN g l x
 |z::l,hx,hy,hne=>by rw[uS,uS];by_cases q1:z=x;have q2:¬z=y:=λe=>hne (q1.symm.trans e);rw[b9 q1,b_ q2,q1];left;omega;by_cases q2:z=y;rw[b_ q1,b9 q2,q2];right;omega;rw[b_ q1,b_ q2];rcases mM ((ii.1 hx).resolve_left λr=>q1 r.symm) ((ii.1 hy).resolve_left λr=>q2 r.symm) hne with r|r;left;omega;right;omega
def rQ (v:VS) (a t:Nat):∀n,(eT v a t n).mp=v.mp/\(eT v a t n).used=v.used/\(eT v a t n).aM=v.aM/\∀b,(eT v a t n).wd b=if t<=b/\b<t+n then v.wd (a+(b-t)) else v.wd b
 |0=>⟨rfl,rfl,rfl,λb=>by rw[cG];rfl⟩
 |n+1=>by obtain⟨h1,h2,h3,h4⟩:=rQ v a t n;refine⟨h1,h2,h3,λb=>?_⟩;show (if b=t+n then v.wd (a+n) else (eT v a t n).wd b)=_;by_cases e:b=t+n;rw[b9 e,iY,e,A_];rw[b_ e,h4];by_cases q:t<=b/\b<t+n;rw[b9 q,iY];rw[b_ q,cG]
structure cV (g:Nat->Nat) (St:Nat->Prop) (to:Nat) (v0:VS) (s:CS) (dn:Nat->Nat->Prop):Prop where
 nodup:s.l.Nodup
 st:∀x∈s.l,St x
 fr:s.v.mp=v0.mp/\s.v.used=v0.used/\s.v.aM=v0.aM
 out:∀b,b<to\/to+bW g s.l<=b->s.v.wd b=v0.wd b
 raw:∀x∈s.l,∀r,r<bC (g x)->¬(1<=r/\r-1<Hd.tp (g x)/\dn x (r-1))->s.v.wd (to+aN g s.l x+r)=g (x+r)
 ptr:∀x∈s.l,∀r,r<Hd.tp (g x)->dn x r->s.v.wd (to+aN g s.l x+1+r)=ku g to s.l (g (x+1+r))/\(g (x+1+r)=0\/g (x+1+r)∈s.l)
 sm:∀b,s.v.wd b<18446744073709551616
variable {St:Nat->Prop}{dn dn':Nat->Nat->Prop}
def cV.congr (h:cV g St to v0 s dn) (hd:∀x∈s.l,∀r,r<Hd.tp (g x)->(dn' x r↔dn x r)):cV g St to v0 s dn':=⟨h.nodup,h.st,h.fr,h.out,λx hx r hr hn=>h.raw x hx r hr λq=>hn ⟨q.1,q.2.1,(hd x hx _ q.2.1).2 q.2.2⟩,λx hx r hr q=>h.ptr x hx r hr ((hd x hx r hr).1 q),h.sm⟩
def xp (h:x=0\/x∈l):ku g to (l++ [a]) x=ku g to l x:=by unfold ku;rcases h with rfl|h;rfl;rw[lE h]
def lK:(bP g to s a).l=dT s.l a:=by unfold bP dT;split<;>rfl
def cV.take (h:cV g St to v0 s dn) (hg:g=v0.wd) (hs:∀x,St x->∀r,r<bC (g x)->x+r<to\/to+bW g s.l<=x+r) (ha:a=0\/St a) (SF:∀r,a∉s.l->¬dn a r):cV g St to v0 (bP g to s a) dn:=by
 unfold bP;split;exact h;next hn=>
 have ha0:a≠0:=λe=>hn (.inl e);have hal:a∉s.l:=λe=>hn (.inr e);have hst:=ha.resolve_left ha0;obtain⟨c1,c2,c3,c4⟩:=rQ s.v a (to+bW g s.l) (bC (g a));have KO:∀r,r<bC (g a)->s.v.wd (a+r)=g (a+r):=λr hr=>by rw[h.out _ (hs a hst r hr),hg]
 have hold:∀x∈s.l,∀r,r<bC (g x)->(eT s.v a (to+bW g s.l) (bC (g a))).wd (to+aN g (s.l++ [a]) x+r)=s.v.wd (to+aN g s.l x+r):=λx hx r hr=>by have:=ia (g:=g) hx;rw[lE hx,c4,cG]
 have Ez:∀r,r<bC (g a)->(eT s.v a (to+bW g s.l) (bC (g a))).wd (to+aN g (s.l++ [a]) a+r)=g (a+r):=λr hr=>by rw[od hal,c4,iY,show a+(to+bW g s.l+r-(to+bW g s.l))=a+r from e9,KO r hr]
 refine⟨?_,λx hx=>?_,⟨c1.trans h.fr.1,c2.trans h.fr.2.1,c3.trans h.fr.2.2⟩,λb hb=>?_,λx hx r hr Ab=>?_,λx hx r hr hd=>?_,λb=>?_⟩;have:=sJ (p:=a) h.nodup;unfold dT at this;rw[b_ hn] at this;exact this;rcases z_.1 hx with q|q;exact h.st x q;rw[pu] at q;exact q▸hst;show (eT _ _ _ _).wd b=_;simp only[lL] at hb;rw[c4,cG];exact h.out b e9;rcases z_.1 hx with q|q;exact (hold x q r hr).trans (h.raw x q r hr Ab);rw[pu] at q;subst q;exact Ez r hr;rcases z_.1 hx with q|q;obtain⟨p1,p2⟩:=h.ptr x q r hr hd;have:=hold x q (1+r) (by unfold bC;omega);rw[<-Nat.add_assoc,<-Nat.add_assoc] at this;exact⟨this.trans (p1.trans (xp p2).symm),p2.imp id λz=>io _ z⟩;rw[pu] at q;subst q;exact absurd hd (SF r hal);show (eT _ _ _ _).wd b<_;rw[c4];split;exact h.sm _;exact h.sm b
def cV.put (h:cV g St to v0 s dn) (hx:x∈s.l) (hn:n<Hd.tp (g x)) (hp:g (x+1+n)=0\/g (x+1+n)∈s.l) (OF:to+bW g s.l<18446744073709551616):cV g St to v0 ⟨s.l,fB s.v (to+aN g s.l x+1+n) (ku g to s.l (g (x+1+n)))⟩ (λz r=>dn z r\/(z=x/\r=n)):=by
 have hin:=ia (g:=g) hx;have hsz:1+n<bC (g x):=by unfold bC;omega
 have hw:∀z∈s.l,∀r,r<bC (g z)->to+aN g s.l z+r=to+aN g s.l x+1+n->z=x/\r=1+n:=λz hz r hr e=>by by_cases q:z=x;subst q;exact⟨rfl,e9⟩;rcases mM (g:=g) hz hx q with a|a<;>omega
 refine⟨h.nodup,h.st,h.fr,λb hb=>?_,λz hz r hr Ab=>?_,λz hz r hr hd=>?_,λb=>?_⟩;show (if b=_ then _ else s.v.wd b)=_;have AZ:b<to\/to+bW g s.l<=b:=hb;rw[cG];exact h.out b hb;show (if _=_ then _ else s.v.wd _)=_;by_cases e:to+aN g s.l z+r=to+aN g s.l x+1+n;obtain⟨rfl,rfl⟩:=hw z hz r hr e;exact absurd ⟨e9,e9,.inr ⟨rfl,e9⟩⟩ Ab;rw[b_ e];exact h.raw z hz r hr λq=>Ab ⟨q.1,q.2.1,.inl q.2.2⟩;show (if _=_ then _ else s.v.wd _)=_/\_;by_cases e:to+aN g s.l z+1+r=to+aN g s.l x+1+n;obtain⟨rfl,e2⟩:=hw z hz (1+r) (by unfold bC;omega) e9;obtain rfl:r=n:=e9;rw[b9 e];exact⟨rfl,hp⟩;rw[b_ e];rcases hd with q|⟨rfl,rfl⟩;exact h.ptr z hz r hr q;exact absurd rfl e;show (if b=_ then _ else s.v.wd b)<_;split
 .unfold ku;split;omega;next h0=>
  have:=ia (g:=g) (hp.resolve_left h0);omega
 exact h.sm b
end
structure zC (g:Nat->Nat) (St:Nat->Prop) (to W:Nat):Prop where
 src:∀x,St x->∀r,r<bC (g x)->x+r<to\/to+W<=x+r
 e_:∀l:List Nat,l.Nodup->(∀x∈l,St x)->bW g l<=W
 ptr:∀x,St x->∀p∈dA g x,p=0\/St p
 small:to+W<18446744073709551616
section
variable {g:Nat->Nat}{to W a x y n i:Nat}{l l':List Nat}{v v0:VS}{s:CS}{St:Nat->Prop}{dn dn':Nat->Nat->Prop}
def cV.BQ (h:cV g St to v0 s dn) (hw:zC g St to W) (hg:g=v0.wd) (ha:a=0\/St a) (SF:∀z r,dn z r->z∈s.l):cV g St to v0 (bP g to s a) dn:=by have hr:=hw.e_ s.l h.nodup h.st;exact h.take hg (λx hx r GB=>by have:=hw.src x hx r GB;omega) ha λr hn hd=>hn (SF a r hd)
def lF (hx:x∈l):∀ps:List Nat,aN g (ps.foldl dT l) x=aN g l x:=by
 intro ps;induction ps generalizing l with
 |nil=>rfl
 |cons p ps ih=>
  rw[R_,ih (gJ.2 (.inl hx))];unfold dT;split;rfl;exact lE hx
def cV.turn {L:List Nat} (hw:zC g St to W) (hg:g=v0.wd) (hL:∀z∈L,z∈s.l) (Jb:x∉L) (hx:x∈s.l) (h:cV g St to v0 s (λz r=>z∈L)): ∀n,n<=Hd.tp (g x)->cV g St to v0 (aV g to s (to+aN g s.l x) n) (λz r=>z∈L\/(z=x/\r<n))/\(aV g to s (to+aN g s.l x) n).l=((dA g x).take n).foldl dT s.l/\(n<Hd.tp (g x)->(aV g to s (to+aN g s.l x) n).v.wd (to+aN g s.l x+1+n)=g (x+1+n))
 |0,_=>by have hc:cV g St to v0 s (λz r=>z∈L\/(z=x/\r<0)):=h.congr λz _ r _=>⟨λq=>q.resolve_right λa=>e9,.inl⟩;refine⟨hc,rfl,λhn=>?_⟩;have:=hc.raw x hx (1+0) (by unfold bC;omega) (by rintro⟨-,-,q|q⟩;exact Jb q;omega);rw[<-Nat.add_assoc,<-Nat.add_assoc] at this;exact this
 |n+1,hn=>by obtain⟨h1,h2,h3⟩:=cV.turn hw hg hL Jb hx h n e9;have h3:=h3 e9;generalize hs1:aV g to s (to+aN g s.l x) n=s1 at *;have hmem:g (x+1+n)∈dA g x:=mt.2 ⟨n,B_.2 e9,rfl⟩;have uF:x∈s1.l:=(by rw[h2];exact dB.2 (.inl hx));have ht:=h1.BQ hw hg (a:=g (x+1+n)) (hw.ptr x (h.st x hx) _ hmem) λz r hd=>(by rcases hd with q|⟨rfl,_⟩;rw[h2];exact dB.2 (.inl (hL z q));exact uF);have hl:(bP g to s1 (g (x+1+n))).l=dT s1.l (g (x+1+n)):=lK;have jl:x∈(bP g to s1 (g (x+1+n))).l:=(by rw[hl];exact gJ.2 (.inl uF));have hoff:aN g (bP g to s1 (g (x+1+n))).l x=aN g s.l x:=(by rw[hl,h2,show dT (List.foldl dT s.l ((dA g x).take n)) (g (x+1+n))=List.foldl dT s.l ((dA g x).take n++ [g (x+1+n)]) from by rw[aa9];rfl];exact lF hx _);have Ow:(bP g to s1 (g (x+1+n))).l=((dA g x).take (n+1)).foldl dT s.l:=(by rw[hl,h2,vd g x n e9,aa9];rfl);have hp:=ht.put (x:=x) (n:=n) jl e9 (by rw[hl];rcases su (g (x+1+n)=0) with e|e;exact .inl e;exact .inr (gJ.2 (.inr ⟨rfl,e⟩))) (by have:=hw.e_ _ ht.nodup ht.st;have:=hw.small;omega);rw[hoff] at hp;have e:aV g to s (to+aN g s.l x) (n+1)=⟨(bP g to s1 (g (x+1+n))).l,fB (bP g to s1 (g (x+1+n))).v (to+aN g s.l x+1+n) (ku g to (bP g to s1 (g (x+1+n))).l (g (x+1+n)))⟩:=(by rw[aV,hs1,h3]);rw[e];have hc:=hp.congr (dn':=λz r=>z∈L\/(z=x/\r<n+1)) λz _ r _=>(by constructor;rintro (q|⟨q,r1⟩);exact .inl (.inl q);rcases ip r n with r2|r2;exact .inl (.inr ⟨q,r2⟩);exact .inr ⟨q,e9⟩;rintro ((q|⟨q,r1⟩)|⟨q,r1⟩);exact .inl q;exact .inr ⟨q,e9⟩;exact .inr ⟨q,e9⟩);refine⟨hc,Ow,λhlt=>?_⟩;have:=hc.raw x jl (1+(n+1)) (by unfold bC;omega) (by rintro⟨-,-,q|⟨-,q⟩⟩;exact Jb q;omega);simp only[hoff] at this;rw[show to+aN g s.l x+1+(n+1)=to+aN g s.l x+(1+(n+1)) from e9,show x+1+(n+1)=x+(1+(n+1)) from e9];exact this
def cV.scan (hw:zC g St to W) (hg:g=v0.wd):∀(n:Nat) {i:Nat} {s:CS},i<=s.l.length->cV g St to v0 s (λz _=>z∈s.l.take i)->∃j,cV g St to v0 (gZ g to n i s) (λz _=>z∈(gZ g to n i s).l.take j)/\(gZ g to n i s).l=lS (dA g) n i s.l/\(∃t,(gZ g to n i s).l=s.l++t)/\(j=i+n\/(gZ g to n i s).l.length<=j)
 |0,i,s,hi,h=>⟨i,h,rfl,⟨[],(sh _).symm⟩,.inl rfl⟩
 |n+1,i,s,hi,h=>by unfold gZ lS;by_cases q:i<s.l.length;rw[aj1 q,aj1 q];have hnd:s.l[i]∉s.l.take i:=λhm=>(by obtain⟨j,hj,e⟩:=Uq hm;rw[List.getElem_take] at e;rw[lq7] at hj;have:=(List.getElem?_inj (i:=j) (j:=i) e9 h.nodup).1 (by rw[co e9,co q,e]);omega);obtain⟨h1,h2,-⟩:=cV.turn hw hg (λz hz=>ab3 hz) hnd (ri q) h _ (bi _);have e:(dA g s.l[i]).take (Hd.tp (g s.l[i]))=dA g s.l[i]:=t8 (by simp[dA]);rw[e] at h2;generalize hs1:aV g to s (to+aN g s.l s.l[i]) (Hd.tp (g s.l[i]))=s1 at *;obtain⟨t,ht⟩:=lC (dA g s.l[i]) s.l;have xc:s1.l=s.l++t:=h2.trans ht;have htake:s1.l.take (i+1)=s.l.take i++ [s.l[i]]:=(by rw[xc,List.take_append_of_le_length e9,y_ q]);have hc:=h1.congr (dn':=λz _=>z∈s1.l.take (i+1)) λz hz r hr=>(by rw[htake,z_,pu];constructor;rintro (a|rfl);exact .inl a;exact .inr ⟨rfl,hr⟩;rintro (a|⟨a,_⟩);exact .inl a;exact .inr a);obtain⟨j,k1,k2,⟨u,k3⟩,k4⟩:=cV.scan hw hg n (i:=i+1) (s:=s1) (by rw[xc,ge];omega) hc;rw[<-h2];exact⟨j,k1,k2,⟨t++u,by rw[k3,xc,t_]⟩,k4.imp (λe=>e9) id⟩;rw[dif_neg q,dif_neg q];exact⟨i,h,rfl,⟨[],(sh _).symm⟩,.inr e9⟩
def atC_meets (hx:x=0\/x∈l) (ps:List Nat):ku g to (ps.foldl dT l) x=ku g to l x:=by unfold ku;rcases hx with rfl|hx;rfl;rw[lF hx]
def iR (g:Nat->Nat) (to:Nat) (s:CS) (a:Nat):CS×Nat:=(bP g to s a,ku g to (bP g to s a).l a)
def cV.roots (hw:zC g St to W) (hg:g=v0.wd):∀(rs:List Nat) {s:CS},(∀a∈rs,a=0\/St a)->cV g St to v0 s (λ_ _=>False)->cV g St to v0 (aZ (iR g to) s rs).1 (λ_ _=>False)/\(aZ (iR g to) s rs).1.l=rs.foldl dT s.l/\(aZ (iR g to) s rs).2=rs.map (ku g to (rs.foldl dT s.l))
 |[],s,_,h=>⟨h,rfl,rfl⟩
 |a::rs,s,hr,h=>by unfold aZ;by_cases e:a=0;rw[b9 e];obtain⟨h1,h2,h3⟩:=cV.roots hw hg rs (λx hx=>hr x (dl _ hx)) h;have hm:dT s.l a=s.l:=b9 (.inl e);refine⟨h1,?_,?_⟩;rw[R_,hm];exact h2;rw[R_,hm,t9,<-h3];subst e;rfl;rw[b_ e];have ha:=hr a (fd ..);have ht:=h.BQ hw hg ha λ_ _ q=>q.elim;obtain⟨h1,h2,h3⟩:=cV.roots hw hg rs (s:=bP g to s a) (λx hx=>hr x (dl _ hx)) ht;rw[lK] at h2 h3;refine⟨h1,h2,?_⟩;show (iR g to s a).2::_=_;rw[t9,R_];congr 1;show ku g to (bP g to s a).l a=_;rw[lK];exact (atC_meets (.inr (gJ.2 (.inr ⟨rfl,e⟩))) rs).symm
noncomputable def qn (g:Nat->Nat) (to:Nat) (v0:VS) (rs:List Nat):CS:=gZ g to 1000000 0 (aZ (iR g to) ⟨[],v0⟩ rs).1
def va {E:Nat->Nat} {N:Nat} (h:bS E N):∀k,∃e,k<=e/\(∀a,a<k->a+E a<=e)/\(k<e->∃a,a<k/\a+E a=e)/\aG (dI E) e=bd E k
 |0=>⟨0,bi _,λa ha=>e9,λq=>e9,rfl⟩
 |k+1=>by
  obtain⟨e,h1,h2,h3,h4⟩:=va h k;by_cases hk:E k=0;have e1:bd E (k+1)=bd E k:=(by rw[bd,hk,sc]);rcases ip k e with q|q;refine⟨e,q,λa ha=>?_,λ_=>?_,by rw[e1];exact h4⟩;rcases ip a k with r|r;exact h2 a r;obtain rfl:a=k:=e9;omega;obtain⟨a,ha,e2⟩:=h3 q;exact⟨a,e9,e2⟩;obtain rfl:e=k:=e9;have hl:dI E e=false:=lu fR fun⟨a,r1,r2⟩=>by rcases ip a e with r|r;have:=h2 a r;omega;obtain rfl:a=e:=e9;omega
  refine⟨e+1,bi _,λa ha=>?_,λq=>e9,by rw[e1,bM,hl,<-h4];rfl⟩;rcases ip a e with r|r;have:=h2 a r;omega;obtain rfl:a=e:=e9;omega;have he:e=k:=(by rcases ip k e with q|q;obtain⟨a,ha,e2⟩:=h3 q;exact absurd (h.apart a k e9 ha e9) hk;omega);subst he;refine⟨e+E e,e9,λa ha=>?_,λ_=>⟨e,e9,rfl⟩,?_⟩;rcases ip a e with r|r;have:=h2 a r;omega;obtain rfl:a=e:=e9;exact bi _;rw[iw λi hi=>fR.2 ⟨e,e9,e9⟩,h4];rfl
def ti {E:Nat->Nat} {N:Nat} (h:bS E N):bd E N=bB E N:=by obtain⟨e,h1,h2,h3,h4⟩:=va h N;rw[<-h4];rcases ip N e with q|q;obtain⟨a,ha,e2⟩:=h3 q;have:=h.fits a e9;omega;obtain rfl:e=N:=e9;rfl
variable {rs:List Nat}{m:MH}{Q:Nat->Prop}{φ:Nat->Nat}{aa top N:Nat}
def sum_sub (E:Nat->Nat) {l l':List Nat} (h:l.Sublist l'):(l.map E).sum<=(l'.map E).sum:=by
 induction h with
 |slnil=>exact bi _
 |cons a _ ih=>simp only[t9,ad5];omega
 |cons_cons a _ ih=>simp only[t9,ad5];omega
def cX.tot_le (h:cX g rs m Q φ aa top) (hN:top<=N) {l:List Nat} (hn:l.Nodup) (hl:∀x∈l,fF g rs x):bW g l<=bd (aj g rs) N:=by
 rw[mP];have hs:l ⊆ (List.range N).filter (gL (aj g rs)):=λx hx=>by rw[GS,B_,dR];have hr:=hl x hx;have:=(h.whole hN).fit x (h.De hr);have hz:0<bC (g x):=(by unfold bC;omega);exact⟨e9,gm.2 hr⟩
 have e:bW g l=(l.map (aj g rs)).sum:=by unfold bW;congr 1;exact s_ λx hx=>(ik (hl x hx)).symm
 rw[e];have hp:(((List.range N).filter (gL (aj g rs))).filter λx=>decide (x∈l)).Perm l:=by refine (List.perm_ext_iff_of_nodup (aa2 Q_ (aa2 Q_ ab4)) hn).2 λx=>?_;rw[GS,l_];exact⟨λq=>q.2,λq=>⟨hs q,q⟩⟩
 rw[<-(hp.map (aj g rs)).sum_nat];exact sum_sub _ Q_
def cX.jM (h:cX g rs m Q φ aa top) (ht:top<=1000000) (hb:aa<=top):m.aq<=top-aa:=by rw[<-(h.counts ht (bi _)).2];have hok:=h.ju (bi _);have h1:=vY (E:=aj g rs) (N:=top) (lo:=aa) (hi:=top) (λx hx=>h.vX hx) hb;refine h_ ?_ h1;exact Nat.le_of_eq (ti hok)
end
section
variable {g:Nat->Nat}{to a x y n i:Nat}{l l' t rs:List Nat}{v v0 v2:VS}{s:CS}{m:MH}{Q:Nat->Prop}{φ:Nat->Nat}{aa top d_ c_ np:Nat}
def kW (t:List Nat):∀ {l:List Nat},x∈l->aN g (l++t) x=aN g l x
 |y::l,h=>by show (if y=x then 0 else bC (g y)+aN g (l++t) x)=if y=x then 0 else bC (g y)+aN g l x;by_cases e:y=x;rw[b9 e,b9 e];rw[b_ e,b_ e,kW t ((ii.1 h).resolve_left λq=>e q.symm)]
def cX.eT (h:cX v0.wd rs m Q φ aa top) (ht:top<=1000000) (hl:m.aq<=d_) (hap:aa+d_<=to\/to+d_<=aa) (qY:aa<=top/\top<=aa+d_) (oO:to<=1000000):zC v0.wd (fF v0.wd rs) to m.aq:=by have hll:=h.jM ht qY.1;have hw:=h.whole (bi _);refine⟨λx hx r hr=>?_,λl hn hst=>?_,λx hx p hp=>?_,e9⟩;obtain⟨a,ha,rfl⟩:=h.De hx;have:=h.lies a ha;rw[h.mh ha] at hr;omega;rw[<-(h.counts ht (bi _)).2];exact h.tot_le (bi _) hn hst;rcases su (p=0) with e|e;exact .inl e;exact .inr (.ptr hx hp e)
def cX.copied (h:cX v0.wd rs m Q φ aa top) (ht:top<=1000000) (hl:m.aq<=d_) (hap:aa+d_<=to\/to+d_<=aa) (qY:aa<=top/\top<=aa+d_) (oO:0<to/\to<=1000000) (hp:1<=c_) (FH:aa%c_=0) (Qv:to%c_=0) (Mc:d_%c_=0) (Cw:aa+d_<=np*c_/\to+d_<=np*c_) (kN:∀p,p<np->(v0.mp p=true↔(∃a,aa<=a/\a<top/\a/c_=p)\/∃a,to<=a/\a<to+m.aq/\a/c_=p)) (hu:bg np v0) (hs:s=qn v0.wd to v0 rs) (hv:v2=fA np (λ_=>true) (aa/c_) ((top+c_-1)/c_-aa/c_) s.v): (aZ (iR v0.wd to) ⟨[],v0⟩ rs).2=rs.map (ku v0.wd to s.l)/\bW v0.wd s.l=m.aq/\cX v2.wd (rs.map (ku v0.wd to s.l)) m (gA m.pt m.S) (λa=>if a=0 then 0 else to+aN v0.wd s.l (φ a)) to (to+m.aq)/\tQ np c_ to (to+m.aq) v2/\bg np v2/\v2.aM=v0.aM:=by
 have hw:=h.eT ht hl hap qY oO.2;have hb:=h.PK ht;have h0:cV v0.wd (fF v0.wd rs) to v0 ⟨[],v0⟩ (λ_ _=>False):=⟨List.nodup_nil,λx hx=>(by cases hx),⟨rfl,rfl,rfl⟩,λ_ _=>rfl,λx hx=>(by cases hx),λx hx=>(by cases hx),h.small⟩;obtain⟨r1,r2,r3⟩:=cV.roots hw rfl rs (λa ha=>(su (a=0)).imp id λe=> .root ha e) h0;generalize hs1:(aZ (iR v0.wd to) ⟨[],v0⟩ rs).1=s1 at *;obtain⟨j,c1,c2,⟨u,c3⟩,c4⟩:=cV.scan hw rfl 1000000 (i:=0) (s:=s1) (lc _) (r1.congr λx hx r hr=>qr);have es:gZ v0.wd to 1000000 0 s1=s:=by rw[hs,qn,hs1]
 rw[es] at c1 c2 c3 c4;have hsl:s.l=m.gU.map φ:=by rw[c2,r2,<-hb.2.2.1];rfl
 have hmem:∀x,fF v0.wd rs x↔x∈s.l:=λx=>by rw[hsl];exact h.lH ht x
 have hreach:∀a∈m.gU,Q a:=λa ha=>h.wD ((hb.2.1 a).1 ha);have OF:bW v0.wd s.l=m.aq:=by unfold bW MH.aq;rw[hsl,Pi];congr 1;exact s_ λa ha=>h.mh (hreach a ha)
 have hlen:s.l.length<=1000000:=by rw[hsl,i8];omega
 have xU:∀x∈s.l,x∈s.l.take j:=λx hx=>by rw[t8 e9];exact hx
 have hroots:∀a∈rs,ku v0.wd to (rs.foldl dT []) a=ku v0.wd to s.l a:=λa ha=>by
  unfold ku;split;rfl;next e=>
  rw[c3,r2,kW];exact dB.2 (.inr ⟨ha,e⟩)
 have hle:(top+c_-1)/c_<=np:=by have:(top+c_-1)/c_<np+1:=(by rw[j_ e9,ut];omega);omega
 have hge:aa/c_<=(top+c_-1)/c_:=pm e9;have OG:bg np s.v:=by unfold bg;rw[c1.fr.1,c1.fr.2.1];exact hu
 obtain⟨d1,d2,d3,d4⟩:=pc (q:=aa/c_) (k:=λ_=>true) OG ((top+c_-1)/c_-aa/c_) e9;rw[<-hv] at d1 d2 d3 d4;have hpos:=h.pos;refine⟨by rw[r3];exact s_ hroots,OF,?_,λp Ov=>?_,d3,d2.trans c1.fr.2.2⟩;have lU:=h.move ht (λx=>to+aN v0.wd s.l x) (g':=v2.wd) oO.1 (top':=to+m.aq) (λx hx=>?_) (λx y hx hy hne=>?_) (λx hx=>?_) (λx i hx hi=>?_) (λa=>by rw[d1];exact c1.sm a);exact lU;have:=ia (g:=v0.wd) ((hmem x).1 hx);omega;rcases mM (g:=v0.wd) ((hmem x).1 hx) ((hmem y).1 hy) hne with q|q;left;omega;right;omega;rw[d1];exact c1.raw x ((hmem x).1 hx) 0 (by unfold bC;omega) (λq=>e9);rw[d1];by_cases ya:i<Hd.tp (v0.wd x);rw[b9 ya];obtain⟨q1,q2⟩:=c1.ptr x ((hmem x).1 hx) i ya (xU x ((hmem x).1 hx));exact q1;rw[b_ ya];have:=c1.raw x ((hmem x).1 hx) (1+i) (by unfold bC;omega) (λq=>e9);rw[<-Nat.add_assoc,<-Nat.add_assoc] at this;exact this;rw[d4,c1.fr.1,kN p Ov,mO hp FH,mO hp Qv];have key:aa/c_<=p->p*c_<top->to/c_<=p->p*c_<to+m.aq->False:=λk1 k2 k3 k4=>by have e1:=k_ (go FH);have e2:=k_ (go Qv);have k5:=r_ c_ k1;have k6:=r_ c_ k3;omega
 constructor;rintro⟨a|a,b⟩;have:=(tx (top:=top) hp).2 a.2;exact absurd ⟨a.1,e9,rfl⟩ b;exact a;rintro a;refine⟨.inr a,λb=>?_⟩;exact key b.1 ((tx hp).1 e9) a.1 a.2
end
def MH.slot (m:MH) (i:Int):Prop:=0<=i/\i<m.S.length
instance (m:MH) (i:Int):Decidable (m.slot i):=by unfold MH.slot;infer_instance
def MH.sl (m:MH) (i:Int):Nat:=m.S.getD i.toNat 0
def MH.fe (m:MH) (a:Nat) (i k:Int):Int:=if a=0 then 18 else if Hd.kindOf (m.ob a).p (m.ob a).f (m.ob a).o i=k then 0 else if Hd.kindOf (m.ob a).p (m.ob a).f (m.ob a).o i=0 then 19 else 20
def MH.fw (m:MH) (a:Nat) (i k:Int):Nat:=if m.fe a i k=0 then (m.ob a).w.getD i.toNat 0 else 0
def MH.get (m:MH) (s i k:Int):Nat×Int:=if m.slot s then (m.fw (m.sl s) i k,m.fe (m.sl s) i k) else (0,17)
def MH.set (m:MH) (s i k:Int) (x:Nat):MH×Int:=if m.slot s then (if m.fe (m.sl s) i k=0 then m.kZ (m.sl s) i.toNat x else m,m.fe (m.sl s) i k) else (m,17)
def MH.load (m:MH) (s f i:Int):MH×Int:=if m.slot s/\m.slot f then (if m.fe (m.sl f) i 1=0 then m.ic s.toNat (m.fw (m.sl f) i 1) else m,m.fe (m.sl f) i 1) else (m,17)
def MH.store (m:MH) (s i f:Int):MH×Int:=if m.slot s/\m.slot f then (if m.fe (m.sl s) i 1=0 then m.kZ (m.sl s) i.toNat (m.sl f) else m,m.fe (m.sl s) i 1) else (m,17)
def MH.copy (m:MH) (s f:Int):MH×Int:=if m.slot s/\m.slot f then (m.ic s.toNat (m.sl f),0) else (m,17)
def MH.clear (m:MH) (s:Int):MH×Int:=if m.slot s then (m.ic s.toNat 0,0) else (m,17)
def MH.same (m:MH) (a b:Int):Bool×Int:=if m.slot a/\m.slot b then (decide (m.sl a=m.sl b),0) else (false,17)
def MH.shape (m:MH) (s:Int):Nat×Nat×Nat×Int:=if m.slot s then (if m.sl s=0 then (0,0,0,18) else ((m.ob (m.sl s)).p,(m.ob (m.sl s)).f,(m.ob (m.sl s)).o,0)) else (0,0,0,17)
def MO.fl (x:MO):List Nat:=(x.w.drop x.p).take x.f
def MH.sum (sm:List Nat->Nat) (m:MH) (s:Int):Nat×Int:=if m.slot s then (if m.sl s=0 then (0,18) else (sm (m.ob (m.sl s)).fl,0)) else (0,17)
def lW (x:Nat):Nat:=if 9223372036854775808<=x then 18446744073709551615-x else x+9223372036854775808
def OT (x y:Nat):Int:=if lW x<lW y then -1 else if lW y<lW x then 1 else 0
def MH.order (m:MH) (a i b k:Int):Int×Int:=if (m.get a i 2).2=0 then (if (m.get b k 2).2=0 then (OT (m.get a i 2).1 (m.get b k 2).1,0) else (0,(m.get b k 2).2)) else (0,(m.get a i 2).2)
def MH.alloc (m:MH) (s p f o:Int):MH×Int:=if m.slot s then (if Hd.Ok p f o then (if m.aq+(1+(p+f+o)).toNat<=m.C then ((m.new p.toNat f.toNat o.toNat).ic s.toNat (m.L.length+1),0) else (m,21)) else (m,15)) else (m,17)
structure mU where
 k:Int
 a:Int
 b:Int
 i:Int
 hp:Int
 hf:Int
 ho:Int
 wd:Nat
 fl:Nat
structure Fz where
 code:Int
 is:Bool
 n:Int
 wd:Nat
 hp:Nat
 hf:Nat
 ho:Nat
def Fz.only (c:Int):Fz:=⟨c,false,0,0,0,0,0⟩
def gh (x:Nat):Int:=if x<256 then x else -1
def MH.op (sm:List Nat->Nat) (m:MH) (x:mU):MH×Fz:=if x.k=4 then (m,⟨(m.get x.a x.i 3).2,false,0,(m.get x.a x.i 3).1,0,0,0⟩)
 else if x.k=6 then (m,⟨(m.get x.a x.i 2).2,false,0,(m.get x.a x.i 2).1,0,0,0⟩)
 else if x.k=10 then (m,⟨(m.same x.a x.b).2,(m.same x.a x.b).1,0,0,0,0,0⟩)
 else if x.k=11 then (m,⟨(m.shape x.a).2.2.2,false,0,0,(m.shape x.a).1,(m.shape x.a).2.1,(m.shape x.a).2.2.1⟩)
 else if x.k=12 then (m,⟨(m.sum sm x.a).2,false,0,(m.sum sm x.a).1,0,0,0⟩)
 else if x.k=13 then (m,⟨(m.order x.a x.i x.b (gh x.wd)).2,false,(m.order x.a x.i x.b (gh x.wd)).1,0,0,0,0⟩)
 else if x.k=14 then (m,⟨0,false,m.gU.length,m.aq,0,0,0⟩)
 else if x.k=1 then ((m.alloc x.a x.hp x.hf x.ho).1,.only (m.alloc x.a x.hp x.hf x.ho).2)
 else if x.k=2 then ((m.load x.a x.b x.i).1,.only (m.load x.a x.b x.i).2)
 else if x.k=3 then ((m.store x.a x.i x.b).1,.only (m.store x.a x.i x.b).2)
 else if x.k=5 then ((m.set x.a x.i 3 x.wd).1,.only (m.set x.a x.i 3 x.wd).2)
 else if x.k=7 then ((m.set x.a x.i 2 x.fl).1,.only (m.set x.a x.i 2 x.fl).2)
 else if x.k=8 then ((m.copy x.a x.b).1,.only (m.copy x.a x.b).2)
 else if x.k=9 then ((m.clear x.a).1,.only (m.clear x.a).2)
 else if x.k=15\/x.k=16\/x.k=17 then (m,.only 0)
 else (m,.only 24)
section
variable {g:Nat->Nat}{rs:List Nat}{m:MH}{Q:Nat->Prop}{φ:Nat->Nat}{aa top:Nat}
def cX.sl (h:cX g rs m Q φ aa top) (i:Int):(m.sl i=0\/Q (m.sl i))/\rs.getD i.toNat 0=φ (m.sl i):=by
 unfold MH.sl;rw[h.rs];simp only[ac,o_];cases hq:m.S[i.toNat]? with
 |none=>exact⟨.inl rfl,h.zero.symm⟩
 |some a=>exact⟨h.root a (PP hq),rfl⟩
def cX.len (h:cX g rs m Q φ aa top):rs.length=m.S.length:=by rw[h.rs,i8]
def cX.fe (h:cX g rs m Q φ aa top) {a:Nat} (ha:Q a) (i k:Int):dx (g (φ a)) i k=m.fe a i k:=by
 obtain⟨-,h1,h2,h3⟩:=h.hd a ha;have ha0:¬a=0:=by have:=h.xf a ha;omega
 unfold dx MH.fe;rw[h1,h2,h3,b_ ha0]
def cX.fin (h:cX g rs m Q φ aa top) {a:Nat} (ha:Q a) {i k:Int} (hk:k≠0) (hf:m.fe a i k=0):0<=i/\i.toNat<(m.ob a).w.length/\(i.toNat<(m.ob a).p↔k=1):=by
 have hl:=h.wl a ha;have ha0:¬a=0:=by have:=h.xf a ha;omega
 unfold MH.fe at hf;rw[b_ ha0] at hf;split at hf
 .next q=>
  have mH:=uH (p:=(m.ob a).p) (f:=(m.ob a).f) (o:=(m.ob a).o) (i:=i) (by rw[q];exact hk);refine⟨mH.1,e9,?_⟩;unfold Hd.kindOf at q;split at q;split at q;omega;split at q<;>omega;omega
 split at hf<;>omega
def cX.fw (h:cX g rs m Q φ aa top) {a:Nat} (ha:Q a) {i k:Int} (hk:k≠0) (hf:m.fe a i k=0):g (φ a+1+i.toNat)=if k=1 then φ (m.fw a i k) else m.fw a i k:=by obtain⟨h1,h2,h3⟩:=h.fin ha hk hf;rw[h.Cr a _ ha h2];unfold MH.fw;rw[b9 hf];by_cases q:k=1;rw[b9 (h3.2 q),b9 q];rw[b_ (λr=>q (h3.1 r)),b_ q]
def cX.fq (h:cX g rs m Q φ aa top) {a:Nat} (ha:Q a) {i:Int} (hf:m.fe a i 1=0):m.fw a i 1=0\/Q (m.fw a i 1):=by obtain⟨h1,h2,h3⟩:=h.fin ha z9 hf;refine h.cl a ha _ ?_;unfold MH.fw MH.pt;rw[b9 hf];refine PP (i:=i.toNat) ?_;rw[Km,b9 (h3.2 rfl),co h2,ac,co h2];rfl
end
structure HC where
 kind:Nat
 c_:Nat
 block:Nat
 d_:Nat
 bV:Nat
 aL:Nat
 aE:Nat
 ig:Nat
structure wR where
 y:aJ
 mv:Nat->Bool
 g0:Nat->Nat
structure HS where
 c:HC
 v:VS
 rs:List Nat
 aa:Nat
 top:Nat
 bX:Option wR
 ae:Nat
 af:Nat
 m:MH
abbrev HS.kG (S:HS) (k:wR):ml:=⟨S.v,k.mv⟩
def HC.mw (c:HC):Nat:=c.c_+c.d_+(if c.kind=3 then 0 else c.d_)
def HC.spare (c:HC):Nat:=(c.aE+2)*(max (c.block/c.c_) 1+3)
def HC.e_ (c:HC):Nat:=if c.kind=1 then c.d_/c.c_+c.spare else if c.kind=2 then 2*(c.d_/c.c_) else c.d_/c.c_
structure HC.Ok (c:HC):Prop where
 kind:1<=c.kind/\c.kind<=3
 c_:Fr.dp (c.c_:Int)
 block:iq c.block
 d_:∃k,c.d_=2^k
 GQ:16<=c.d_/\c.d_<=2048
 pw:c.c_<=c.d_
 bV:1<=c.bV/\c.bV<=64
 aL:1<=c.aL/\c.aL<=4096
 aE:c.aE<=16
 e_:c.e_<=4096
noncomputable def HS.ba (S:HS) (a:Nat):Nat:=match S.bX with
 |none=>S.v.wd a
 |some k=>k.y.ba k.g0 ⟨S.v,k.mv⟩ a
def HS.D (S:HS) (a:Nat):Prop:=S.aa<=a/\a<S.top
structure HS.ep (S:HS):Prop where
 bG:S.c.Ok
 aa:S.aa=S.c.c_\/(S.c.kind≠3/\S.aa=S.c.c_+S.c.d_)
 top:S.aa<=S.top/\S.top<=S.aa+S.c.d_
 tP:∀a,S.v.wd a<18446744073709551616
 used:bg (S.c.mw/S.c.c_) S.v
 aM:S.v.aM<=S.c.e_
 closed:S.bX=none->tQ (S.c.mw/S.c.c_) S.c.c_ S.aa S.top S.v
 opened:∀k,S.bX=some k->S.c.kind=1/\k.y.d_=S.c.mw/\k.y.c_=S.c.c_/\k.y.e_=S.c.e_/\k.y.c.to=S.aa/\k.y.c.aT=S.aa+S.c.d_/\k.y.c.block=S.c.block/\k.y.c.aE=S.c.aE/\(∀a,k.g0 a<18446744073709551616)/\k.y.Good k.g0 S.top ⟨S.v,k.mv⟩
structure HS.Good (S:HS):Prop where
 aX:S.ep
 rep:∃Q φ,cX S.ba S.rs S.m Q φ S.aa S.top
 yB:S.rs.length=S.c.bV/\S.m.C=S.c.d_
 more:∀k,S.bX=some k->aG k.mv k.y.nb<k.y.nb
noncomputable def HS.fin (S:HS):HS:=match S.bX with
 |none=>S
 |some k=>if aG k.mv k.y.nb=k.y.nb then {S with bX:=none,ae:=S.ae+1,af:=S.af+k.y.nb} else S
def HS.pZ (S:HS) (k:wR) (s:ml):HS:={S with v:=s.v,bX:=some {k with mv:=s.mv}}
noncomputable def HS.ld (S:HS) (a:Nat):HS:=match S.bX with
 |none=>S
 |some k=>S.pZ k (k.y.bO (S.kG k) a)
noncomputable def HS.st (S:HS) (a x:Nat):HS:={S.ld a with v:=fB (S.ld a).v a x}
section
variable {S:HS}{a b x:Nat}{k:wR}
def pow_dvd {p w:Nat} (hp:Fr.dp (p:Int)) (hw:∃k,w=2^k) (h:p<=w):1<=p/\p<=256/\w%p=0:=by
 obtain⟨k,rfl⟩:=hw;have key:∀j,j<=8->p=2^j->1<=p/\p<=256/\2^k%p=0:=λj hj e=>by subst e;have qP:j<=k:=(Nat.pow_le_pow_iff_right z9).1 h;refine⟨Nat.one_le_two_pow,?_,Nat.mod_eq_zero_of_dvd (al0 2 qP)⟩;exact h_ (pl z9 hj) z9
 rcases hp with h|h|h|h|h|h|h|h|h;exact key 0 z9 e9;exact key 1 z9 e9;exact key 2 z9 e9;exact key 3 z9 e9;exact key 4 z9 e9;exact key 5 z9 e9;exact key 6 z9 e9;exact key 7 z9 e9;exact key 8 z9 e9
def HC.Ok.fX {c:HC} (h:c.Ok):(1<=c.c_/\c.c_<=256)/\c.d_%c.c_=0/\c.mw%c.c_=0/\c.mw<=4352/\c.c_+c.d_<=c.mw/\(c.kind≠3->c.c_+2*c.d_=c.mw):=by
 obtain⟨h1,h2,h3⟩:=pow_dvd h.c_ h.d_ h.pw;have hw:=h.GQ;have e:c.mw%c.c_=0:=by unfold HC.mw;split;rw[sc,ac5,Z_,h3];rfl;rw[ac5,h3,ac5 c.c_,Z_,h3];rfl
 refine⟨⟨h1,h2⟩,h3,e,?_,?_,?_⟩;unfold HC.mw;split<;>omega;unfold HC.mw;split<;>omega;intro hk;unfold HC.mw;rw[b_ hk];omega
def HS.ep.run (h:S.ep):0<S.aa/\S.aa%S.c.c_=0/\S.aa+S.c.d_<=S.c.mw/\S.top<=S.c.mw/\S.c.mw<=4352:=by obtain⟨⟨d1,d2⟩,d3,d4,d5,d6,d7⟩:=h.bG.fX;have ht:=h.top;rcases h.aa with e|⟨e1,e⟩;rw[e];refine⟨e9,Z_ _,d6,e9,d5⟩;have:=d7 e1;refine⟨e9,?_,e9,e9,d5⟩;rw[e,ac5,Z_,d3];rfl
def HS.ep.mD (h:S.ep) (hk:S.bX=some k) (hD:S.D a):k.y.c.to<=a/\a<k.y.c.aT/\(k.y.waits k.mv a\/S.v.mp (a/k.y.c_)=true):=by
 obtain⟨k1,k2,k3,k4,k5,k6,k7,k8,k9,hg⟩:=h.opened k hk;have ht:=h.top;obtain⟨hD1,oN⟩:=hD;refine⟨e9,e9,?_⟩;by_cases hw:k.y.waits k.mv a;exact .inl hw;right;have tN:=hg.ok.pg (a:=a) (by have:=hg.ok.jn;omega);refine (hg.mc.mp _ tN).2 ?_;have hl:bB k.y.E k.y.d_=k.y.aq:=rfl;rcases ip a (k.y.c.to+k.y.aq) with q|q;refine .inr (.inl ⟨a-k.y.c.to,e9,?_,by rw[show k.y.c.to+(a-k.y.c.to)=a from e9]⟩);cases hm:k.mv ((a-k.y.c.to)/k.y.c.block) with
 |true=>exact hm
 |false=>exact absurd ⟨e9,e9,hm⟩ hw
 exact .inr (.inr ⟨a,q,oN,rfl⟩)
def HS.ep.cR (h:S.ep) (hk:S.bX=none) (hD:S.D a):cR S.c.mw S.c.c_ S.v a:=by obtain⟨r1,r2,r3,r4,r5⟩:=h.run;have hd:=h.bG.fX;refine⟨by have:=hD.2;omega,(h.closed hk _ ?_).2 ⟨a,hD.1,hD.2,rfl⟩⟩;rw[j_ e9,k_ (go hd.2.2.1)];have:=hD.2;omega
def HS.cL (hk:S.bX=none):S.ba a=S.v.wd a:=by unfold HS.ba;rw[hk]
def HS.fW (hk:S.bX=some k):S.ba a=k.y.ba k.g0 (S.kG k) a:=by unfold HS.ba;rw[hk]
def HS.ep.il (h:S.ep) (a:Nat):S.ba a<18446744073709551616:=by
 cases hk:S.bX with
 |none=>rw[HS.cL hk];exact h.tP a
 |some k=>
  rw[HS.fW hk];obtain⟨k1,k2,k3,k4,k5,k6,k7,k8,k9,hg⟩:=h.opened k hk;unfold aJ.ba;split;refine k.y.oc ?_ k9 _;have:=h.run;omega;exact h.tP a
def HS.ep.on (h:S.ep) (hk:S.bX=some k) {s:ml} (ho:k.y.On k.g0 S.top (S.kG k) s) (hw:∀a,s.v.wd a<18446744073709551616):(S.pZ k s).ep/\∀a,S.D a->(S.pZ k s).ba a=S.ba a:=by obtain⟨k1,k2,k3,k4,k5,k6,k7,k8,k9,hg⟩:=h.opened k hk;refine⟨⟨h.bG,h.aa,h.top,hw,?_,?_,λq=>(by cases q),λk' q=>?_⟩,λa ha=>?_⟩;have:=ho.jh.mc.used;rw[k2,k3] at this;exact this;have:=ho.jh.mc.aM;rw[k4] at this;exact this;cases q;exact⟨k1,k2,k3,k4,k5,k6,k7,k8,k9,ho.jh⟩;obtain⟨d1,d2,d3⟩:=h.mD hk ha;rw[HS.fW hk,HS.fW (k:={k with mv:=s.mv}) rfl];exact (ho.ba a d1 d2 d3).1
end
def fp (v:VS):Prop:=∀a,v.wd a<18446744073709551616
section
variable {v:VS}{y:aJ}{d_ c_ e_:Nat}
def aJ.Ok.oz (h:y.Ok) (hw:y.d_<=1048576) (ht:y.c.to<2147483648) (z:Int):y.to z<=2148532223:=by
 unfold aJ.to;split
 .next ht=>
  unfold qp;have hin:z.toNat<y.d_:=(by rcases ip z.toNat y.d_ with q|q;exact q;have:=h.ext.vW _ q;unfold lh at ht;rw[this] at ht;simp at ht);have:aG (dI y.E) z.toNat<=z.toNat:=bE _ _;omega
 omega
def tF (y:aJ) (v:VS) (a s:Nat) (h:eU y.d_ y.c_ v a<18446744073709551616) (ht:∀z,y.to z<=2148532223):y.word v a s<18446744073709551616:=by unfold aJ.word;split;have:=ht (IntKind.i64.wrap (eU y.d_ y.c_ v a:Nat));omega;exact h
def fp.load (h:fp v) (a:Int):eU d_ c_ v a<18446744073709551616:=by unfold eU;split;exact h _;omega
def fp.put (h:fp v) (a:Nat) {x:Nat} (hx:x<18446744073709551616):fp (fB v a x):=λb=>by
 show (if b=a then x else v.wd b)<_;split;exact hx;exact h b
def fp.store (h:fp v) (a:Int) {x:Nat} (hx:x<18446744073709551616):fp (du d_ c_ v a x):=by unfold du;split;exact h.put _ hx;exact h
def fp.cp (y:aJ) (h:fp v) (ht:∀z,y.to z<=2148532223) (i:Nat):∀n,fp (y.cp v i n)
 |0=>h
 |n+1=>(fp.cp y h ht i n).store _ (tF y _ _ _ ((fp.cp y h ht i n).load _) ht)
def fp.yN (h:fp v) (np:Nat) (p:Int):fp (bY np v p):=by unfold bY;split<;>exact h
def fp.dr (y:aJ) (U:Nat->Bool) (h:fp v) (i:Nat):∀n,fp (y.dr U v i n)
 |0=>h
 |n+1=>by unfold aJ.dr;split;exact (fp.dr y U h i n).yN _ _;exact fp.dr y U h i n
def fp.dL (h:fp v):∀l:List Nat,fp (dL c_ v l):=λl a=>by
 rw[nU];split;omega;exact h a
def fp.need (h:fp v) (a b:Int):fp (bH d_ c_ e_ v a b):=by unfold bH;split;exact h;split;exact h;unfold jP;split;exact h.dL _;exact h
def fp.move (y:aJ) {s:ml} (h:fp s.v) (ht:∀z,y.to z<=2148532223) (k:Nat):fp (y.move s k).v:=fp.dr y _ (fp.cp y (fp.need h _ _) ht _ _) _ _
def fp.push (y:aJ) (ht:∀z,y.to z<=2148532223) (k:Nat):∀n {s:ml},fp s.v->fp (y.push k n s).v
 |0,s,h=>h
 |n+1,s,h=>by rw[aJ.push];split;exact fp.push y ht k n (fp.move y h ht _);exact h
def fp.bO (y:aJ) {s:ml} (h:fp s.v) (ht:∀z,y.to z<=2148532223) (a:Nat):fp (y.bO s a).v:=by unfold aJ.bO;split;split;exact fp.push y ht _ _ h;exact fp.move y (fp.push y ht _ _ h) ht _;exact h
end
section
variable {S:HS}{a b x:Nat}{k:wR}
def HS.ep.oz (h:S.ep) (hk:S.bX=some k) (z:Int):k.y.to z<=2148532223:=by obtain⟨k1,k2,k3,k4,k5,k6,k7,k8,k9,hg⟩:=h.opened k hk;have:=h.run;exact hg.ok.oz e9 e9 z
def HS.ep.ld (h:S.ep) (a:Nat):(S.ld a).ep/\(∀b,S.D b->(S.ld a).ba b=S.ba b):=by
 unfold HS.ld;cases hk:S.bX with
 |none=>exact⟨h,λ_ _=>rfl⟩
 |some k=>
  obtain⟨k1,k2,k3,k4,k5,k6,k7,k8,k9,hg⟩:=h.opened k hk;exact h.on hk (hg.bO a).1 (fp.bO k.y (s:=S.kG k) h.tP (h.oz hk) a)
def HS.iP (S:HS) (a:Nat):(S.ld a).c=S.c/\(S.ld a).rs=S.rs/\(S.ld a).aa=S.aa/\(S.ld a).top=S.top/\(S.ld a).ae=S.ae/\(S.ld a).af=S.af/\(S.ld a).m=S.m:=by unfold HS.ld;cases S.bX<;>exact⟨rfl,rfl,rfl,rfl,rfl,rfl,rfl⟩
def HS.EJ (S:HS) (a b:Nat):(S.ld a).D b↔S.D b:=by obtain⟨-,-,h1,h2,-⟩:=S.iP a;unfold HS.D;rw[h1,h2]
def HS.vT (hk:S.bX=none):S.ld a=S:=by unfold HS.ld;rw[hk]
def HS.vU (hk:S.bX=some k):S.ld a=S.pZ k (k.y.bO (S.kG k) a):=by unfold HS.ld;rw[hk]
def HS.ep.st (h:S.ep) (ha:S.D a) (hx:x<18446744073709551616):(S.st a x).ep/\(∀b,S.D b->(S.st a x).ba b=if b=a then x else S.ba b):=by
 obtain⟨h1,h2⟩:=h.ld a;have hD:=(S.EJ a a).2 ha;have hw:fp (fB (S.ld a).v a x):=fp.put h1.tP a hx;unfold HS.st;cases hk:S.bX with
 |none=>
  rw[HS.vT hk] at h1 h2 hD hw ⊢;refine⟨⟨h1.bG,h1.aa,h1.top,hw,h1.used,h1.aM,λq=>h1.closed hk,λk q=>?_⟩,λb hb=>?_⟩;rw[show S.bX=some k from q] at hk;cases hk;rw[HS.cL (S:={S with v:=fB S.v a x}) hk,HS.cL hk];rfl
 |some k=>
  obtain⟨k1,k2,k3,k4,k5,k6,k7,k8,k9,hg⟩:=h.opened k hk;obtain⟨d1,d2,d3⟩:=h.mD hk ha;rw[HS.vU hk] at h1 h2 hD hw ⊢;change k.y.Good k.g0 S.top (S.kG k) at hg;obtain⟨t1,t2⟩:=hg.bO a;have hm:=((t1.ba a d1 d2 d3).2).resolve_left t2;obtain⟨s1,s2,s3⟩:=t1.jh.store d1 d2 t2 hm x;have ey:=hg.ok.jn;have e:du k.y.d_ k.y.c_ (k.y.bO (S.kG k) a).v a x=fB (k.y.bO (S.kG k) a).v a x:=(by unfold du;rw[b9 (hg.ok.mD (a:=a) e9 hm).1];rfl);rw[e] at s1 s2;refine⟨⟨h1.bG,h1.aa,h1.top,hw,h1.used,h1.aM,λq=>(by cases q),λk' q=>?_⟩,λb hb=>?_⟩;cases q;exact⟨k1,k2,k3,k4,k5,k6,k7,k8,k9,s1⟩;have e1:=s2 b;have e2:=h2 b hb;rw[HS.fW (k:={k with mv:=(k.y.bO (S.kG k) a).mv}) rfl] at e2 ⊢;rw[<-e2];exact e1
def HS.ep.fin (h:S.ep):S.fin.ep/\(∀b,S.D b->S.fin.ba b=S.ba b)/\(∀k,S.fin.bX=some k->aG k.mv k.y.nb<k.y.nb):=by
 unfold HS.fin;cases hk:S.bX with
 |none=>exact⟨h,λ_ _=>rfl,λk q=>by rw[hk] at q;cases q⟩
 |some k=>
  simp only;by_cases hc:aG k.mv k.y.nb=k.y.nb
  .rw[b9 hc];obtain⟨k1,k2,k3,k4,k5,k6,k7,k8,k9,hg⟩:=h.opened k hk;have hall:∀i,i<k.y.aq->k.mv (i/k.y.c.block)=true:=λi hi=>by
    have hb:=hg.ok.OQ hi;cases hm:k.mv (i/k.y.c.block) with
    |true=>rfl
    |false=>
     have:=dK k.y hb hm;have:=bE (bj k.mv (i/k.y.c.block)) k.y.nb;omega
   have hrun:=h.run;have ht:=h.top;have oO:=hg.mc.yK;have kN:tQ (S.c.mw/S.c.c_) S.c.c_ S.aa S.top S.v:=λp hp=>by have zw:S.v.mp p=true↔k.y.M k.mv S.top p:=hg.mc.mp p (by rw[k2,k3];exact hp);rw[zw];unfold aJ.M aJ.F aJ.T aJ.Al;constructor;rintro (⟨i,hi,q,e⟩|⟨i,hi,q,e⟩|⟨a,q1,q2,e⟩);rw[hall i hi] at q;cases q;exact⟨k.y.c.to+i,e9,e9,by rw[<-k3];exact e⟩;exact⟨a,e9,q2,by rw[<-k3];exact e⟩;rintro⟨a,q1,q2,e⟩;rcases ip a (k.y.c.to+k.y.aq) with q|q;exact .inr (.inl ⟨a-k.y.c.to,e9,hall _ e9,by rw[show k.y.c.to+(a-k.y.c.to)=a from e9,k3];exact e⟩);exact .inr (.inr ⟨a,q,q2,by rw[k3];exact e⟩)
   refine⟨⟨h.bG,h.aa,h.top,h.tP,h.used,h.aM,λ_=>kN,λk q=>(by cases q)⟩,λb hb=>?_,λk q=>(by cases q)⟩
   .rw[HS.fW hk,HS.cL rfl];unfold aJ.ba;rw[b_]
    rintro⟨q1,q2,q3⟩;have:k.mv ((b-k.y.c.to)/k.y.c.block)=true:=hall _ (by have:bB k.y.E k.y.d_=k.y.aq:=rfl;omega);have Wq:k.mv ((b-k.y.c.to)/k.y.c.block)=false:=q3;rw[this] at Wq;cases Wq
  rw[b_ hc];refine⟨h,λ_ _=>rfl,λk' q=>?_⟩;rw[hk] at q;cases q;have:=bE k.mv k.y.nb;omega
def HS.xD (S:HS):S.fin.c=S.c/\S.fin.rs=S.rs/\S.fin.aa=S.aa/\S.fin.top=S.top/\S.fin.m=S.m/\S.fin.v=S.v:=by
 unfold HS.fin;cases S.bX with
 |none=>exact⟨rfl,rfl,rfl,rfl,rfl,rfl⟩
 |some k=>
  simp only;split<;>exact⟨rfl,rfl,rfl,rfl,rfl,rfl⟩
end
section
attribute [local go_sem] Oper.semAt_some
def zk (w:World):(zeroValue 31).run prog w=.ok (.agg #[Wy,Wy,Wy]) w:=ol
def El (x:Nat):Array Value:= #[.int .i64 (Hd.tp x:Nat),.int .i64 (Hd.tf x:Nat),.int .i64 (Hd.to x:Nat)]
section
variable {cb m l f a0 t:Nat}{y:aJ}{mv U:Nat->Bool}{R Rm Rc:BL}{v:VS}{w w':World}
def copy_c (p i n:Nat) (h:lQ cb m y mv U l f a0 Rc) (hm:aH m y.d_ y.c_ y.e_ t v Rm) (hv:fp v) (hR:At (Rm++Rc) w) (hT:ax w) (hg:aD (Rm++Rc)) (hn:i+n<=y.aq) (hp:∀d,d<n->y.bw (i+d)=p+d) (hp2:p<=1048576): WR 226 #[Wz cb,.agg #[p,(y.c.to+i:Nat),n]] w (.tuple #[]) λw'=>∃bI,aH m y.d_ y.c_ y.e_ t (y.cp v i n) bI/\ag Rm bI w w':=by
 have hok:=h.ok;have Cv:y.aq<=y.d_:=eE _ _;have HW:=a_ (λa s v Rm W (hm:aH m y.d_ y.c_ y.e_ t v Rm) (hR:At Rc W) PT ha hs hw=>Ft (w:=W) a s h hm hR PT ha hs hw);obtain⟨HM,Cd⟩:=aO hm hR;have Hp:∀j,j<n->(qS y.E (p+j)<=p+j/\p+j<qS y.E (p+j)+y.E (qS y.E (p+j)))/\p+j<y.d_/\y.bw (i+j)=p+j:=λj hj=>by have:=fy y (i:=i+j) e9;rw[hp j hj] at this;exact⟨oq this.2.1,this.1,hp j hj⟩
 have HP:=a_ Hp;have HV:=a_ (λj=>fp.cp y hv (aJ.oA h) i j);have CN:=a_ (aJ.oA h);have MG:=a_ (λa s (hs:s<=a/\a<s+y.E s)=>Ao hok.1 hs);have TF:=a_ hok.1.fits;obtain⟨pb,ob,vb,wb,sb,nw,mw,ow,ns,ms,os,Rp,Ro,rfl,kj,ho,-,zx,lU⟩:=h;have qL:=a_ (λ(a s:Nat) W (hR:Has Ro W) (hT:ax W) hs=>py (w:=W) a s ho hR hT hs);have PB:=a_ (λ(s:Nat) W (hs:y.E s≠0) (hle:s<=1048576) (hb:W.heap[sb]?=some os)=>(show (Instr.lookup 217 (.map (some sb)) (.int .i64 s) false).run prog W=.ok (.agg (El (y.g s))) W from by have:=zx.look (w:=W) (b:=sb) (f:=(s:Int)) (t:=217) (e:=31) ol (zk W) hb (by unfold Ds;omega);rw[lU s hs] at this;exact this));have zo:=a_ (λR1 W (d:ag (Rm++((cb,.cells #[.pointer (some ⟨m,0,none⟩),.int .i64 y.c.cq,.int .i64 y.c.top,.int .i64 y.c.to,.int .i64 y.c.aT,.int .i64 y.c.block,.int .i64 y.c.aL,.int .i64 y.c.aE,.pointer (some ⟨pb,0,none⟩),.pointer (some ⟨ob,0,none⟩),.slice (some ⟨vb,0,none⟩) y.nb y.nb,.int .i64 l,.int .i64 f,.int .i64 a0,.map (some wb),.map (some sb)] 219 (0,0)):: (vb,.cells (aK mv y.nb).toArray 4 (0,0))::(wb,ow)::(sb,os)::(Rp++Ro))) R1 w W)=>d.tz hT hg);have D0:=a_ (((ag.refl hR).box #[p,(y.c.to+i:Nat),n] 303).box #[Wy,Wy,Wy] 31);obtain⟨hblk,kA,hw2,hc⟩:=hok.2;have n1:n<=1048576:=e9;have n2:y.c.to+i<=2150000000:=e9;have n3:y.d_<=1048576:=kA;clear ho zx lU hT hg hR hm hv kj hp Hp hok hblk kA hw2;generalize NJ:((cb,Obj.cells #[.pointer (some ⟨m,0,none⟩),.int .i64 y.c.cq,.int .i64 y.c.top,.int .i64 y.c.to,.int .i64 y.c.aT,.int .i64 y.c.block,.int .i64 y.c.aL,.int .i64 y.c.aE,.pointer (some ⟨pb,0,none⟩),.pointer (some ⟨ob,0,none⟩),.slice (some ⟨vb,0,none⟩) y.nb y.nb,.int .i64 l,.int .i64 f,.int .i64 a0,.map (some wb),.map (some sb)] 219 (0,0)):: (vb,Obj.cells (aK mv y.nb).toArray 4 (0,0))::(wb,ow)::(sb,os)::(Rp++Ro))=Rc at *;have RG:=a_ NJ;clear NJ;have Ls:=a_ (λW (h:Has Rc W)=>(show W.cell? ⟨cb,0,none⟩=some (.pointer (some ⟨m,0,none⟩))/\W.cell? ⟨cb,9,none⟩=some (.pointer (some ⟨ob,0,none⟩))/\W.cell? ⟨cb,15,none⟩=some (.map (some sb))/\W.heap[sb]?=some os/\Has Ro W from by rw[<-RG.out] at h;exact⟨an h.head 0 _ rfl,an h.head 9 _ rfl,an h.head 15 _ rfl,h.tail.tail.tail.head,h.tail.tail.tail.tail.right⟩));obtain⟨q,hq⟩:=kw (y.c.to+i);rw[hq] at n2 D0 ⊢;have Ht:=a_ (λj (hj:j<n) (V:VS)=>(show y.jx V (i+j)=y.word V (p+j) (qS y.E (p+j)) from by unfold aJ.jx;rw[(HP.out j hj).2.2]));have GV:=a_ (λj=>(show y.cp v i (j+1)=du y.d_ y.c_ (y.cp v i j) ((q:Int)+j) (y.jx (y.cp v i j) (i+j)) from by have e:((y.c.to+(i+j):Nat):Int)=(q:Int)+j:=e9;rw[aJ.cp,e]));have mo:=a_ (λj (V:VS) (hV:fp V)=>tF y V (p+j) (qS y.E (p+j)) (hV.load _) CN);clear hq;go_enter func226,ntmps226;have q0:=D0.has.tail.head;have c2:=an q0 2 _ rfl;clear q0;simp only[ww] at D0;go_wp2;generalize (w.alloc (.cells #[p,q,n] 303)).alloc (.cells #[Wy,Wy,Wy] 31)=w1 at *;generalize w.heap.size=pk at *;go_loopw [4,5,12] (λsv nv iv wr=>∃(j s z:Nat) (p1 p2 p3:Nat) (bI:BL),iv=.int .i64 j/\j<=n/\sv=.int .i64 s/\nv=.int .i64 z/\(s<=1048576/\z<=1048576)/\(z=0/\s=0\/(1<=j/\z=y.E s/\s<p+j/\p+j<=s+z/\p1=Hd.tp (y.g s)/\p2=Hd.tf (y.g s)/\p3=Hd.to (y.g s)))/\aH m y.d_ y.c_ y.e_ t (y.cp v i j) bI/\ag (Rm++Rc) ((pk+1,.cells #[p1,p2,p3] 31 (0,0))::(pk,.cells #[p,q,n] 303 (0,0))::(bI++Rc)) w wr) (λ_ _ iv _=>n-(intOf iv).toNat);exact⟨0,0,0,0,0,0,Rm,rfl,lc _,rfl,rfl,⟨e9,e9⟩,.inl ⟨rfl,rfl⟩,HM,D0⟩;clear D0 c2;obtain⟨j,s,z,p1,p2,p3,bI,rfl,hj,rfl,rfl,hsz,hcs,hM,hD⟩:=hrel;obtain⟨Ax,HD⟩:=aO hM hD;have hr:=Ls _ hD.has.tail.tail.right;obtain⟨e0,-,e2,-⟩:=ft hD.has.tail.head;clear hM hD;by_cases hlt:j<n
 .obtain⟨⟨k1,k2⟩,k3,k4⟩:=HP j hlt;have s1:=eH ((p:Int)+j);have s2:=eH ((s:Int)+z);have s3:=eH ((q:Int)+j);have s4:=eH ((j:Int)+1);obtain⟨s',Qu⟩:=kw (qS y.E (p+j));rw[Qu] at k1 k2;have Cf:=a_ (λW (hD:ag (Rm++Rc) ((pk+1,.cells #[(Hd.tp (y.g s'):Nat),(Hd.tf (y.g s'):Nat),(Hd.to (y.g s'):Nat)] 31 (0,0))::(pk,.cells #[p,q,n] 303 (0,0))::(bI++Rc)) w W)=>(show WR 281 #[Wz cb,((p:Int)+j:Int),s',.agg #[(Hd.tp (y.g s'):Nat),(Hd.tf (y.g s'):Nat),(Hd.to (y.g s'):Nat)]] W (WB (y.jx (y.cp v i j) (i+j))) λw'=>Below W.heap.size W w' from by have h1:=HW (p+j) s' (y.cp v i j) bI W Ax hD.at_.tail.tail.right hD.has.tail.tail.left e9 e9 ((HV j).load _);rw[Ht.out j hlt,Qu];have e:((p+j:Nat):Int)=(p:Int)+j:=e9;rw[e] at h1;exact h1));have Fx:=a_ (λW (hD:ag (Rm++Rc) ((pk+1,.cells #[(Hd.tp (y.g s'):Nat),(Hd.tf (y.g s'):Nat),(Hd.to (y.g s'):Nat)] 31 (0,0))::(pk,.cells #[p,q,n] 303 (0,0))::(bI++Rc)) w W)=>la (w:=W) Ax hD.at_.tail.tail.left ((q:Int)+j) (y.jx (y.cp v i j) (i+j)) (by rw[Ht.out j hlt];exact mo j _ (HV j)));have HN:=a_ (GV j);generalize y.jx (y.cp v i j) (i+j)=wd at *;by_cases hge:s+z<=p+j
  .have g1:decide (s+z<=p+j)=true:=rc hge;have HF:=a_ (qL (p+j) s' wr (Ls _ HD.has.tail.tail.right).2.2.2.2 (zo _ _ HD) ⟨k1,k2⟩);have Ll:=PB s' wr e9 e9 hr.2.2.2.1;obtain⟨r0,r9,Wr,ros,rro⟩:=hr;have hq:=HD.has.head;obtain⟨e3,e4,e5,-⟩:=ft hq;obtain⟨f3,f4,f5,-⟩:=zN hq;have ee:((p+j:Nat):Int)=(p:Int)+j:=e9;rw[ee] at HF;unfold El at Ll;clear hq ros rro ee;go_wp2_with (first|(go_at_call 280;refine HF.kq ?_;rintro w2 rfl)|fail);have D5:=a_ (((HD.set 0 (Hd.tp (y.g s'):Nat)).set 1 (Hd.tf (y.g s'):Nat)).set 2 (Hd.to (y.g s'):Nat));simp only[ma] at D5;clear e0 e2 e3 e4 e5 f3 f4 f5 r0 r9 Wr HD Ll HF;generalize ((wr.setCell ⟨pk+1,0,none⟩ (.int .i64 (Hd.tp (y.g s'):Nat))).setCell ⟨pk+1,1,none⟩ (.int .i64 (Hd.tf (y.g s'):Nat))).setCell ⟨pk+1,2,none⟩ (.int .i64 (Hd.to (y.g s'):Nat))=W5 at *;have D6:=a_ (D5.drew);have qq:=D6.has;obtain⟨b0,b1,b2,-⟩:=ft qq.head;have b4:=an qq.tail.head 1 (.int .i64 q) rfl;have b5:=(Ls _ qq.tail.tail.right).1;clear qq;refine aP (S:=λW=>W.cell? ⟨pk+1,0,none⟩=some (.int .i64 (Hd.tp (y.g s'):Nat))/\W.cell? ⟨pk+1,1,none⟩=some (.int .i64 (Hd.tf (y.g s'):Nat))/\W.cell? ⟨pk+1,2,none⟩=some (.int .i64 (Hd.to (y.g s'):Nat))/\W.cell? ⟨pk,1,none⟩=some (.int .i64 q)/\W.cell? ⟨cb,0,none⟩=some (.pointer (some ⟨m,0,none⟩))) ol ⟨b0,b1,b2,b4,b5⟩ (λhHeld=>?_);generalize W5.drew=W6 at *;refine aR 0 ?_;refine aR 1 ?_;refine aR 2 ?_;refine aR 3 ?_;refine aR 4 ?_;refine aR 5 ?_;refine aR 6 ?_;refine aR 7 ?_;refine aR 8 ?_;refine aR 9 ?_;refine aR 10 ?_;refine aR 11 ?_;simp only[aI];refine jS 12 (λK hK=>?_);go_simp;refine (Cf _ D6).kg D6.grow λw7 D7=>?_;have qq:=D7.has;refine hK _ _ ⟨an qq.head 0 _ rfl,an qq.head 1 _ rfl,an qq.head 2 _ rfl,an qq.tail.head 1 _ rfl,(Ls _ qq.tail.tail.right).1⟩ (λhHeld=>?_);clear hK K;(try simp only[aI]);clear qq;refine sD 13 (λK hK=>?_);go_simp;refine (Fx _ D7).kq ?_;rintro w8 ⟨RU,m8,d8⟩;have M8:=a_ m8;have D8:=a_ ((D7.perm (R':=bI++((pk+1,.cells #[(Hd.tp (y.g s'):Nat),(Hd.tf (y.g s'):Nat),(Hd.to (y.g s'):Nat)] 31 (0,0))::(pk,.cells #[p,q,n] 303 (0,0))::Rc)) aF).step d8);clear m8 d8;refine hK _ _ ?_;clear hK K;(try simp only[aI]);go_wp2;go_roundw;exact⟨j+1,s',y.E s',_,_,_,RU,by go_num,hlt,rfl,rfl,⟨e9,by have:=TF s' e9;omega⟩,.inr ⟨e9,rfl,e9,e9,rfl,rfl,rfl⟩,by rw[HN.out];exact M8,D8.perm aF⟩;simp[intOf];omega
  have g1:decide (s+z<=p+j)=false:=g_ hge;obtain⟨h1,h2,h3,h4,rfl,rfl,rfl⟩:=hcs.resolve_left e9;subst h2;obtain rfl:s'=s:=(by rw[<-Qu];exact MG (p+j) s ⟨e9,e9⟩);clear hr;go_wp2_with (fail);have D5:=HD;clear e0 e2 HD;generalize wr=W5 at *;have D6:=a_ (D5.drew);have qq:=D6.has;obtain⟨b0,b1,b2,-⟩:=ft qq.head;have b4:=an qq.tail.head 1 (.int .i64 q) rfl;have b5:=(Ls _ qq.tail.tail.right).1;clear qq;refine aP (S:=λW=>W.cell? ⟨pk+1,0,none⟩=some (.int .i64 (Hd.tp (y.g s'):Nat))/\W.cell? ⟨pk+1,1,none⟩=some (.int .i64 (Hd.tf (y.g s'):Nat))/\W.cell? ⟨pk+1,2,none⟩=some (.int .i64 (Hd.to (y.g s'):Nat))/\W.cell? ⟨pk,1,none⟩=some (.int .i64 q)/\W.cell? ⟨cb,0,none⟩=some (.pointer (some ⟨m,0,none⟩))) ol ⟨b0,b1,b2,b4,b5⟩ (λhHeld=>?_);generalize W5.drew=W6 at *;refine aR 0 ?_;refine aR 1 ?_;refine aR 2 ?_;refine aR 3 ?_;refine aR 4 ?_;refine aR 5 ?_;refine aR 6 ?_;refine aR 7 ?_;refine aR 8 ?_;refine aR 9 ?_;refine aR 10 ?_;refine aR 11 ?_;simp only[aI];refine jS 12 (λK hK=>?_);go_simp;refine (Cf _ D6).kg D6.grow λw7 D7=>?_;have qq:=D7.has;refine hK _ _ ⟨an qq.head 0 _ rfl,an qq.head 1 _ rfl,an qq.head 2 _ rfl,an qq.tail.head 1 _ rfl,(Ls _ qq.tail.tail.right).1⟩ (λhHeld=>?_);clear hK K;(try simp only[aI]);clear qq;refine sD 13 (λK hK=>?_);go_simp;refine (Fx _ D7).kq ?_;rintro w8 ⟨RU,m8,d8⟩;have M8:=a_ m8;have D8:=a_ ((D7.perm (R':=bI++((pk+1,.cells #[(Hd.tp (y.g s'):Nat),(Hd.tf (y.g s'):Nat),(Hd.to (y.g s'):Nat)] 31 (0,0))::(pk,.cells #[p,q,n] 303 (0,0))::Rc)) aF).step d8);clear m8 d8;refine hK _ _ ?_;clear hK K;(try simp only[aI]);go_wp2;go_roundw;exact⟨j+1,s',y.E s',_,_,_,RU,by go_num,hlt,rfl,rfl,⟨e9,by have:=TF s' e9;omega⟩,.inr ⟨e9,rfl,e9,e9,rfl,rfl,rfl⟩,by rw[HN.out];exact M8,D8.perm aF⟩;simp[intOf];omega
 obtain rfl:j=n:=e9;clear hr;go_wp2;go_end0;exact⟨rfl,bI,Ax,ag.oD HD.tail.tail Cd⟩
end
section
variable {y:aJ}{U:Nat->Bool}{i n q:Nat}
def sE (U:Nat->Bool) (i n:Nat):bq U i (n+1) (i+n)=false:=by unfold bq;rw[show (decide (i<=i+n) && decide (i+n<i+(n+1)))=true from by rw[lw,l_,l_];omega];simp
def pG (U:Nat->Bool) (i n:Nat) (h:U (i+n)=true):bq U i n=bj (bq U i (n+1)) (i+n):=funext λr=>by
 rw[GT,cO];unfold bq;simp only[lw,ab0,DH,Do];by_cases e:r=i+n;subst e;simp[h];constructor;rintro⟨a,b⟩;exact .inr ⟨a,e9⟩;rintro (a|⟨a,b⟩);exact absurd a e;exact⟨a,e9⟩
def cnt_less (h:U (i+n)=true) (hn:i+n<y.aq):aG (bq U i n) y.aq=aG (bq U i (n+1)) y.aq+1:=by rw[pG U i n h,gu (sE U i n),b9 hn]
def cw_less (h:U (i+n)=true) (hn:i+n<y.aq) (q:Nat):y.cw (bq U i n) q=y.cw (bq U i (n+1)) q+if q=y.bw (i+n)/y.c_ then 1 else 0:=by
 unfold aJ.cw;by_cases e:q=y.bw (i+n)/y.c_;rw[b9 e];have e1:(λr=>bq U i n r && decide (y.bw r/y.c_=q))=bj (λr=>bq U i (n+1) r && decide (y.bw r/y.c_=q)) (i+n):=funext λr=>by rw[GT,cO,pG U i n h];simp only[lw,l_,cO];by_cases er:r=i+n;subst er;simp[e];simp[er]
 rw[e1,gu (by rw[sE];rfl),b9 hn];rw[b_ e,sc];refine cB λr _=>?_;rw[pG U i n h];by_cases er:r=i+n;subst er;have:decide (y.bw (i+n)/y.c_=q)=false:=g_ λq2=>e q2.symm;simp[this];have:bj (bq U i (n+1)) (i+n) r=bq U i (n+1) r:=by unfold bj;simp[er]
 rw[this]
end
section
variable {cb m l f a0 t:Nat}{y:aJ}{mv U:Nat->Bool}{R Rm Rc:BL}{v:VS}{w w':World}
def drain_c (p i n:Nat) (h:lQ cb m y mv U l f a0 Rc) (hm:aH m y.d_ y.c_ y.e_ t v Rm) (tN:1<=y.c_) (hR:At (Rm++Rc) w) (hn:i+n<=y.aq) (hp:∀d,d<n->y.bw (i+d)=p+d) (hp2:p<=1048576) (hU:∀d,d<n->U (i+d)=true) (to:Int): WR 227 #[Wz cb,.agg #[p,to,n]] w (.tuple #[]) λw'=>∃bI zq,aH m y.d_ y.c_ y.e_ t (y.dr U v i n) bI/\lQ cb m y mv (bq U i n) l f a0 zq/\ag (Rm++Rc) (bI++zq) w w':=by
 have hok:=h.ok;have Cv:y.aq<=y.d_:=eE _ _;have HP:=a_ (λj (hj:j<n)=>(show p+j<y.d_/\y.bw (i+j)=p+j from by have:=fy y (i:=i+j) e9;rw[hp j hj] at this;exact⟨this.1,hp j hj⟩));have HC:=a_ (λj (hj:j<n)=>cw_less (y:=y) (n:=j) (hU j hj) e9);have Mo:=a_ (λj (hj:j<n)=>cnt_less (y:=y) (n:=j) (hU j hj) e9);have Kz:=sG U i;obtain⟨pb,ob,vb,wb,sb,nw,mw,Wm,ns,ms,os,Rp,Ro,rfl,kj,ho,⟨kA,hw2,oP⟩,zx,lU⟩:=h;have HCY:=a_ (λ(j nw:Nat) mw ow (kA:VM nw mw ow) (hw2:nw+aG (bq U i j) y.aq<=4000000) (oP:∀q:Nat,q<=y.d_->(mw q).getD (.int .i64 0)=.int .i64 (y.cw (bq U i j) q:Nat))=>(show lQ cb m y mv (bq U i j) l f a0 ((cb,.cells #[.pointer (some ⟨m,0,none⟩),.int .i64 y.c.cq,.int .i64 y.c.top,.int .i64 y.c.to,.int .i64 y.c.aT,.int .i64 y.c.block,.int .i64 y.c.aL,.int .i64 y.c.aE,.pointer (some ⟨pb,0,none⟩),.pointer (some ⟨ob,0,none⟩),.slice (some ⟨vb,0,none⟩) y.nb y.nb,.int .i64 l,.int .i64 f,.int .i64 a0,.map (some wb),.map (some sb)] 219 (0,0)):: (vb,.cells (aK mv y.nb).toArray 4 (0,0))::(wb,ow)::(sb,os)::(Rp++Ro)) from ⟨pb,ob,vb,wb,sb,nw,mw,ow,ns,ms,os,Rp,Ro,rfl,kj,ho,⟨kA,hw2,oP⟩,zx,lU⟩));have HM:=a_ hm;have D0:=a_ ((ag.refl hR).box #[p,to,n] 303);have Ce:=a_ kA;have ML:=a_ (show nw+aG (bq U i 0) y.aq<=4000000 from by rw[Kz];exact hw2);have Cf:=a_ (show ∀q:Nat,q<=y.d_->(mw q).getD (.int .i64 0)=.int .i64 (y.cw (bq U i 0) q:Nat) from by rw[Kz];exact oP);have n1:n<=1048576:=by have:=hok.2.2.1;omega
 have n3:y.d_<=1048576:=hok.2.2.1;clear kA hw2 oP hm hR kj ho zx lU hp hU hok Kz;go_enter func227,ntmps227;have q0:=D0.has.head;have c0:=an q0 0 (.int .i64 p) rfl;clear q0;go_wp2;clear c0;generalize w.alloc (.cells #[p,to,n] 303)=w1 at *;generalize w.heap.size=pk at *;go_loopw [4] (λav wr=>∃(j nw:Nat) (mw:Int->Option Value) (ow:Obj) (bI:BL),av=.int .i64 ((p:Int)+j)/\j<=n/\aH m y.d_ y.c_ y.e_ t (y.dr U v i j) bI/\VM nw mw ow/\nw+aG (bq U i j) y.aq<=4000000/\(∀q:Nat,q<=y.d_->(mw q).getD (.int .i64 0)=.int .i64 (y.cw (bq U i j) q:Nat))/\ag (Rm++((cb,.cells #[.pointer (some ⟨m,0,none⟩),.int .i64 y.c.cq,.int .i64 y.c.top,.int .i64 y.c.to,.int .i64 y.c.aT,.int .i64 y.c.block,.int .i64 y.c.aL,.int .i64 y.c.aE,.pointer (some ⟨pb,0,none⟩),.pointer (some ⟨ob,0,none⟩),.slice (some ⟨vb,0,none⟩) y.nb y.nb,.int .i64 l,.int .i64 f,.int .i64 a0,.map (some wb),.map (some sb)] 219 (0,0)):: (vb,.cells (aK mv y.nb).toArray 4 (0,0))::(wb,Wm)::(sb,os)::(Rp++Ro))) ((pk,.cells #[p,to,n] 303 (0,0))::(bI++((cb,.cells #[.pointer (some ⟨m,0,none⟩),.int .i64 y.c.cq,.int .i64 y.c.top,.int .i64 y.c.to,.int .i64 y.c.aT,.int .i64 y.c.block,.int .i64 y.c.aL,.int .i64 y.c.aE,.pointer (some ⟨pb,0,none⟩),.pointer (some ⟨ob,0,none⟩),.slice (some ⟨vb,0,none⟩) y.nb y.nb,.int .i64 l,.int .i64 f,.int .i64 a0,.map (some wb),.map (some sb)] 219 (0,0)):: (vb,.cells (aK mv y.nb).toArray 4 (0,0))::(wb,ow)::(sb,os)::(Rp++Ro)))) w wr) (λav _=>(p+n)-(intOf av).toNat);exact⟨0,nw,mw,Wm,Rm,qr,lc _,HM,Ce,ML,Cf,D0⟩;clear D0 HM Ce ML Cf mw nw;obtain⟨j,nw,mw,ow,bI,rfl,hj,hM,IZ,Td,FJ,hD⟩:=hrel;by_cases hlt:j<n
 .obtain⟨k3,k4⟩:=HP j hlt;have hC:=HC j hlt;have Gj:=Mo j hlt;rw[k4] at hC;obtain⟨z,hz⟩:=kw ((p+j)/y.c_);have hdr:y.dr U v i (j+1)=if y.cw (bq U i (j+1)) z=0 then bY (y.d_/y.c_) (y.dr U v i j) (z:Nat) else y.dr U v i j:=(by rw[aJ.dr,k4,hz]);rw[hz] at hC;have Tj:z<=y.d_:=(by rw[<-hz];exact h_ (rx _ _) e9);have Qa:=hC z;rw[b9 rfl] at Qa;obtain⟨c,hc⟩:=kw (y.cw (bq U i (j+1)) z);have bu:c<=1048576:=(by rw[<-hc];exact h_ (bE _ _) e9);rw[hc] at Qa hdr;have KU:=FJ z Tj;rw[Qa] at KU;have ht1:((p:Int)+j).tdiv (y.c_:Int)=(z:Int):=(by rw[so e9,<-hz];have:((p+j:Nat):Int)=(p:Int)+j:=e9;rw[<-this];rfl);have ht2:IntKind.i64.wrap (z:Int)=z:=i_ _ e9;have KQ:((y.c_:Int)==0)=false:=yd;have KR:¬(y.c_:Int)=0:=e9;have KS:¬y.c_=0:=e9;have s1:=eH ((p:Int)+n);have s2:=eH ((p:Int)+j+1);have s3:IntKind.i64.wrap ((c:Int)+1-1)=c:=(by rw[show (c:Int)+1-1=c from e9];exact i_ _ e9);have g1:decide ((p:Int)+j<(p:Int)+n)=true:=kr;have g2:(p:Int)+j<(p:Int)+n:=e9;have r0:wr.cell? ⟨cb,0,none⟩=some (.pointer (some ⟨m,0,none⟩)):=an hD.has.tail.right.head 0 _ rfl;have r14:wr.cell? ⟨cb,14,none⟩=some (.map (some wb)):=an hD.has.tail.right.head 14 _ rfl;obtain⟨e0,-,e2,-⟩:=ft hD.has.head;have zm:=a_ (lG hM hD.has.tail.left);have L1:=IZ.look (w:=wr) (b:=wb) (f:=(z:Int)) (t:=132) (e:=3) ol (oL wr) hD.has.tail.right.tail.tail.head (by unfold Ds;omega);rw[KU] at L1;have zT:((c+1:Nat):Int)=(c:Int)+1:=e9;rw[zT] at L1;have Kg:=hD.perm (R':=(wb,ow)::((pk,.cells #[p,to,n] 303 (0,0))::(bI++((cb,.cells #[.pointer (some ⟨m,0,none⟩),.int .i64 y.c.cq,.int .i64 y.c.top,.int .i64 y.c.to,.int .i64 y.c.aT,.int .i64 y.c.block,.int .i64 y.c.aL,.int .i64 y.c.aE,
   .pointer (some ⟨pb,0,none⟩),.pointer (some ⟨ob,0,none⟩),.slice (some ⟨vb,0,none⟩) y.nb y.nb,.int .i64 l,.int .i64 f,.int .i64 a0,.map (some wb),.map (some sb)] 219 (0,0))::(vb,.cells (aK mv y.nb).toArray 4 (0,0))::(sb,os)::(Rp++Ro))))) aF
  obtain⟨w2,EW,hrun,EG,oN⟩:=IZ.uc (f:=(z:Int)) (t:=132) (e:=3) (K:=(pk,.cells #[p,to,n] 303 (0,0))::(bI++((cb,.cells #[.pointer (some ⟨m,0,none⟩),.int .i64 y.c.cq,.int .i64 y.c.top,.int .i64 y.c.to,.int .i64 y.c.aT,.int .i64 y.c.block,.int .i64 y.c.aL,.int .i64 y.c.aE,.pointer (some ⟨pb,0,none⟩),.pointer (some ⟨ob,0,none⟩),.slice (some ⟨vb,0,none⟩) y.nb y.nb,.int .i64 l,.int .i64 f,.int .i64 a0,.map (some wb),.map (some sb)] 219 (0,0))::(vb,.cells (aK mv y.nb).toArray 4 (0,0))::(sb,os)::(Rp++Ro)))) (by unfold maxLen;omega) ol Kg (by unfold Ds;omega) (.int .i64 c)
  have L2:=EG.look (w:=w2) (b:=wb) (f:=(z:Int)) (t:=132) (e:=3) ol (oL w2) oN.has.head (by unfold Ds;omega);rw[b9 rfl] at L2;simp only[Sa] at L2;have q0:w2.cell? ⟨cb,0,none⟩=some (.pointer (some ⟨m,0,none⟩)):=an oN.has.tail.tail.right.head 0 _ rfl;have q14:w2.cell? ⟨cb,14,none⟩=some (.map (some wb)):=an oN.has.tail.tail.right.head 14 _ rfl;have Ax:=a_ hM;have HV:=a_ EG;have gq:=a_ oN;have HU2:=a_ (oE (w:=w2) hM oN.at_.tail.tail.left (z:Int));have HA:=a_ (show nw+1+aG (bq U i (j+1)) y.aq<=4000000 from e9);have HB:=a_ (show ∀q:Nat,q<=y.d_->((λg:Int=>if g=(z:Int) then some (Value.int .i64 (c:Nat)) else mw g) (q:Nat)).getD (.int .i64 0)=.int .i64 (y.cw (bq U i (j+1)) q:Nat) from λq hq=>by show (if (q:Int)=(z:Int) then some (Value.int .i64 (c:Nat)) else mw q).getD (.int .i64 0)=_;by_cases e:q=z;subst e;rw[b9 rfl,hc];rfl;rw[cG,FJ q hq,hC q,b_ e,sc]);have GZ:=a_ hdr;clear hM hD IZ Td FJ KU EG oN Qa hC Gj hdr zT hc;by_cases ks:c=0
  .have g3:((c:Int)==0)=true:=yd
   have jz:=a_ ks;clear ks;go_wp2_with (first|(go_at_call 169;refine zm.kq ?_;rintro w3 rfl)|(go_at_call 170;refine HU2.kq ?_;rintro w4 ⟨MW,m4,d4⟩;have M4:=a_ m4;have D4:=a_ ((gq.perm (R':=bI++((wb,EW)::(pk,.cells #[p,to,n] 303 (0,0))::(cb,.cells #[.pointer (some ⟨m,0,none⟩),.int .i64 y.c.cq,.int .i64 y.c.top,.int .i64 y.c.to,.int .i64 y.c.aT,.int .i64 y.c.block,.int .i64 y.c.aL,.int .i64 y.c.aE,
   .pointer (some ⟨pb,0,none⟩),.pointer (some ⟨ob,0,none⟩),.slice (some ⟨vb,0,none⟩) y.nb y.nb,.int .i64 l,.int .i64 f,.int .i64 a0,.map (some wb),.map (some sb)] 219 (0,0))::(vb,.cells (aK mv y.nb).toArray 4 (0,0))::(sb,os)::(Rp++Ro))) aF).step d4);clear m4 d4))
   go_roundw;exact⟨j+1,nw+1,_,EW,MW,by go_num,hlt,by rw[GZ.out,b9 jz.out];exact M4,HV,HA,HB,D4.perm aF⟩;simp[intOf];omega
  have g3:((c:Int)==0)=false:=yd;have g4:¬(c:Int)=0:=e9;go_wp2_with (go_at_call 169;refine zm.kq ?_;rintro w3 rfl);go_roundw;exact⟨j+1,nw+1,_,EW,bI,by go_num,hlt,by rw[GZ.out,b_ ks];exact Ax,HV,HA,HB,gq.perm aF⟩;simp[intOf];omega
 obtain rfl:j=n:=e9;have HD:=a_ hD;obtain⟨e0,-,e2,-⟩:=ft hD.has.head;have s1:=eH ((p:Int)+j);have HE:=a_ (HCY j nw mw ow IZ Td FJ);have Ax:=a_ hM;clear hD hM IZ Td FJ;go_wp2;go_end0;exact⟨rfl,bI,_,Ax,HE,HD.tail⟩
end
section
variable {E:Nat->Nat}{N aa i t j:Nat}{l:List Pc}
def pP:∀ {l:List Pc} {j:Nat} (h:j<l.length),(gi l)[j*3]?=some (.int .i64 l[j].f)/\(gi l)[j*3+1]?=some (.int .i64 l[j].a)/\(gi l)[j*3+2]?=some (.int .i64 l[j].n)
 |p::l,0,_=>⟨rfl,rfl,rfl⟩
 |p::l,j+1,h=>by have ih:=pP (l:=l) (j:=j) (by simpa using h);have e:(j+1)*3=j*3+1+1+1:=e9;rw[e];show (_::_::_::gi l)[j*3+1+1+1]?=_/\(_::_::_::gi l)[j*3+1+1+1+1]?=_/\(_::_::_::gi l)[j*3+1+1+1+2]?=_;have e2:j*3+1+1+1+1=(j*3+1)+1+1+1:=e9;have e3:j*3+1+1+1+2=(j*3+2)+1+1+1:=e9;rw[e2,e3];simp only[ac6,ag8];exact ih
def kq.next (h:kq E N aa i (l.drop j) t) (hj:j<l.length):l[j].a=aa+i/\1<=l[j].n/\(∀d,d<l[j].n->vD E N (i+d)=l[j].f+d)/\kq E N aa (i+l[j].n) (l.drop (j+1)) t:=by rw[VD hj] at h;exact h
def kq.oz:∀ {l:List Pc} {i t:Nat},kq E N aa i l t->i<=t
 |[],i,t,h=>by obtain rfl:i=t:=h;exact bi _
 |p::l,i,t,h=>by have:=kq.oz h.2.2.2;omega
end
section
variable {cb m l f a0 t:Nat}{y:aJ}{mv U U':Nat->Bool}{R Rm Rc:BL}{v:VS}{w w':World}
def lQ.same (h:lQ cb m y mv U l f a0 R) (hu:∀r,r<y.aq->U r=U' r):lQ cb m y mv U' l f a0 R:=by
 obtain⟨pb,ob,vb,wb,sb,nw,mw,ow,ns,ms,os,Rp,Ro,hR,hp,ho,⟨h1,h2,h3⟩,h4⟩:=h;refine⟨pb,ob,vb,wb,sb,nw,mw,ow,ns,ms,os,Rp,Ro,hR,hp,ho,⟨h1,?_,λq hq=>?_⟩,h4⟩;rw[<-cB hu];exact h2;rw[h3 q hq];have:y.cw U q=y.cw U' q:=cB λr hr=>by rw[hu r hr]
 rw[this]
def un_set {k:Nat} (hb:1<=y.c.block) (hk:k<y.nb):∀r,r<y.aq->bq (y.un mv) (y.lo k) (y.len k) r=y.un (bj mv k) r:=λr hr=>by
 have hlt:k*y.c.block<y.aq:=(fU hb).1 hk;have e:r/y.c.block=k↔k*y.c.block<=r/\r<k*y.c.block+y.c.block:=by rw[ae9 e9];omega
 unfold bq aJ.un aJ.lo aJ.len;rw[GT];simp only[lw,ab0,DH,Do,fC];constructor;rintro⟨h1,h2⟩;exact⟨λq=>by have:=e.1 q;omega,h1⟩;rintro⟨h1,h2⟩;refine⟨h2,?_⟩;rcases ip r (k*y.c.block) with q|q;left;omega;right;intro q2;exact h1 (e.2 ⟨q,e9⟩)
def zQ (y:aJ) (mv:Nat->Bool):y.fr mv<=aG mv y.nb:=by
 obtain⟨h1,h2,h3⟩:=iy y mv;have e:aG mv (y.fr mv)=y.fr mv:=by have:=iw (f:=mv) (a:=0) (n:=y.fr mv) λi hi=>(by rw[C'];exact h2 i hi);rw[C'] at this;rw[this];exact C' _
 have:=cT mv h1;omega
def rj (n:Nat) {z:Nat} (hz:1<=z):gY n z<=n:=by
 unfold gY;have h:(n+z-1)/z<n+1:=by rw[j_ e9,ut,WP];have:=G_ n (show 0<z by omega);omega
 omega
def move_c (k:Nat) (h:mW cb m y mv Rc) (hm:aH m y.d_ y.c_ y.e_ t v Rm) (hv:fp v) (tN:1<=y.c_) (ht:t<=999000000000000) (hk:k<y.nb) (nP:mv k=false) (hE:y.dc v k=0) (hR:At (Rm++Rc) w) (hT:ax w) (hg:aD (Rm++Rc)): WR 143 #[Wz cb,k] w Wy λw'=>∃bI zq,aH m y.d_ y.c_ y.e_ (t+y.d_/y.c_) (y.move ⟨v,mv⟩ k).v bI/\mW cb m y (bj mv k) zq/\ag (Rm++Rc) (bI++zq) w w':=by
 have hok:=h.ok;have dX:=hok.2.1.le;have hlt:k*y.c.block<y.aq:=(fU dX.1).1 hk;have Cv:y.aq<=y.d_:=eE _ _;have oP:=hok.2.2.1;have oO:=hok.2.2.2.2;have HB:=a_ (show ∀i,i<y.aq->y.bw i<1048577 from λi hi=>by have:=fy y hi;omega);unfold mW at h;have HH:=a_ h;have zo:=a_ (λR1 W (d:ag (Rm++Rc) R1 w W)=>d.tz hT hg);have FX:=a_ (λR1 W (d:ag (Rm++Rc) R1 w W)=>d.cK hT hg);have GV:=a_ (λp i n V t1 Lw W (hm:aH m y.d_ y.c_ y.e_ t1 V Lw) (hV:fp V) (hR:At (Lw++Rc) W) (hT:ax W) (hg:aD (Lw++Rc)) h1 h2 h3=>copy_c (w:=W) p i n h hm hV hR hT hg h1 h2 h3);have QV:=a_ (λV (hV:fp V) d=>fp.cp y hV (aJ.oA h) (y.lo k) d);obtain⟨pb,ob,vb,wb,sb,nw,mw,ow,ns,ms,os,Rp,Ro,rfl,kj,ho,Wd,zx⟩:=h;have Lt:=a_ (λW (hR:At Rp W)=>sY (w:=W) k kj hR hk);have PE:=a_ (λW (hR:At Rp W) (hT:ax W)=>ppieces_any (w:=W) k kj hR hT hk);have RC:=a_ (λW (hR:At Rm W)=>(show WR 165 #[Wz m,(y.c.to+k*y.c.block:Nat),(y.c.to+min (k*y.c.block+y.c.block) y.aq:Nat)] W Wy λw'=>∃R',aH m y.d_ y.c_ y.e_ (t+y.d_/y.c_) (y.bH v k) R'/\ag Rm R' W w' from by have h1:=rk (w:=W) hm hR ht (y.c.to+k*y.c.block:Nat) (y.c.to+min (k*y.c.block+y.c.block) y.aq:Nat);rw[show Go.Proofs.YtmdgfpeglgpiiaaGreatDoor.dc y.d_ y.c_ y.e_ v ((y.c.to+k*y.c.block:Nat):Int) ((y.c.to+min (k*y.c.block+y.c.block) y.aq:Nat):Int)=0 from hE] at h1;exact h1));have TQ:=a_ (show fp (y.bH v k) from fp.need hv _ _);have D0:=a_ (ag.refl hR);have Cd:=a_ hR;clear kj ho Wd zx hm hR hT hg hv;generalize NJ:((cb,Obj.cells #[.pointer (some ⟨m,0,none⟩),.int .i64 y.c.cq,.int .i64 y.c.top,.int .i64 y.c.to,.int .i64 y.c.aT,.int .i64 y.c.block,.int .i64 y.c.aL,.int .i64 y.c.aE,.pointer (some ⟨pb,0,none⟩),.pointer (some ⟨ob,0,none⟩),.slice (some ⟨vb,0,none⟩) y.nb y.nb,.int .i64 (y.nb-aG mv y.nb:Nat),.int .i64 (y.fr mv),.int .i64 (y.ah mv),.map (some wb),.map (some sb)] 219 (0,0)):: (vb,Obj.cells (aK mv y.nb).toArray 4 (0,0))::(wb,ow)::(sb,os)::(Rp++Ro))=Rc at *;have RG:=a_ NJ;clear NJ;have jz:=a_ (λW (h:At Rc W)=>(show W.cell? ⟨cb,0,none⟩=some (.pointer (some ⟨m,0,none⟩))/\W.cell? ⟨cb,8,none⟩=some (.pointer (some ⟨pb,0,none⟩))/\At Rp W from by rw[<-RG.out] at h;exact⟨an h.1.head 0 _ rfl,an h.1.head 8 _ rfl,h.tail.tail.tail.tail.left⟩));have FY:=a_ (Lt w (jz w Cd.right).2.2);obtain⟨c0,c8,-⟩:=jz w Cd.right;obtain⟨lo,hlo⟩:=kw (k*y.c.block);obtain⟨hi,xY⟩:=kw (min (k*y.c.block+y.c.block) y.aq);have hlen:y.len k=hi-lo:=by unfold aJ.len;rw[xY,hlo]
 have GJ:y.lo k=lo:=hlo;have hlh:lo<hi/\hi<=y.aq:=by rw[<-xY,<-hlo];omega
 have FW:=a_ (show (y.move ⟨v,mv⟩ k).v=y.dr (y.un mv) (y.cp (y.bH v k) lo (hi-lo)) lo (hi-lo) from by unfold aJ.move;rw[GJ,hlen]);have Ul:=a_ (show ∀r,r<y.aq->bq (y.un mv) lo (hi-lo) r=y.un (bj mv k) r from by have:=un_set (mv:=mv) dX.1 hk;rw[GJ,hlen] at this;exact this);rw[GJ] at QV;have Of:bB y.E y.d_=y.aq:=rfl;rw[Of] at PE FY;clear Of;rw[xY] at PE FY RC;rw[hlo] at PE FY RC;have HU:=a_ (show ∀r,lo<=r->r<hi->y.un mv r=true from λr r1 r2=>by have e:r/y.c.block=k:=(by rw[ae9 e9];omega);unfold aJ.un;rw[e,nP];rfl);clear xY hlo GJ hlen hE Lt hlt;have Hmk:=a_ nP;clear nP;go_enter func143,ntmps143;go_wp2_with (first| (go_at_call 224;refine FY.kg D0.grow λw1 D1=>?_;clear c0 c8;obtain⟨c0,c8,-⟩:=jz w1 D1.at_.right;have Mw:=a_ (RC w1 D1.at_.left))| (go_at_call 165;refine Mw.kq ?_;rintro w2 ⟨JN,m2,d2⟩;have M2:=a_ m2;have D2:=a_ (D1.step d2);clear m2 d2 c0 c8;obtain⟨c0,c8,UN⟩:=jz w2 D2.at_.right;have Mz:=a_ (PE w2 UN (zo _ _ D2));clear UN)| (go_at_call 225;refine Mz.mono ?_;rintro e w3 ⟨L,al,cap,rfl,hL,Rq,r3,d3⟩;have R3:=a_ r3;have HL:=a_ hL;have D3:=a_ (D2.bh d3);clear r3 d3 hL c0 c8));have hLl:=HL.le;have hL0:0<L.length:=by rcases x' L.length with q|q;have hl:=HL.out;rw[M' q] at hl;have:lo=hi:=hl;omega;exact q
 obtain⟨rb,rfl,hcap,hcell⟩:=R3.cellAt e9;have Li:=a_ hcell;clear hcell hcap;generalize hV0:y.bH v k=V at *;clear hV0;go_loopw [46] (λiv wr=>∃(j d:Nat) (bI:BL),iv=.int .i64 j/\j<=L.length/\lo+d<=hi/\kq y.E y.d_ y.c.to (lo+d) (L.drop j) hi/\aH m y.d_ y.c_ y.e_ (t+y.d_/y.c_) (y.cp V lo d) bI/\ag (Rm++Rc) (Rq++(bI++Rc)) w wr) (λiv _=>L.length-(intOf iv).toNat);exact⟨0,0,JN,rfl,lc _,e9,HL,M2,D3⟩;clear D3 M2 D2 D1 D0 Mz Mw;obtain⟨j,d,bI,rfl,hj,hd,Gz,hM,hD⟩:=hrel;by_cases hlt:j<L.length
 .obtain⟨h1,h2,h3,h4⟩:=Gz.next hlt;obtain⟨q1,q2,q3⟩:=pP hlt;rw[h1] at q2;have h5:=h4.oz;generalize L[j].f=pf at *;generalize L[j].n=pn at *;have e1:=Li wr _ _ hD.has.left q1;have e2:=Li wr _ _ hD.has.left q2;have e3:=Li wr _ _ hD.has.left q3;have s4:=eH ((j:Int)+1);have D4:=a_ (hD.box #[pf,(y.c.to+(lo+d):Nat),pn] 303);have LY:pf<=1048576:=(by have:=h3 0 e9;have hb:=HB (lo+d+0) e9;unfold aJ.bw at hb;omega);have Aw:=a_ (GV pf (lo+d) pn (y.cp V lo d) _ bI _ hM (QV V TQ d) D4.at_.tail.right (zo _ _ D4) (aD.app.1 (FX _ _ D4.tail)).2 e9 h3 LY);rw[<-DP] at Aw;have H4:=a_ h4;clear Gz hM hD q1 q2 q3 h1 h3 h4;go_wp2_with (go_at_call 226;refine Aw.kq ?_;rintro w4 ⟨MW,m4,d4⟩;have M4:=a_ m4;have D5:=a_ ((D4.tail.perm (R':=bI++(Rq++Rc)) aF).step d4);clear m4 d4);go_roundw;case rel=>exact⟨j+1,d+pn,MW,by go_num,hlt,e9,by rw[<-Nat.add_assoc];exact H4,M4,D5.perm aF⟩
  simp[intOf];omega
 obtain rfl:j=L.length:=e9;rw[ad4] at Gz;obtain rfl:lo+d=hi:=Gz;obtain⟨HM,HD⟩:=aO hM hD;have HCW:=a_ (QV V TQ d);have ed:lo+d-lo=d:=e9;rw[ed] at Ul FW;clear hM hD hj ed hd;generalize y.cp V lo d=V2 at *;go_wp2_with (fail);have GZ:=a_ (λp i n U V t1 Lw UJ W (h:lQ cb m y mv U (y.nb-aG mv y.nb) (y.fr mv) (y.ah mv) UJ) (hm:aH m y.d_ y.c_ y.e_ t1 V Lw) (hR:At (Lw++UJ) W) h1 h2 h3 h4 to=>drain_c (w:=W) p i n h hm tN hR h1 h2 h3 h4 to);go_loopw [56] (λiv wr=>∃(j dd:Nat) (bI zq:BL),iv=.int .i64 j/\j<=L.length/\lo+dd<=lo+d/\kq y.E y.d_ y.c.to (lo+dd) (L.drop j) (lo+d)/\aH m y.d_ y.c_ y.e_ (t+y.d_/y.c_) (y.dr (y.un mv) V2 lo dd) bI/\lQ cb m y mv (bq (y.un mv) lo dd) (y.nb-aG mv y.nb) (y.fr mv) (y.ah mv) zq/\ag (Rm++Rc) (Rq++(bI++zq)) w wr) (λiv _=>L.length-(intOf iv).toNat);exact⟨0,0,bI,Rc,rfl,lc _,e9,HL,HM,by rw[sG];exact HH,HD⟩;clear HM HD bI GV;obtain⟨j,dd,bI,zq,rfl,hj,hd,Gz,hM,hC,hD⟩:=hrel;by_cases hlt:j<L.length
 .obtain⟨h1,h2,h3,h4⟩:=Gz.next hlt;obtain⟨q1,q2,q3⟩:=pP hlt;rw[h1] at q2;have h5:=h4.oz;generalize L[j].f=pf at *;generalize L[j].n=pn at *;have e1:=Li wr _ _ hD.has.left q1;have e2:=Li wr _ _ hD.has.left q2;have e3:=Li wr _ _ hD.has.left q3;have s4:=eH ((j:Int)+1);have D4:=a_ (hD.box #[pf,(y.c.to+(lo+dd):Nat),pn] 303);have LY:pf<=1048576:=(by have:=h3 0 e9;have hb:=HB (lo+dd+0) e9;unfold aJ.bw at hb;omega);have Aw:=a_ (GZ pf (lo+dd) pn _ _ _ bI zq _ hC hM D4.at_.tail.right e9 h3 LY (λd' Vu=>by unfold bq;rw[HU.out (lo+dd+d') e9 e9,show decide (lo+dd+d'<lo+dd)=false from dP];simp) ((y.c.to+(lo+dd):Nat)));rw[<-DX,uJ] at Aw;have H4:=a_ h4;clear Gz hM hD q1 q2 q3 h1 h3 h4 hC;go_wp2_with (go_at_call 227;refine Aw.mono ?_;rintro e' w4 ⟨rfl,MW,Rc4,m4,c4,d4⟩;have M4:=a_ m4;have C4:=a_ c4;have D5:=a_ ((D4.tail.perm (R':=(bI++zq)++Rq) aF).step d4);clear m4 d4 c4);go_roundw;case rel=>refine⟨_,_,_,_,_,_,_,_,_,?_,rfl⟩;exact⟨j+1,dd+pn,MW,Rc4,by go_num,hlt,e9,by rw[<-Nat.add_assoc];exact H4,M4,C4,D5.perm aF⟩
  simp[intOf];omega
 obtain rfl:j=L.length:=e9;rw[ad4] at Gz;have hed:lo+dd=lo+d:=Gz;obtain rfl:dd=d:=e9;have Gj:=hC.same Ul;have hcs:=dK y (mv:=mv) hk Hmk;have bu:=bE (bj mv k) y.nb;have nM:=iy y mv;have Gu:=iy y (bj mv k);have hfc:=zQ y mv;have NY:=zQ y (bj mv k);have hnb:y.nb<=1048576:=by unfold aJ.nb;have:=rj y.aq dX.1;omega
 have Ks:y.fr mv<=y.fr (bj mv k):=DZ y nM.1 λi hi=>cO.2 (.inr (nM.2.1 i hi));obtain⟨Jg,Jf,As,GO,Df,nw2,mw2,EW,QE,QB,BD,Ig,Ie,rfl,Ou,VO,OJ,Oi⟩:=Gj;obtain⟨lf,hlf⟩:∃lf,y.nb-aG mv y.nb=lf+1:=⟨y.nb-aG mv y.nb-1,e9⟩;have hlf2:y.nb-aG (bj mv k) y.nb=lf:=e9;have xP:y.ah mv+1+y.fr mv=aG (bj mv k) y.nb:=by unfold aJ.ah;omega
 rw[hlf] at hD;obtain⟨ah,hah2⟩:=kw (y.ah mv);obtain⟨f0,Gt⟩:=kw (y.fr mv);rw[hah2,Gt] at hD xP;rw[Gt] at Ks nM hfc;have hx:((lf+1:Nat):Int)=(lf:Int)+1:=e9;rw[hx] at hD;have hq:=hD.has.right.right.head;have IV:=hD.has.right.right.tail.head;obtain⟨-,-,-,-,-,-,-,-,-,-,dW,cC,-,rJ,-⟩:=Ij hq;have f11:=br hq 11;have f13:=br hq 13;have ck:=an IV k (.bool (mv k)) (by rw[us];exact fc mv hk);have fk:=br IV k;have CY:¬cb=As:=λe=>by have hnd:=hD.at_.right.right.2;simp only[t9,V_,ii] at hnd;exact hnd.1 (.inl e)
 have zy:¬As=cb:=λe=>CY e.symm;have s11:IntKind.i64.wrap ((lf:Int)+1-1)=lf:=by rw[show (lf:Int)+1-1=lf from e9];exact i_ _ e9
 have s13:=eH ((ah:Int)+1);have k1:(k:Int)<y.nb:=e9;have HM9:=a_ hM;have QJ:=a_ ((hD.drop.perm (R':=(As,.cells (aK mv y.nb).toArray 4 (0,0))::(bI++((cb,.cells #[.pointer (some ⟨m,0,none⟩),.int .i64 y.c.cq,.int .i64 y.c.top,.int .i64 y.c.to,.int .i64 y.c.aT,.int .i64 y.c.block,.int .i64 y.c.aL,.int .i64 y.c.aE,.pointer (some ⟨Jg,0,none⟩),.pointer (some ⟨Jf,0,none⟩),.slice (some ⟨As,0,none⟩) y.nb y.nb,.int .i64 ((lf:Int)+1),.int .i64 f0,.int .i64 ah,.map (some GO),.map (some Df)] 219 (0,0))::(GO,EW)::(Df,BD)::(Ig++Ie)))) aF).set k (.bool true));have Vn:((aK mv y.nb).toArray.setIfInBounds k (.bool true))=(aK (bj mv k) y.nb).toArray:=by rw[q_,boolcells_set]
 rw[Vn] at QJ;have Pp:=a_ (((QJ.perm (R':=(cb,.cells #[.pointer (some ⟨m,0,none⟩),.int .i64 y.c.cq,.int .i64 y.c.top,.int .i64 y.c.to,.int .i64 y.c.aT,.int .i64 y.c.block,.int .i64 y.c.aL,.int .i64 y.c.aE,.pointer (some ⟨Jg,0,none⟩),.pointer (some ⟨Jf,0,none⟩),.slice (some ⟨As,0,none⟩) y.nb y.nb,.int .i64 ((lf:Int)+1),.int .i64 f0,.int .i64 ah,.map (some GO),.map (some Df)] 219 (0,0))::((As,.cells (aK (bj mv k) y.nb).toArray 4 (0,0))::(bI++((GO,EW)::(Df,BD)::(Ig++Ie))))) aF).set 11 lf).set 13 ((ah:Int)+1:Int));simp only[ma] at Pp;have jC:=a_ (show ∀W f a,f=y.fr (bj mv k)->a=y.ah (bj mv k)->ag (Rm++Rc) ((cb,.cells #[.pointer (some ⟨m,0,none⟩),.int .i64 y.c.cq,.int .i64 y.c.top,.int .i64 y.c.to,.int .i64 y.c.aT,.int .i64 y.c.block,.int .i64 y.c.aL,.int .i64 y.c.aE,.pointer (some ⟨Jg,0,none⟩),.pointer (some ⟨Jf,0,none⟩),.slice (some ⟨As,0,none⟩) y.nb y.nb,.int .i64 lf,.int .i64 (f:Nat),.int .i64 (a:Nat),.map (some GO),.map (some Df)] 219 (0,0))::((As,.cells (aK (bj mv k) y.nb).toArray 4 (0,0))::(bI++((GO,EW)::(Df,BD)::(Ig++Ie))))) w W->∃bI zq,aH m y.d_ y.c_ y.e_ (t+y.d_/y.c_) (y.move ⟨v,mv⟩ k).v bI/\mW cb m y (bj mv k) zq/\ag (Rm++Rc) (bI++zq) w W from λW f a e1 e2 d=>by subst e1;subst e2;refine⟨bI,_,by rw[FW.out];exact hM,⟨Jg,Jf,As,GO,Df,nw2,mw2,EW,QE,QB,BD,Ig,Ie,rfl,Ou,VO,OJ,Oi⟩,?_⟩;rw[hlf2];exact d.perm aF);clear hq IV hM hD Ou VO OJ Oi QJ Vn hx;go_wp2_with (fail);have jl:((ah:Int)+1)=((ah+1:Nat):Int):=e9;clear dW cC rJ f11 f13 ck fk;generalize ((wr.setCell ⟨As,k,none⟩ (.bool true)).setCell ⟨cb,11,none⟩ (.int .i64 lf)).setCell ⟨cb,13,none⟩ (.int .i64 ((ah:Int)+1))=w5 at *;rw[jl] at Pp;clear jl;obtain⟨F,hF⟩:=kw (y.fr (bj mv k));obtain⟨C,hC⟩:=kw (aG (bj mv k) y.nb);rw[hF] at Gu Ks NY;rw[hC] at xP NY bu;have Lk:=a_ (i9 hF hC);have mT:=a_ Gu;have Kh:=Gu.1;clear hF hC nM Gu hcs;go_loopw [] (λwr=>∃fi ai:Nat,fi<=F/\ai+fi=C/\ag (Rm++Rc) ((cb,.cells #[.pointer (some ⟨m,0,none⟩),.int .i64 y.c.cq,.int .i64 y.c.top,.int .i64 y.c.to,.int .i64 y.c.aT,.int .i64 y.c.block,.int .i64 y.c.aL,.int .i64 y.c.aE,.pointer (some ⟨Jg,0,none⟩),.pointer (some ⟨Jf,0,none⟩),.slice (some ⟨As,0,none⟩) y.nb y.nb,.int .i64 lf,.int .i64 fi,.int .i64 ai,.map (some GO),.map (some Df)] 219 (0,0))::((As,.cells (aK (bj mv k) y.nb).toArray 4 (0,0))::(bI++((GO,EW)::(Df,BD)::(Ig++Ie))))) w wr) (λwr=>y.nb-(match wr.cell? ⟨cb,12,none⟩ with|some q=>(intOf q).toNat|none=>0));exact⟨f0,ah+1,e9,e9,Pp⟩;clear Pp;obtain⟨fi,ai,uA,hai,hD⟩:=hrel;have Mj:=a_ hD;have hq:=hD.has.head;have IV:=hD.has.tail.head;obtain⟨-,-,-,-,-,-,-,-,-,-,dW,-,nk,-⟩:=Ii hq;have g9:(fi:Int)<=1048576:=e9;by_cases hlt:fi<y.nb
 .have cv:=an IV fi (.bool (bj mv k fi)) (by rw[us];exact fc _ hlt);have g1:decide ((fi:Int)<y.nb)=true:=kr;have g2:(fi:Int)<y.nb:=e9;by_cases gR:fi<F
  .have hb:=mT.2.1 fi gR;rw[hb] at cv;obtain⟨a1,rfl⟩:∃a1,ai=a1+1:=⟨ai-1,e9⟩;have hx:((a1+1:Nat):Int)=(a1:Int)+1:=e9;rw[hx] at Mj;have s12:=eH ((fi:Int)+1);have s13:IntKind.i64.wrap ((a1:Int)+1-1)=a1:=(by rw[show (a1:Int)+1-1=a1 from e9];exact i_ _ e9);clear hb hD hq IV hx;go_wp2_with (fail);go_quiet (fail);have Tv:=a_ (Mj.grow (fM nq wr));clear dW nk cv;generalize wr.drewN nq=w6 at *;have hq:=Tv.has.head;obtain⟨-,-,-,-,-,-,-,-,-,-,-,-,nk,rJ,-⟩:=Ij hq;have f12:=br hq 12;have f13:=br hq 13;clear hq;have QK:=a_ ((Tv.set 12 ((fi:Int)+1:Int)).set 13 a1);simp only[ma] at QK;go_wp2;go_roundw;refine⟨fi+1,a1,gR,e9,?_⟩;have Th:((fi+1:Nat):Int)=(fi:Int)+1:=e9;rw[Th];exact QK;have e1:=an QK.has.head 12 (.int .i64 ((fi:Int)+1)) rfl;have e0:=an Mj.has.head 12 (.int .i64 fi) rfl;rw[e1,e0];simp[intOf];omega
  obtain rfl:fi=F:=e9;have hb:=mT.2.2 hlt;rw[hb] at cv;clear hb hD hq IV;go_wp2_with (fail);go_quiet (fail);go_wp2;go_ret;exact⟨rfl,jC _ _ _ Lk.1.symm (by unfold aJ.ah;rw[Lk.out.1,Lk.out.2];omega) (Mj.grow (fM nq wr))⟩
 have g1:decide ((fi:Int)<y.nb)=false:=dP;have g2:¬(fi:Int)<y.nb:=e9;clear hD hq IV;go_wp2_with (fail);go_quiet (fail);go_wp2;go_ret;exact⟨rfl,jC _ _ _ (by rw[Lk.out.1];omega) (by unfold aJ.ah;rw[Lk.out.1,Lk.out.2];omega) (Mj.grow (fM nq wr))⟩
end
structure Av (cb m:Nat) (y:aJ) (mv:Nat->Bool) (pb ob vb sb:Nat) (w:World):Prop where
 c0:w.cell? ⟨cb,0,none⟩=some (.pointer (some ⟨m,0,none⟩))
 c7:w.cell? ⟨cb,7,none⟩=some (.int .i64 y.c.aE)
 c8:w.cell? ⟨cb,8,none⟩=some (.pointer (some ⟨pb,0,none⟩))
 c9:w.cell? ⟨cb,9,none⟩=some (.pointer (some ⟨ob,0,none⟩))
 dW:w.cell? ⟨cb,10,none⟩=some (.slice (some ⟨vb,0,none⟩) y.nb y.nb)
 cC:w.cell? ⟨cb,11,none⟩=some (.int .i64 (y.nb-aG mv y.nb:Nat))
 nk:w.cell? ⟨cb,12,none⟩=some (.int .i64 (y.fr mv:Nat))
 rJ:w.cell? ⟨cb,13,none⟩=some (.int .i64 (y.ah mv:Nat))
 PL:w.cell? ⟨cb,15,none⟩=some (.map (some sb))
 row:∀k,k<y.nb->w.cell? ⟨vb,k,none⟩=some (.bool (mv k))
def iM (cb m:Nat) (y:aJ) (g0:Nat->Nat) (top T0:Nat) (s:ml) (R:BL):Prop:=∃t Rm Rc,R=Rm++Rc/\aH m y.d_ y.c_ y.e_ t s.v Rm/\t<=T0+aG s.mv y.nb*(y.d_/y.c_)/\mW cb m y s.mv Rc/\y.Good g0 top s/\fp s.v
section
variable {cb m top T0:Nat}{y:aJ}{g0:Nat->Nat}{mv:Nat->Bool}{s:ml}{R:BL}{w w':World}
def mW.cells (h:mW cb m y mv R) (hR:At R w):∃pb ob vb sb Rp Ro ns ms os,Av cb m y mv pb ob vb sb w/\fK pb y.d_ y.c.block y.E y.c.to Rp/\At Rp w/\dg ob y.d_ y.E Ro/\Has Ro w/\VM ns ms os/\w.heap[sb]?=some os/\∀s,y.E s≠0->ms (s:Nat)=some (Hd.hv (Hd.tp (y.g s)) (Hd.tf (y.g s)) (Hd.to (y.g s))):=by obtain⟨pb,ob,vb,wb,sb,nw,mw,ow,ns,ms,os,Rp,Ro,rfl,kj,ho,-,zx,lU⟩:=h;have q:=hR.1.head;have qv:=hR.1.tail.head;refine⟨pb,ob,vb,sb,Rp,Ro,ns,ms,os,⟨an q 0 _ rfl,an q 7 _ rfl,an q 8 _ rfl,an q 9 _ rfl,an q 10 _ rfl,an q 11 _ rfl,an q 12 _ rfl,an q 13 _ rfl,an q 15 _ rfl,λk hk=>an qv k _ (by rw[us];exact fc _ hk)⟩,kj,hR.tail.tail.tail.tail.left,ho,hR.1.tail.tail.tail.tail.right,zx,hR.1.tail.tail.tail.head,lU⟩
def aJ.nb_small (y:aJ) (hb:1<=y.c.block) (hw:y.d_<=1048576):y.nb<=1048576:=by have h1:y.nb<=y.aq:=rj y.aq hb;have h2:y.aq<=y.d_:=eE _ _;omega
def iM.jn (h:iM cb m y g0 top T0 s R):y.nb<=1048576/\y.d_<=1048576/\y.c.to<2147483648:=by obtain⟨t,Rm,Rc,-,hm,ht,hc,hg,hw⟩:=h;have hok:=lQ.ok hc;exact⟨y.nb_small hok.2.1.le.1 hok.2.2.1,hok.2.2.1,hok.2.2.2.2⟩
def EK (h:iM cb m y g0 top T0 s R) (hR:At R w):WR 80 #[Wz cb] w (y.nb-aG s.mv y.nb:Nat) λw'=>w=w':=by obtain⟨t,Rm,Rc,rfl,hm,ht,hc,hg,hw⟩:=h;obtain⟨pb,ob,vb,sb,Rp,Ro,ns,ms,os,hx,-⟩:=hc.cells hR.right;have cC:=hx.cC;clear hm hc hg hw hx hR;generalize y.nb-aG s.mv y.nb=l at *;go_enter func80,ntmps80;go_wp2;go_ret;exact⟨rfl,rfl⟩
def xt (h:iM cb m y g0 top T0 s R) (hR:At R w):WR 81 #[Wz cb] w (y.nb:Nat) λw'=>w=w':=by obtain⟨t,Rm,Rc,rfl,hm,ht,hc,hg,hw⟩:=h;obtain⟨pb,ob,vb,sb,Rp,Ro,ns,ms,os,hx,-⟩:=hc.cells hR.right;have dW:=hx.dW;clear hm hc hg hw hx hR ht;generalize y.nb=l at *;go_enter func81,ntmps81;go_wp2;go_ret;exact⟨rfl,rfl⟩
def top_x (h:iM cb m y g0 top T0 s R) (hR:At R w):WR 134 #[Wz cb] w (y.c.to+y.aq:Nat) λw'=>Below w.heap.size w w':=by obtain⟨t,Rm,Rc,rfl,hm,ht,hc,hg,hw⟩:=h;obtain⟨pb,ob,vb,sb,Rp,Ro,ns,ms,os,hx,kj,sd,-⟩:=hc.cells hR.right;have c8:=hx.c8;obtain⟨fb,Rf,hf,-,Iz,Mq⟩:=og kj sd;have HF:=a_ Mq;have HT:=a_ (kL hf Iz);rw[show bB y.E y.d_=y.aq from rfl] at HT;clear hm hc hg hw hx hR ht kj sd hf Iz Mq;generalize y.c.to+y.aq=l at *;go_enter func134,ntmps134;go_wp2_with (first|(go_at_call 217;refine HF.kq ?_;rintro w1 rfl)|(go_at_call 174;refine HT.kh λw1 HB=>?_));go_ret;exact⟨rfl,HB⟩
def done_x (h:iM cb m y g0 top T0 s R) (hR:At R w):WR 136 #[Wz cb] w (.bool (decide (aG s.mv y.nb=y.nb))) λw'=>w=w':=by
 have HL:=a_ (EK h hR);have hc:=bE s.mv y.nb;have ey:=h.jn;obtain⟨l,hl⟩:=kw (y.nb-aG s.mv y.nb);have hd:decide (aG s.mv y.nb=y.nb)=((l:Int)==0):=by rw[GT,l_,ag5];omega
 rw[hd];rw[hl] at HL;clear h hR hd hl hc;go_enter func136,ntmps136;go_wp2_with (go_at_call 80;refine HL.kq ?_;rintro w1 rfl);go_ret;exact⟨rfl,rfl⟩
def ER (h:iM cb m y g0 top T0 s R) (zt:T0<=900000000000000) (hR:At R w) (hT:ax w) (hg:aD R) {k:Nat} (hk:k<y.nb) (nP:s.mv k=false) (hE:y.dc s.v k=0) (ho:y.On g0 top s (y.move s k)): WR 143 #[Wz cb,k] w Wy λw'=>∃R',iM cb m y g0 top T0 (y.move s k) R'/\ag R R' w w':=by have ey:=h.jn;obtain⟨t,Rm,Rc,rfl,hm,ht,hc,hgd,hw⟩:=h;have Cw:y.d_/y.c_<=1048576:=h_ (rx _ _) ey.2.1;have bu:=bE s.mv y.nb;have hmul:aG s.mv y.nb*(y.d_/y.c_)<=1048576*1048576:=TI e9 Cw;have hcs:=dK y (mv:=s.mv) hk nP;refine (move_c k hc hm hw hgd.ok.c_ e9 hk nP hE hR hT hg).kq ?_;rintro w1 ⟨bI,zq,m1,c1,d1⟩;refine⟨rfl,_,⟨_,bI,zq,rfl,m1,?_,c1,ho.jh,fp.move y hw (hgd.ok.oz ey.2.1 ey.2.2) k⟩,d1⟩;show t+y.d_/y.c_<=T0+aG (bj s.mv k) y.nb*(y.d_/y.c_);rw[hcs,ut,WP];omega
def Fk (h:iM cb m y g0 top T0 s R) (zt:T0<=900000000000000) (hR:At R w) (hT:ax w) (hg:aD R) (hl:aG s.mv y.nb<y.nb): WR 66 #[Wz cb] w (.tuple #[true,Wy]) λw'=>∃R',iM cb m y g0 top T0 (y.move s (y.fr s.mv)) R'/\ag R R' w w':=by
 have ey:=h.jn;have nM:y.fr s.mv<y.nb:=by obtain⟨f1,f2,f3⟩:=iy y s.mv;rcases ip (y.fr s.mv) y.nb with q|q;exact q;have:=zQ y s.mv;omega
 have HM:=(show WR 143 #[Wz cb,(y.fr s.mv:Nat)] w Wy λw'=>∃R',iM cb m y g0 top T0 (y.move s (y.fr s.mv)) R'/\ag R R' w w' from by have hx:=h;obtain⟨t,Rm,Rc,-,hm,ht,hc,hgd,hw⟩:=hx;obtain⟨f1,f2⟩:=hgd.front nM;exact ER h zt hR hT hg nM ((iy y s.mv).2.2 nM) f1 f2);have Lo:=a_ HM;obtain⟨t,Rm,Rc,rfl,hm,ht,hc,hgd,hw⟩:=h;obtain⟨pb,ob,vb,sb,Rp,Ro,ns,ms,os,hx,-⟩:=hc.cells hR.right;have cC:=hx.cC;have nk:=hx.nk;have g1:(((y.nb-aG s.mv y.nb:Nat):Int)==0)=false:=yd;have g2:¬((y.nb-aG s.mv y.nb:Nat):Int)=0:=e9;clear hm hc hgd hw hx hR HM ht hT hg;generalize y.nb-aG s.mv y.nb=l at *;generalize y.fr s.mv=f at *;go_enter func66,ntmps66;go_wp2_with (go_at_call 143;refine Lo.ke λw1 R' X1 D1=>?_);go_ret2;exact⟨rfl,R',X1,D1⟩
end
section
variable {cb m top T0 a:Nat}{y:aJ}{g0:Nat->Nat}{mv:Nat->Bool}{s:ml}{R:BL}{w w':World}
def uY {k:Nat} (h:¬(y.fr s.mv<k/\y.c.aE<=y.ah s.mv)):∀n,y.push k n s=s
 |0=>rfl
 |n+1=>by rw[aJ.push,b_ h]
def iM.jh (h:iM cb m y g0 top T0 s R):y.Good g0 top s:=by obtain⟨t,Rm,Rc,-,hm,ht,hc,hgd,hw⟩:=h;exact hgd
def iM.cells (h:iM cb m y g0 top T0 s R) (hR:At R w):∃pb ob vb sb Rp Ro ns ms os,Av cb m y s.mv pb ob vb sb w/\fK pb y.d_ y.c.block y.E y.c.to Rp/\At Rp w/\dg ob y.d_ y.E Ro/\Has Ro w/\VM ns ms os/\w.heap[sb]?=some os/\∀s,y.E s≠0->ms (s:Nat)=some (Hd.hv (Hd.tp (y.g s)) (Hd.tf (y.g s)) (Hd.to (y.g s))):=by obtain⟨t,Rm,Rc,rfl,hm,ht,hc,hgd,hw⟩:=h;exact hc.cells hR.right
def touch_no (h:iM cb m y g0 top T0 s R) (hR:At R w) (hT:ax w) (hw:¬y.waits s.mv a) (ha:a<=1048576): WR 362 #[Wz cb,(a:Nat)] w Wy λw'=>Below w.heap.size w w':=by
 obtain⟨pb,ob,vb,sb,Rp,Ro,ns,ms,os,hx,kj,sd,-⟩:=h.cells hR;have ey:=h.jn;have hgd:=h.jh;have hlv:bB y.E y.d_=y.aq:=rfl;by_cases hin:y.c.to<=a/\a<y.c.to+y.aq
 .obtain⟨j,rfl⟩:∃j,a=y.c.to+j:=⟨a-y.c.to,e9⟩;have hB:=jU (w:=w) j kj sd hT (by rw[hlv];omega);have hk:j/y.c.block<y.nb:=hgd.ok.OQ e9;have lU:s.mv (j/y.c.block)=true:=by
   cases hm:s.mv (j/y.c.block) with
   |true=>rfl
   |false=>
    refine absurd ⟨e9,by rw[hlv];omega,?_⟩ hw;rw[A_];exact hm
  have hrow:=hx.row _ hk;rw[lU] at hrow;have c8:=hx.c8;have dW:=hx.dW;have k1:((j/y.c.block:Nat):Int)<y.nb:=e9;have e:((y.c.to+j:Nat):Int)=(y.c.to:Int)+j:=e9;rw[e];obtain⟨k,CX⟩:=kw (j/y.c.block);rw[CX] at hB hrow k1 hk;have HB:=a_ hB;clear h hR hT hw hx kj sd hgd hlv hin hB lU e CX;generalize y.nb=nb at *;go_enter func362,ntmps362;go_wp2_with (go_at_call 363;refine HB.kq λw1 hb=>?_;have r1:=bA hb (bi _) hrow;have r2:=bA hb (bi _) dW;have QP:=a_ hb;clear hb);go_ret;exact⟨rfl,QP⟩
 have hB:=uU (w:=w) (a:Int) kj sd (by rw[hlv];omega);have HB:=a_ hB;have c8:=hx.c8;clear h hR hT hw hx kj sd hgd hlv hin hB;go_enter func362,ntmps362;go_wp2_with (go_at_call 363;refine HB.kh λw1 QP=>?_);go_ret;exact⟨rfl,QP⟩
def BS (h:iM cb m y g0 top T0 s R) (zt:T0<=900000000000000) (hR:At R w) (hT:ax w) (hg:aD R) (ha:a<=1048576): WR 362 #[Wz cb,(a:Nat)] w Wy λw'=>∃R',iM cb m y g0 top T0 (y.bO s a) R'/\ag R R' w w':=by
 by_cases CC:y.waits s.mv a
 .have ey:=h.jn;have hgd:=h.jh;obtain⟨l1,l2⟩:=aJ.lO hgd.ok CC;have oO:=CC.1;have nP:=CC.2.2;have VZ:y.bO s a=if (y.push ((a-y.c.to)/y.c.block) y.nb s).mv ((a-y.c.to)/y.c.block)=true then y.push ((a-y.c.to)/y.c.block) y.nb s else y.move (y.push ((a-y.c.to)/y.c.block) y.nb s) ((a-y.c.to)/y.c.block):=(by unfold aJ.bO;rw[b9 CC]);rw[VZ];clear VZ CC;obtain⟨j,rfl⟩:∃j,a=y.c.to+j:=⟨a-y.c.to,e9⟩;rw[A_] at *;obtain⟨pb,ob,vb,sb,Rp,Ro,ns,ms,os,hx,kj,sd,-⟩:=h.cells hR;have hB:=jU (w:=w) j kj sd hT l1;obtain⟨k,CX⟩:=kw (j/y.c.block);rw[CX] at hB nP l2 ⊢;have hrow:=hx.row k l2;rw[nP] at hrow;have c8:=hx.c8;have dW:=hx.dW;have k1:(k:Int)<y.nb:=e9;have e:((y.c.to+j:Nat):Int)=(y.c.to:Int)+j:=e9;rw[e];obtain⟨sf,Tc⟩:=kw ((if (y.push k y.nb s).mv k=true then y.push k y.nb s else y.move (y.push k y.nb s) k));rw[Tc];have FZ:=a_ Tc;clear Tc;obtain⟨HB,HX⟩:=aO hB h;have D0:=a_ (ag.refl hR);have oS:=a_ (λs1 R1 W (h:iM cb m y g0 top T0 s1 R1) (d:ag R R1 w W) (hl:aG s1.mv y.nb<y.nb)=>Fk (w:=W) h zt d.at_ (d.tz hT hg) (d.cK hT hg) hl);have FW:=a_ (λs1 R1 W (h:iM cb m y g0 top T0 s1 R1) (d:ag R R1 w W) (hm:s1.mv k=false) (he:¬(y.fr s1.mv<k/\y.c.aE<=y.ah s1.mv))=>(show WR 143 #[Wz cb,k] W Wy λw'=>∃R',iM cb m y g0 top T0 (y.move s1 k) R'/\ag R1 R' W w' from by obtain⟨t1,t2⟩:=h.jh.turn l2 hm he;exact ER h zt d.at_ (d.tz hT hg) (d.cK hT hg) l2 hm t1 t2));have gd:=a_ (λs1 R1 W (h:iM cb m y g0 top T0 s1 R1) (d:ag R R1 w W)=>h.cells (w:=W) d.at_);clear h hR hT hg hx kj sd hB hgd nP e CX zt;go_enter func362,ntmps362;go_wp2_with (go_at_call 363;refine HB.kq λw1 hb=>?_;have r1:=bA hb (bi _) hrow;have r2:=bA hb (bi _) dW;have D1:=a_ (D0.grow hb);clear hb);clear hrow c8 dW r1 r2;go_loopw [] (λwr=>∃(n:Nat) (s1:ml) (R1:BL),y.push k n s1=y.push k y.nb s/\y.nb<=n+aG s1.mv y.nb/\iM cb m y g0 top T0 s1 R1/\ag R R1 w wr) (λwr=>match wr.cell? ⟨cb,11,none⟩ with|some q=>(intOf q).toNat|none=>0);case atStart=>exact⟨y.nb,s,R,rfl,e9,HX,D1⟩
  clear D0 D1 HX HB;obtain⟨n,s1,R1,Bh,hn,hX,hD⟩:=hrel;obtain⟨pb,ob,vb,sb,Rp,Ro,ns,ms,os,hx,-⟩:=gd s1 R1 wr hX hD;have c7:=hx.c7;have nk:=hx.nk;have rJ:=hx.rJ;obtain⟨JG,D1⟩:=aO hX hD;have SI:y.fr s1.mv<=y.nb:=(iy y s1.mv).1;have cC:=hx.cC;have Gv:=(iy y s1.mv).2.2;clear hx hX hD;by_cases hc:y.fr s1.mv<k/\y.c.aE<=y.ah s1.mv
  .have uz:aG s1.mv y.nb<y.nb:=(by have h1:=dK y (mv:=s1.mv) (k:=y.fr s1.mv) e9 (Gv e9);have h2:=bE (bj s1.mv (y.fr s1.mv)) y.nb;omega);obtain⟨n1,rfl⟩:∃n1,n=n1+1:=⟨n-1,e9⟩;rw[aJ.push,b9 hc] at Bh;have hcs:=dK y (mv:=s1.mv) (k:=y.fr s1.mv) e9 (Gv e9);have Jz:=a_ Bh;have HN:=a_ (show y.nb<=n1+aG (y.move s1 (y.fr s1.mv)).mv y.nb from by show y.nb<=n1+aG (bj s1.mv (y.fr s1.mv)) y.nb;omega);have Lm:=a_ (show y.nb-aG (y.move s1 (y.fr s1.mv)).mv y.nb<y.nb-aG s1.mv y.nb from by show y.nb-aG (bj s1.mv (y.fr s1.mv)) y.nb<_;omega);obtain⟨h1,h2⟩:=hc;have qM:=a_ (λW (d:ag R R1 w W)=>oS s1 R1 W JG d uz);have C11:=a_ cC;clear Bh hcs hn Gv uz cC;generalize y.move s1 (y.fr s1.mv)=s2 at *;generalize y.fr s1.mv=fr at *;generalize y.ah s1.mv=ah at *;have g1:decide ((fr:Int)<k)=true:=kr;have g2:decide ((y.c.aE:Int)<=ah)=true:=kr;go_wp2_with (fail);go_quiet (fail);have D2:=a_ (D1.grow (fM nq wr));clear c7 nk rJ;generalize wr.drewN nq=w2 at *;have JD:=a_ (qM w2 D2);clear h1 h2 g1 g2;go_wp2_with (go_at_call 66;refine JD.kq ?_;rintro w3 ⟨R3,x3,d3⟩;have X3:=a_ x3;have D3:=a_ (D2.trans d3);clear x3 d3);go_roundw;case rel=>exact⟨n1,s2,R3,Jz,HN,X3,D3⟩
   obtain⟨Jg,Jf,As,Df,Ig,Ie,QE,QB,BD,jl,-⟩:=gd s2 R3 w3 X3 D3;rw[jl.cC,C11.out];have:=Lm.out;simp[intOf];omega
  clear hn Gv cC;by_cases h1:y.fr s1.mv<k
  .have h2:¬y.c.aE<=y.ah s1.mv:=λq=>hc ⟨h1,q⟩;have HC:=a_ hc;obtain⟨fr,nM⟩:=kw (y.fr s1.mv);obtain⟨ah,xP⟩:=kw (y.ah s1.mv);rw[nM] at nk h1;rw[xP] at rJ h2;have g1:decide ((fr:Int)<k)=true:=kr;have g2:decide ((y.c.aE:Int)<=ah)=false:=dP;clear nM xP hc;go_wp2_with (fail);go_quiet (fail);have D2:=a_ (D1.grow (fM nq wr));clear c7 nk rJ;generalize wr.drewN nq=w2 at *;have hc:=HC.out;have Jz:=a_ (show s1=y.push k y.nb s from by rw[<-Bh];exact (uY hc n).symm);obtain⟨Jg,Jf,As,Df,Ig,Ie,QE,QB,BD,jl,-⟩:=gd s1 R1 w2 JG D2;have dW:=jl.dW;have DQ:=jl.row k l2;clear jl;cases lU:s1.mv k with
   |true=>
    rw[lU] at DQ;have HE:=a_ (show sf=s1 from by rw[<-FZ.out,<-Jz.out,b9 lU]);clear lU Bh hc;go_wp2;go_ret;exact⟨rfl,R1,by rw[HE.out];exact JG,D2⟩
   |false=>
    rw[lU] at DQ;have HE:=a_ (show sf=y.move s1 k from by rw[<-FZ.out,<-Jz.out,b_ (by rw[lU];decide)]);have xj:=a_ (FW s1 R1 w2 JG D2 lU hc);clear lU Bh hc;go_wp2_with (go_at_call 143;refine xj.kq ?_;rintro w3 ⟨R3,x3,d3⟩;have X3:=a_ x3;have D3:=a_ (D2.trans d3);clear x3 d3);go_ret;exact⟨rfl,R3,by rw[HE.out];exact X3,D3⟩
  have HC:=a_ hc;obtain⟨fr,nM⟩:=kw (y.fr s1.mv);rw[nM] at nk h1;have g1:decide ((fr:Int)<k)=false:=dP;clear nM hc;go_wp2_with (fail);go_quiet (fail);have D2:=a_ (D1.grow (fM nq wr));clear c7 nk rJ;generalize wr.drewN nq=w2 at *;have hc:=HC.out;have Jz:=a_ (show s1=y.push k y.nb s from by rw[<-Bh];exact (uY hc n).symm);obtain⟨Jg,Jf,As,Df,Ig,Ie,QE,QB,BD,jl,-⟩:=gd s1 R1 w2 JG D2;have dW:=jl.dW;have DQ:=jl.row k l2;clear jl;cases lU:s1.mv k with
  |true=>
   rw[lU] at DQ;have HE:=a_ (show sf=s1 from by rw[<-FZ.out,<-Jz.out,b9 lU]);clear lU Bh hc;go_wp2;go_ret;exact⟨rfl,R1,by rw[HE.out];exact JG,D2⟩
  |false=>
   rw[lU] at DQ;have HE:=a_ (show sf=y.move s1 k from by rw[<-FZ.out,<-Jz.out,b_ (by rw[lU];decide)]);have xj:=a_ (FW s1 R1 w2 JG D2 lU hc);clear lU Bh hc;go_wp2_with (go_at_call 143;refine xj.kq ?_;rintro w3 ⟨R3,x3,d3⟩;have X3:=a_ x3;have D3:=a_ (D2.trans d3);clear x3 d3);go_ret;exact⟨rfl,R3,by rw[HE.out];exact X3,D3⟩
 have ht:y.bO s a=s:=by unfold aJ.bO;rw[b_ CC]
 rw[ht];refine (touch_no h hR hT CC ha).kq λw1 hb=>?_;exact⟨rfl,R,h,(ag.refl hR).grow hb⟩
end
end
section
attribute [local go_sem] Oper.semAt_some
section
variable {cb m top T0 a x:Nat}{y:aJ}{g0:Nat->Nat}{mv:Nat->Bool}{s:ml}{R:BL}{w w':World}
def iM.c0 (h:iM cb m y g0 top T0 s R) (hR:At R w):w.cell? ⟨cb,0,none⟩=some (.pointer (some ⟨m,0,none⟩)):=by obtain⟨pb,ob,vb,sb,Rp,Ro,ns,ms,os,hx,-⟩:=h.cells hR;exact hx.c0
def iM.Bw (h:iM cb m y g0 top T0 s R) (hR:At R w) (a:Nat):WR 258 #[Wz m,(a:Nat)] w (.tuple #[.int .u64 (eU y.d_ y.c_ s.v a),(ga y.d_ y.c_ s.v a:Int)]) λw'=>Below w.heap.size w w':=by obtain⟨t,Rm,Rc,rfl,hm,ht,hc,hgd,hw⟩:=h;exact jN hm hR.1.left a
def iM.wordx (h:iM cb m y g0 top T0 s R) (hR:At R w) {j:Nat} (hj:j<y.aq): WR 281 #[Wz cb,(y.bw j:Nat),(qS y.E (y.bw j):Nat),.agg (El (y.g (qS y.E (y.bw j))))] w (WB (y.jx s.v j)) λw'=>Below w.heap.size w w':=by have ey:=h.jn;obtain⟨t,Rm,Rc,rfl,hm,ht,hc,hgd,hw⟩:=h;have hb:=fy y hj;have hs:=oq hb.2.1;exact Ft (y.bw j) (qS y.E (y.bw j)) hc hm hR.right hR.1.left e9 e9 (hw.load _)
def cload_x (h:iM cb m y g0 top T0 s R) (zt:T0<=900000000000000) (hR:At R w) (hT:ax w) (hg:aD R) (ha:a<=1048576) (h1:y.c.to<=a) (h2:a<y.c.aT) (h3:y.waits s.mv a\/s.v.mp (a/y.c_)=true): WR 360 #[Wz cb,(a:Nat)] w (.tuple #[WB (y.ba g0 s a),Wy]) λw'=>∃R',iM cb m y g0 top T0 (y.bO s a) R'/\ag R R' w w':=by obtain⟨l1,l2⟩:=h.jh.load h1 h2 h3;have CN:=a_ (BS h zt hR hT hg ha);have Jw:=a_ (λR1 W (h:iM cb m y g0 top T0 (y.bO s a) R1) (hR:At R1 W)=>(show WR 258 #[Wz m,(a:Nat)] W (.tuple #[WB (y.ba g0 s a),Wy]) λw'=>Below W.heap.size W w' from by have:=h.Bw hR a;rw[l1,l2] at this;exact this));have HC:=a_ (λR1 W (h:iM cb m y g0 top T0 (y.bO s a) R1) (hR:At R1 W)=>h.c0 hR);generalize y.ba g0 s a=z at *;generalize y.bO s a=s1 at *;clear h hR hT hg l1 l2 h1 h2 h3;go_enter func360,ntmps360;go_wp2_with (first|(go_at_call 362;refine CN.kq ?_;rintro w1 ⟨R1,x1,d1⟩;have c0:=HC R1 w1 x1 d1.at_;have HML1:=a_ (Jw R1 w1 x1 d1.at_);have X1:=a_ x1;have D1:=a_ d1;clear x1 d1)|(go_at_call 258;refine HML1.kg D1.grow λw2 D2=>?_));go_ret2;exact⟨rfl,R1,X1,D2⟩
def cstore_x (h:iM cb m y g0 top T0 s R) (zt:T0<=900000000000000) (hR:At R w) (hT:ax w) (hg:aD R) (ha:a<=1048576) (h1:y.c.to<=a) (h2:a<y.c.aT) (h3:y.waits s.mv a\/s.v.mp (a/y.c_)=true) (hx:x<18446744073709551616): WR 361 #[Wz cb,(a:Nat),WB x] w Wy λw'=>∃R',iM cb m y g0 top T0 ⟨fB (y.bO s a).v a x,(y.bO s a).mv⟩ R'/\ag R R' w w':=by
 have hgd:=h.jh;obtain⟨t1,t2⟩:=hgd.bO a;have hm:=((t1.ba a h1 h2 h3).2).resolve_left t2;have ey:=hgd.ok.jn;have hE:=(hgd.ok.mD (a:=a) e9 hm).1;obtain⟨g1,-,-⟩:=t1.jh.store h1 h2 t2 hm x;have e:du y.d_ y.c_ (y.bO s a).v a x=fB (y.bO s a).v a x:=by unfold du;rw[b9 hE];rfl
 rw[e] at g1;have CN:=a_ (BS h zt hR hT hg ha);have HMS:=a_ (λR1 W (h:iM cb m y g0 top T0 (y.bO s a) R1) (hR:At R1 W)=>(show WR 259 #[Wz m,(a:Nat),WB x] W Wy λw'=>∃R',iM cb m y g0 top T0 ⟨fB (y.bO s a).v a x,(y.bO s a).mv⟩ R'/\ag R1 R' W w' from by obtain⟨t,Rm,Rc,rfl,hm,ht,hc,-,hw⟩:=h;have:=la hm hR.left (a:Nat) x hx;rw[hE,e] at this;refine this.kq ?_;rintro w2 ⟨JN,m2,d2⟩;exact⟨rfl,_,⟨t,JN,Rc,rfl,m2,ht,hc,g1,hw.put a hx⟩,ag.frame hR d2⟩));have HC:=a_ (λR1 W (h:iM cb m y g0 top T0 (y.bO s a) R1) (hR:At R1 W)=>h.c0 hR);generalize (⟨fB (y.bO s a).v a x,(y.bO s a).mv⟩:ml)=s2 at *;generalize y.bO s a=s1 at *;clear h hR hT hg h1 h2 h3 t1 t2 hm hE g1 e ey hgd;go_enter func361,ntmps361;go_wp2_with (first|(go_at_call 362;refine CN.kq ?_;rintro w1 ⟨R1,x1,d1⟩;have c0:=HC R1 w1 x1 d1.at_;have HMS1:=a_ (HMS R1 w1 x1 d1.at_);have D1:=a_ d1;clear x1 d1)|(go_at_call 259;refine HMS1.kq ?_;rintro w2 ⟨R2,x2,d2⟩;have X2:=a_ x2;have D2:=a_ (D1.trans d2);clear x2 d2));go_ret;exact⟨rfl,R2,X2,D2⟩
def peek_x (h:iM cb m y g0 top T0 s R) (hR:At R w) (hT:ax w) (ha:a<=1048576) (h1:y.c.to<=a) (h2:a<y.c.aT) (h3:y.waits s.mv a\/s.v.mp (a/y.c_)=true): WR 366 #[Wz cb,(a:Nat)] w (.tuple #[WB (y.ba g0 s a),Wy]) λw'=>Below w.heap.size w w':=by
 have ey:=h.jn;have hgd:=h.jh;have hlv:bB y.E y.d_=y.aq:=rfl;obtain⟨p1,p2⟩:=hgd.EY h1 h2 h3;rw[<-p2];unfold aJ.EZ at p1;unfold aJ.EY;have ks:=h.c0 hR;have Jw:=a_ (λW (hb:Below w.heap.size w W)=>h.Bw (hR.grow hb) a);have en:=h;obtain⟨pb,ob,vb,sb,Rp,Ro,ns,ms,os,hx,kj,sd,ho,PU,zx,hos,lU⟩:=h.cells hR;have c8:=hx.c8;have dW:=hx.dW;by_cases hw:y.waits s.mv a
 .rw[b9 hw];clear p1 p2 Jw;obtain⟨b1,b2⟩:=aJ.lO hgd.ok hw;have nP:=hw.2.2;obtain⟨j,rfl⟩:∃j,a=y.c.to+j:=⟨a-y.c.to,e9⟩;rw[A_] at *;have hrow:=hx.row _ b2;rw[nP] at hrow;have c9:=hx.c9;have PL:=hx.PL;have HB:=a_ (jU (w:=w) j kj sd hT b1);obtain⟨fb,Rf,hf,-,Iz,-⟩:=og kj sd;have Px:=a_ (λW (hb:Below w.heap.size w W)=>og (w:=W) kj (sd.grow hb));have mT:=a_ (λfb Rf W (hf:gO fb y.d_ y.c.block y.E y.c.to Rf) (hR:At Rf W) (hT:ax W)=>pA (w:=W) j hf hR hT b1);have zu:=fy y b1;have VW:=oq zu.2.1;have qL:=a_ (λW (hb:Below w.heap.size w W)=>py (w:=W) (y.bw j) (qS y.E (y.bw j)) ho (PU.grow hb) (hT.grow hb) VW);have hk:((j/y.c.block:Nat):Int)<y.nb:=e9;have Un:=a_ (λW (hb:Below w.heap.size w W)=>h.wordx (w:=W) (hR.grow hb) b1);have Ve:y.E (qS y.E (y.bw j))≠0:=e9;have PB:=a_ (λW (hb:Below w.heap.size w W)=>(show (Instr.lookup 217 (.map (some sb)) (.int .i64 (qS y.E (y.bw j):Nat)) false).run prog W=.ok (.agg (El (y.g (qS y.E (y.bw j))))) W from by have:=zx.look (w:=W) (b:=sb) (f:=((qS y.E (y.bw j):Nat):Int)) (t:=217) (e:=31) ol (zk W) (cQ hb (bi _) hos) (by unfold Ds;omega);rw[lU _ Ve] at this;exact this));have hbj:y.bw j<=1048576:=e9;have hsj:qS y.E (y.bw j)<=1048576:=e9;have e:((y.c.to+j:Nat):Int)=(y.c.to:Int)+j:=e9;rw[e];have zo:=a_ (λW (hb:Below w.heap.size w W)=>hT.grow hb);obtain⟨C9,C15,C8,FO,Ud⟩:=Es c9 PL c8 dW hrow;rw[show vD y.E y.d_ j=y.bw j from rfl] at mT;obtain⟨k,CX⟩:=kw (j/y.c.block);rw[CX] at HB Ud hk hrow;unfold El at Un PB;generalize y.jx s.v j=wd at *;generalize y.E (qS y.E (y.bw j))=zz at *;generalize qS y.E (y.bw j)=ss at *;generalize y.bw j=bb at *;clear h hR hT hx kj sd ho PU zx hos lU hgd en ks hw nP CX Ve VW zu hf Iz e c9 PL hrow;go_enter func366,ntmps366;go_wp2_with (first| (go_at_call 363;refine HB.kq λw1 hb=>?_;have r1:=bA hb (bi _) Ud;have r2:=bA hb (bi _) FO;have r8:=bA hb (bi _) C8;have B1:=a_ hb;clear hb c8 dW)| (go_at_call 217;obtain⟨fb2,Rf2,Qf,-,NK,IB⟩:=Px _ B1;refine IB.kq ?_;rintro w2 rfl;have HFR1:=a_ (mT fb2 Rf2 _ Qf NK (zo _ B1));clear Qf NK IB)| (go_at_call 314;refine HFR1.kq λw3 hb=>?_;have B3:=a_ (seq B1 hb);clear hb r1 r2 r8;have r9:=bA B3 (bi _) C9;have Wr:=bA B3 (bi _) C15;have HFI3:=a_ (qL _ B3);have IL:=PB _ B3)| (go_at_call 280;refine HFI3.kq ?_;rintro w4 rfl)| (go_at_call 281;refine (Un _ B3).kq λw5 hb=>?_;have B5:=a_ (seq B3 hb);clear hb));go_ret2;exact⟨rfl,B5⟩
 rw[b_ hw];rw[b_ hw] at p1;rw[p1] at Jw;have C0:=a_ ks;clear ks;generalize eU y.d_ y.c_ s.v a=zv at *;by_cases hin:y.c.to<=a/\a<y.c.to+y.aq
 .obtain⟨j,rfl⟩:∃j,a=y.c.to+j:=⟨a-y.c.to,e9⟩;have hB:=jU (w:=w) j kj sd hT (by rw[hlv];omega);have hk:j/y.c.block<y.nb:=hgd.ok.OQ e9;have Oj:s.mv (j/y.c.block)=true:=by
   cases hm:s.mv (j/y.c.block) with
   |true=>rfl
   |false=>
    refine absurd ⟨e9,by rw[hlv];omega,?_⟩ hw;rw[A_];exact hm
  have hrow:=hx.row _ hk;rw[Oj] at hrow;have k1:((j/y.c.block:Nat):Int)<y.nb:=e9;have e:((y.c.to+j:Nat):Int)=(y.c.to:Int)+j:=e9;rw[e] at Jw ⊢;obtain⟨k,CX⟩:=kw (j/y.c.block);rw[CX] at hB hrow k1 hk;have HB:=a_ hB;clear h hR hT hw hx kj sd hgd hlv hin hB Oj e CX ho PU zx hos lU en p1 p2;generalize y.nb=nb at *;go_enter func366,ntmps366;go_wp2_with (first|(go_at_call 363;refine HB.kq λw1 hb=>?_;have r1:=bA hb (bi _) hrow;have r2:=bA hb (bi _) dW;have r0:=bA hb (bi _) C0;have B1:=a_ hb;clear hb)|(go_at_call 258;refine (Jw _ B1).kq λw2 hb=>?_;have B2:=a_ (seq B1 hb);clear hb));go_ret2;exact⟨rfl,B2⟩
 have HB:=a_ (uU (w:=w) (a:Int) kj sd (by rw[hlv];omega));clear h hR hT hw hx kj sd hgd hlv hin ho PU zx hos lU en p1 p2;go_enter func366,ntmps366;go_wp2_with (first|(go_at_call 363;refine HB.kq λw1 hb=>?_;have r0:=bA hb (bi _) C0;have B1:=a_ hb;clear hb)|(go_at_call 258;refine (Jw _ B1).kq λw2 hb=>?_;have B2:=a_ (seq B1 hb);clear hb));go_ret2;exact⟨rfl,B2⟩
end
end
end Go.Proofs.YtmdgfpeglgpiiaaGreatDoor

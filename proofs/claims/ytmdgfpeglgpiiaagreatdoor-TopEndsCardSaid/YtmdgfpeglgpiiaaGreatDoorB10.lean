import Derived.Test.YtmdgfpeglgpiiaaGreatDoorB05
set_option linter.unusedVariables false
set_option linter.unusedSimpArgs false
set_option maxRecDepth 100000
set_option maxHeartbeats 16000000
namespace Go.Proofs.YtmdgfpeglgpiiaaGreatDoor
open Go.ChangeShapes Go.WideShapes Go.ChangeAt Go.RowKit Go.Maps Go.Sort
open Vq Oq Go.Proofs.Tryz
abbrev bF (m aa top aT:Nat):Obj:= .cells #[Wz m,aa,top,aT] 240 (0,0)
theorem kX (r m:Nat) (w:World) (c0:w.cell? ⟨r,0,none⟩=some (.pointer (some ⟨m,0,none⟩))):
  WA 159 #[Wz r] w λe w'=>e= .returned false/\w=w':=by
 go_enter func159,ntmps159;go_wp2;go_ret;exact⟨rfl,rfl⟩
section
variable {m r words page room t aa top aT:Nat} {v:VS} {Rm R0 K:BL} {w0 w w':World}
theorem oo (h:w.heap[r]?=some (bF m aa top aT)):WA 77 #[Wz r] w λe w'=>e= .returned aa/\w=w':=by
 obtain⟨c0,c1, -⟩:=qN h;have cg:=a_ (kX r m w c0);clear h;go_enter func77,ntmps77
 go_wp2_with (go_at_call 159;refine cg.kq ?_;rintro w1 rfl)
 go_ret;exact⟨rfl,rfl⟩
theorem wF (h:w.heap[r]?=some (bF m aa top aT)):WA 76 #[Wz r] w λe w'=>e= .returned top/\w=w':=by
 obtain⟨c0, -,c2, -⟩:=ft h;have cg:=a_ (kX r m w c0);clear h;go_enter func76,ntmps76
 go_wp2_with (go_at_call 159;refine cg.kq ?_;rintro w1 rfl)
 go_ret;exact⟨rfl,rfl⟩
theorem Fg (hR:At [(r,bF m aa top aT)] w) {x:Nat} (hx:aa<=x/\x<=aT):WA 87 #[Wz r,x] w λe w'=>e= .returned Wy/\ag [(r,bF m aa top aT)] [(r,bF m aa x aT)] w w':=by
 have h:=hR.1.head;obtain⟨c0,c1,c2,c3, -⟩:=jD h;have f2:=br h 2;have cg:=a_ (kX r m w c0);have Hx:=a_ ((ag.refl hR).set 2 x);have h1:¬(x:Int)<aa:=by omega
 have h2:¬(aT:Int)<x:=by omega
 have h3:¬x<aa:=by omega
 have h4:¬aT<x:=by omega
 clear h hR;go_enter func87,ntmps87
 go_wp2_with (go_at_call 159;refine cg.kq ?_;rintro w1 rfl)
 go_ret;exact⟨rfl,Hx⟩
theorem Ff (h:aH m words page room t v Rm) (hR:Has Rm w) (hw:1<=words) (a b:Nat) (hab:a<=b/\b<=words):
  WA 110 #[Wz m,a,b] w λe w'=>∃r,e= .returned (.tuple #[Wz r,Wy])/\ag [] [(r,bF m a a b)] w w':=by
 have Hw:=a_ (iI h hR);have HB:=a_ ((ag.refl (At.nil (w:=w))).box #[Wz m,a,a,b] 240);have hz:¬(words:Int)=0:=by omega
 have Mf:((words:Int)==0)=false:=by simp;omega
 have h1:¬(a:Int)<0:=by omega
 have h2:¬(b:Int)<a:=by omega
 have h3:¬(words:Int)<b:=by omega
 have h4:¬b<a:=by omega
 have h5:¬words<b:=by omega
 have q2:decide ((b:Int)<a)=false:=decide_eq_false h2;have q3:decide ((words:Int)<b)=false:=decide_eq_false h3;have q4:decide (b<a)=false:=decide_eq_false h4;have q5:decide (words<b)=false:=decide_eq_false h5;clear h hR;go_enter func110,ntmps110
 go_wp2_with (go_at_call 157;refine Hw.kq ?_;rintro w1 rfl)
 go_ret2
 exact⟨_,rfl,HB⟩
theorem rg_alloc_no (h:w.heap[r]?=some (bF m aa top aT)) (ey:aT<=1048576) (ht:top<=aT) (n:Nat) (h1:1<=n) (h2:aT<top+n) (hn:n<=1048576):
  WA 128 #[Wz r,n] w λe w'=>e= .returned (.tuple #[Wy,(21:Int)])/\Below w.heap.size w w':=by
 obtain⟨c0, -,c2,c3, -⟩:=jD h;have cg:=a_ (kX r m w c0);have s1:=eH ((aT:Int)-top);have q1:decide ((aT:Int)-top<n)=true:=kr;have q2:¬(n:Int)<1:=by omega
 have q3:decide ((n:Int)<1)=false:=decide_eq_false q2;clear h;go_enter func128,ntmps128
 go_wp2_with (go_at_call 159;refine cg.kq ?_;rintro w1 rfl)
 go_quiet (fail)
 go_wp2
 go_ret2
 exact⟨rfl,Fr.aA _ _⟩
theorem rg_alloc (h:aH m words page room t v Rm) (hR:At ((r,bF m aa top aT)::Rm) w) (ht:t<=999000000000000) (ey:aT<=1048576) (n:Nat) (h1:1<=n) (h2:top+n<=aT) (hE:dc words page room v (top:Nat) (top+n:Nat)=0):
  WA 128 #[Wz r,n] w λe w'=>e= .returned (.tuple #[top,Wy])/\∃bI,aH m words page room (t+words/page) (bH words page room v (top:Nat) (top+n:Nat)) bI/\ag ((r,bF m aa top aT)::Rm) ((r,bF m aa (top+n) aT)::bI) w w':=by
 have D0:=a_ ((ag.refl hR).perm (R':=Rm++ [(r,bF m aa top aT)]) aF);have hh:=hR.1.head;obtain⟨c0, -,c2,c3, -⟩:=jD hh;have cg:=a_ (kX r m w c0);have s1:=eH ((aT:Int)-top);have q1:decide ((aT:Int)-top<n)=false:=dP;have q2:¬(n:Int)<1:=by omega
 have q3:decide ((n:Int)<1)=false:=decide_eq_false q2;have s2:=eH ((top:Int)+n);have Be:=λW (hW:At Rm W)=>rk h hW ht (top:Nat) (top+n:Nat)
 rw[hE] at Be;have ec:((top+n:Nat):Int)=(top:Int)+n:=by omega
 generalize bH words page room v (top:Nat) (top+n:Nat)=v' at *;rw[ec] at Be;obtain⟨Hneed,S2,EC⟩:=dF Be s2 ec;clear h hR Be s2 ec hh hE;go_enter func128,ntmps128
 go_wp2_with (go_at_call 159;refine cg.kq ?_;rintro w1 rfl)
 go_quiet (fail)
 clear s1 q1 c0 c2 c3;go_wp2;have D2:=a_ (D0.grow (Fr.aA nq w));generalize w.drewN nq=W at *;have hh:=D2.has.right.head;obtain⟨c0, -,c2, -⟩:=ft hh;have s2:=S2.out;clear hh
 go_region_held3 (λw'=>w'.cell? ⟨r,0,none⟩=some (.pointer (some ⟨m,0,none⟩))/\w'.cell? ⟨r,2,none⟩=some (.int .i64 top)) (first | exact⟨c0,c2⟩ | exact⟨d0,d2⟩ | go_keep) ((go_at_call 165;refine (Hneed _ (D2.grow (ay W)).at_.left).kq ?_;rintro w5 ⟨bI,m5,d5⟩;have M5:=a_ m5;have D5:=a_ ((D2.grow (ay W)).step d5);have hh:=D5.has.right.head;have d0:=an hh 0 _ rfl;have d2:=an hh 2 _ rfl;have f2:=br hh 2;clear m5 d5 hh))
 clear c0 c2 s2;have D6:=a_ ((D5.perm (R':=(r,bF m aa top aT)::bI) aF).set 2 ((top:Int)+n:Int));go_wp2
 go_ret2
 refine⟨rfl,bI,M5,?_⟩;have:=D6.out;rw[←EC.out] at this;exact this
end
end Go.Proofs.YtmdgfpeglgpiiaaGreatDoor

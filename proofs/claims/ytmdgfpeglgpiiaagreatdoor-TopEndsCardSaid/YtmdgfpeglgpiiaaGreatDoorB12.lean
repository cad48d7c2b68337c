import Derived.Test.YtmdgfpeglgpiiaaGreatDoorB05
set_option linter.unusedVariables false
set_option linter.unusedSimpArgs false
set_option maxRecDepth 100000
set_option maxHeartbeats 16000000
namespace Go.Proofs.YtmdgfpeglgpiiaaGreatDoor
open Go.ChangeShapes Go.WideShapes Go.ChangeAt Go.RowKit Go.Maps Go.Sort
open Vq Oq Go.Proofs.Tryz
section
variable {σ:Type} {step:σ->Nat->σ×Nat}
variable {b:Nat} {zs:List Nat} {R R0 Rst K:BL} {w0 w w':World}
theorem pW {F:FuncId} {first caps:Array Value} (hF:∀args w,(callFunc F args).run prog w= .ok (.enter F args) w) {I:σ->BL->Prop} {st:σ}
  (hd:∀s x E Rst W,x∈zs->x≠0->I s Rst->ag R0 (E++Rst) w0 W->Calls prog F (first++ #[.int .i64 (x:Nat)]++caps) W λe W'=>e= .returned ((step s x).2:Nat)/\∃Ci,I (step s x).1 Ci/\ag R0 (E++Ci) w0 W')
  (h:dO b zs R) (hI:I st Rst) (hD:ag R0 (R++Rst) w0 w):
  WA 166 #[Wz b,.func (.func F) first caps] w λe w'=>e= .returned (.tuple #[])/\∃R' Ci,dO b (aZ step st zs).2 R'/\I (aZ step st zs).1 Ci/\ag R0 (R'++Ci) w0 w':=by
 obtain⟨h1,h2,g,rfl⟩:=h;have c0:=an hD.has.head 0 _ rfl;obtain⟨HI,HDd,HD⟩:=dF hI hd hD;clear hI hd hD;go_enter func166,ntmps166;go_wp2;clear c0
 go_loopw [13] (λiv wr=>∃(m:Nat) (Lx:BL),iv= .int .i64 m/\m<=zs.length/\I (aZ step st (zs.take m)).1 Lx/\ag R0 ((b,WD #[.slice (some ⟨g,0,none⟩) zs.length zs.length] 197)::(g,.cells (ez (nY step st zs m)).toArray 3 (0,0))::Lx) w0 wr) (λiv _=>zs.length-(intOf iv).toNat)
 case atStart=>exact⟨0,Rst,rfl,Nat.zero_le _,HI,HD⟩
 case round=>
  clear HD HI;obtain⟨m,Lx,rfl,hm,hI,hD⟩:=hrel;obtain⟨HI,HD⟩:=aO hI hD;by_cases hlt:m<zs.length
  ·have c0:=an hD.has.head 0 _ rfl;have cm:=an hD.has.tail.head m (.int .i64 (zs[m]:Nat)) (by
    have:=yn (step:=step) st zs m hlt;simp[ez,mJ,this])
   have fm:=br hD.has.tail.head m;have hz:=midT_zero (step:=step) st zs m hlt;have hs:=midT_step (step:=step) st zs m hlt;have hmem:zs[m]∈zs:=List.getElem_mem hlt;clear hI hD;have FK:=yn (step:=step) st zs m hlt;generalize zs[m]=x at *;have JK:=a_ FK;clear FK;have s1:=eH ((m:Int)+1);by_cases h0:x=0
   ·obtain⟨e1,e2⟩:=hz h0;subst h0;obtain⟨E1,E2⟩:=aO e1 e2;clear e1 e2 hz hs;go_wp2
    go_roundw
    case rel=>exact⟨m+1,Lx,by go_num,hlt,by rw[E2.out];exact HI,by rw[E1.out];exact HD⟩
    case measure=>simp[intOf];omega
   ·obtain⟨e1,e2⟩:=hs h0;obtain⟨E1,E2⟩:=aO e1 e2;have g0:((x:Int) !=0)=true:=by simp;omega
    clear e1 e2 hz hs;have E2':=E2;have GX:=a_ (λE W hW=>HDd (aZ step st (zs.take m)).1 x E Lx W hmem h0 HI hW);generalize hst:(aZ step st (zs.take m)).1=sm at *;have CP:=a_ hst;clear hst hmem HI;obtain⟨y,hy⟩:∃y,(step sm x).2=y:=⟨_,rfl⟩
    have gy:(if (y:Int)<0 then (0:Int) else (y:Int))=y:=cG;have Hy:=a_ hy;rw[hy] at GX E1;clear hy
    go_wp2_with (fail)
    have qU:=a_ HD.drew;refine aP (S:=λW=>W.cell? ⟨b,0,none⟩=some (.slice (some ⟨g,0,none⟩) zs.length zs.length)) (by kernel_rfl) c0 (λhHeld=>?_);generalize wr.drew=W1 at *;refine aR 0 ?_;refine aR 1 ?_;refine aR 2 ?_;refine aR 3 ?_;refine aR 4 ?_;refine aR 5 ?_;refine aR 6 ?_;simp only[aI];refine jS 7 (λK hK=>?_);go_simp;refine (GX ((b,WD #[.slice (some ⟨g,0,none⟩) zs.length zs.length] 197)::(g,.cells (ez (nY step st zs m)).toArray 3 (0,0)):: []) W1 qU).kq ?_;rintro w2 ⟨R2,i2,d2⟩;obtain⟨FU,gq⟩:=aO i2 d2;clear i2 d2;refine hK _ _ (an gq.has.head 0 _ rfl) (λhHeld=>?_);clear hK K
    try simp only[aI]
    refine aR 8 ?_;refine aR 9 ?_;simp only[aI];have b1:=an gq.has.tail.head m (.int .i64 (x:Nat)) (by
     have:=JK.out;simp[ez,mJ,this])
    have f1:=br gq.has.tail.head m;refine sD 10 (λK hK=>?_);go_simp;refine hK _ _ ?_;clear hK K
    try simp only[aI]
    have Jt:=a_ (gq.tj.set m (.int .i64 (y:Nat)));clear b1 f1 hHeld gq qU c0 cm fm;have OB:((ez (nY step st zs m)).toArray.setIfInBounds m (.int .i64 (y:Nat)))=(ez ((nY step st zs m).set m y)).toArray:=by
     simp[ez,mJ,List.map_set]
    rw[OB,←E1.out] at Jt;generalize w2.setCell ⟨g,m,none⟩ (.int .i64 (y:Nat))=w3 at *;have Ry:=FU.out;rw[←E2.out] at Ry;have HI4:=a_ Ry;clear Ry OB;go_wp2
    go_roundw
    case rel=>exact⟨m+1,R2,by go_num,hlt,HI4,Jt.tj⟩
    case measure=>simp[intOf];omega
  ·obtain rfl:m=zs.length:=by omega
   have e1:nY step st zs zs.length=(aZ step st zs).2:=by
    unfold nY;rw[List.take_length,List.drop_length,List.append_nil]
   rw[List.take_length] at HI;rw[e1] at HD;have hl:=ka (step:=step) zs st;have Hl:=a_ hl;clear hI hD e1 hl;go_wp2
   go_end0
   refine⟨rfl,(b,WD #[.slice (some ⟨g,0,none⟩) zs.length zs.length] 197):: [(g,.cells (ez (aZ step st zs).2).toArray 3 (0,0))],Lx,⟨by rw[Hl.out];exact h1,by rw[Hl.out];exact h2,g,by rw[Hl.out]⟩,HI,HD⟩
end
end Go.Proofs.YtmdgfpeglgpiiaaGreatDoor

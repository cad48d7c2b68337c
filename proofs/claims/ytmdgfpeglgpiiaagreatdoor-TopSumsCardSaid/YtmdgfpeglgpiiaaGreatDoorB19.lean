import Derived.Test.YtmdgfpeglgpiiaaGreatDoorB18
import Derived.LaidMore
import Derived.Test.YtmdgfpeglgpiiaaGreatDoorB01
set_option linter.all false
set_option maxRecDepth 100000
set_option maxHeartbeats 16000000
namespace Go.Proofs.YtmdgfpeglgpiiaaGreatDoor
open Go.ChangeShapes Go.WideShapes Go.ChangeAt Go.RowKit Go.Maps Go.Sort
open Vq Oq Go.Proofs.Tryz
section
attribute [local go_sem] Oper.semAt_some
section
variable {hb m rb T x y:Nat} {S S':HS} {R Rx Rr:BL} {w w':World} {cy:Option Nat} {s f i k a b c hp hf ho:Int} {wd fl:Nat}
def turns1 (h:ak hb m rb S T R) (hg:S.Good) (hR:At R w) (hT:ax w) (hN:aD R) (bJ:T<=400000000000000):
  WR 74 #[Wz hb,.agg #[(1:Int),a,b,i,hp,hf,ho,WB wd,.float .f64 fl]] w (.int .i64 (S.m.alloc a hp hf ho).2) λw'=>∃R',ak hb m rb (S.alloc S.c.nC a hp hf ho) (T+30000000000) R'/\ag R R' w w':=by
 have D0:=(ag.refl hR).box #[(1:Int),a,b,i,hp,hf,ho,WB wd,.float .f64 fl] 49;obtain⟨B3,jH⟩:∃B3,w.heap.size=B3:=⟨_,rfl⟩
 rw[jH] at D0;have D0:=a_ (D0.perm (R':=R++ [(B3,.cells #[(1:Int),a,b,i,hp,hf,ho,WB wd,.float .f64 fl] 49 (0,0))]) aF);have HG:=a_ (λK W (hd:ag R (R++K) w W)=>xM (w:=W) h hg hd.at_.left (hd.tz hT hN) hN (by omega) a hp hf ho);have q:=D0.has.right.head;obtain⟨c0,c1,c2,c3,c4,c5,c6,c7,c8, -⟩:=fa q;clear q h hg hR hT hN bJ;generalize (S.m.alloc a hp hf ho).2=v1 at *;generalize S.alloc S.c.nC a hp hf ho=S1 at *;go_enter func74,ntmps74
 go_upto_region 1 with fail
 generalize World.alloc _ _=w0 at *
 go_wp2_with (go_at_call 11;refine (HG _ _ D0).kq ?_;rintro w1 ⟨R1,x1,d1⟩;have X1:=a_ x1;have D1:=a_ (D0.step d1);clear x1 d1)
 go_ret;exact⟨rfl,R1,X1,D1.bN⟩
def turns2 (h:ak hb m rb S T R) (hg:S.Good) (hR:At R w) (hT:ax w) (hN:aD R) (bJ:T<=400000000000000):
  WR 74 #[Wz hb,.agg #[(2:Int),a,b,i,hp,hf,ho,WB wd,.float .f64 fl]] w (.int .i64 (S.m.load a b i).2) λw'=>∃R',ak hb m rb (S.load a b i) (T+2000000) R'/\ag R R' w w':=by
 have D0:=(ag.refl hR).box #[(2:Int),a,b,i,hp,hf,ho,WB wd,.float .f64 fl] 49;obtain⟨B3,jH⟩:∃B3,w.heap.size=B3:=⟨_,rfl⟩
 rw[jH] at D0;have D0:=a_ (D0.perm (R':=R++ [(B3,.cells #[(2:Int),a,b,i,hp,hf,ho,WB wd,.float .f64 fl] 49 (0,0))]) aF);have HG:=a_ (λK W (hd:ag R (R++K) w W)=>hLoad_h (w:=W) h hg hd.at_.left (hd.tz hT hN) hN (by omega) a b i);have q:=D0.has.right.head;obtain⟨c0,c1,c2,c3,c4,c5,c6,c7,c8, -⟩:=fa q;clear q h hg hR hT hN bJ;generalize (S.m.load a b i).2=v1 at *;generalize S.load a b i=S1 at *;go_enter func74,ntmps74
 go_upto_region 1 with fail
 generalize World.alloc _ _=w0 at *
 go_wp2_with (go_at_call 34;refine (HG _ _ D0).kq ?_;rintro w1 ⟨R1,x1,d1⟩;have X1:=a_ x1;have D1:=a_ (D0.step d1);clear x1 d1)
 go_ret;exact⟨rfl,R1,X1,D1.bN⟩
def turns3 (h:ak hb m rb S T R) (hg:S.Good) (hR:At R w) (hT:ax w) (hN:aD R) (bJ:T<=400000000000000):
  WR 74 #[Wz hb,.agg #[(3:Int),a,b,i,hp,hf,ho,WB wd,.float .f64 fl]] w (.int .i64 (S.m.store a i b).2) λw'=>∃R',ak hb m rb (S.store a i b) (T+2000000) R'/\ag R R' w w':=by
 have D0:=(ag.refl hR).box #[(3:Int),a,b,i,hp,hf,ho,WB wd,.float .f64 fl] 49;obtain⟨B3,jH⟩:∃B3,w.heap.size=B3:=⟨_,rfl⟩
 rw[jH] at D0;have D0:=a_ (D0.perm (R':=R++ [(B3,.cells #[(3:Int),a,b,i,hp,hf,ho,WB wd,.float .f64 fl] 49 (0,0))]) aF);have HG:=a_ (λK W (hd:ag R (R++K) w W)=>hStore_h (w:=W) h hg hd.at_.left (hd.tz hT hN) hN (by omega) a i b);have q:=D0.has.right.head;obtain⟨c0,c1,c2,c3,c4,c5,c6,c7,c8, -⟩:=fa q;clear q h hg hR hT hN bJ;generalize (S.m.store a i b).2=v1 at *;generalize S.store a i b=S1 at *;go_enter func74,ntmps74
 go_upto_region 1 with fail
 generalize World.alloc _ _=w0 at *
 go_wp2_with (go_at_call 154;refine (HG _ _ D0).kq ?_;rintro w1 ⟨R1,x1,d1⟩;have X1:=a_ x1;have D1:=a_ (D0.step d1);clear x1 d1)
 go_ret;exact⟨rfl,R1,X1,D1.bN⟩
def turns5 (h:ak hb m rb S T R) (hg:S.Good) (hR:At R w) (hT:ax w) (hN:aD R) (bJ:T<=400000000000000) (sy:wd<18446744073709551616):
  WR 74 #[Wz hb,.agg #[(5:Int),a,b,i,hp,hf,ho,WB wd,.float .f64 fl]] w (.int .i64 (S.m.set a i 3 wd).2) λw'=>∃R',ak hb m rb (S.set a i 3 wd wd) (T+2000000) R'/\ag R R' w w':=by
 have D0:=(ag.refl hR).box #[(5:Int),a,b,i,hp,hf,ho,WB wd,.float .f64 fl] 49;obtain⟨B3,jH⟩:∃B3,w.heap.size=B3:=⟨_,rfl⟩
 rw[jH] at D0;have D0:=a_ (D0.perm (R':=R++ [(B3,.cells #[(5:Int),a,b,i,hp,hf,ho,WB wd,.float .f64 fl] 49 (0,0))]) aF);have HG:=a_ (λK W (hd:ag R (R++K) w W)=>hSet_h (w:=W) h hg hd.at_.left (hd.tz hT hN) hN (by omega) a i sy);have q:=D0.has.right.head;obtain⟨c0,c1,c2,c3,c4,c5,c6,c7,c8, -⟩:=fa q;clear q h hg hR hT hN bJ sy;generalize (S.m.set a i 3 wd).2=v1 at *;generalize S.set a i 3 wd wd=S1 at *;go_enter func74,ntmps74
 go_upto_region 1 with fail
 generalize World.alloc _ _=w0 at *
 go_wp2_with (go_at_call 155;refine (HG _ _ D0).kq ?_;rintro w1 ⟨R1,x1,d1⟩;have X1:=a_ x1;have D1:=a_ (D0.step d1);clear x1 d1)
 go_ret;exact⟨rfl,R1,X1,D1.bN⟩
def turns7 (h:ak hb m rb S T R) (hg:S.Good) (hR:At R w) (hT:ax w) (hN:aD R) (bJ:T<=400000000000000) (sy:fl<18446744073709551616):
  WR 74 #[Wz hb,.agg #[(7:Int),a,b,i,hp,hf,ho,WB wd,.float .f64 fl]] w (.int .i64 (S.m.set a i 2 fl).2) λw'=>∃R',ak hb m rb (S.set a i 2 fl fl) (T+2000000) R'/\ag R R' w w':=by
 have D0:=(ag.refl hR).box #[(7:Int),a,b,i,hp,hf,ho,WB wd,.float .f64 fl] 49;obtain⟨B3,jH⟩:∃B3,w.heap.size=B3:=⟨_,rfl⟩
 rw[jH] at D0;have D0:=a_ (D0.perm (R':=R++ [(B3,.cells #[(7:Int),a,b,i,hp,hf,ho,WB wd,.float .f64 fl] 49 (0,0))]) aF);have HG:=a_ (λK W (hd:ag R (R++K) w W)=>hSetFloat_h (w:=W) h hg hd.at_.left (hd.tz hT hN) hN (by omega) a i sy);have q:=D0.has.right.head;obtain⟨c0,c1,c2,c3,c4,c5,c6,c7,c8, -⟩:=fa q;clear q h hg hR hT hN bJ sy;generalize (S.m.set a i 2 fl).2=v1 at *;generalize S.set a i 2 fl fl=S1 at *;go_enter func74,ntmps74
 go_upto_region 1 with fail
 generalize World.alloc _ _=w0 at *
 go_wp2_with (go_at_call 13;refine (HG _ _ D0).kq ?_;rintro w1 ⟨R1,x1,d1⟩;have X1:=a_ x1;have D1:=a_ (D0.step d1);clear x1 d1)
 go_ret;exact⟨rfl,R1,X1,D1.bN⟩
def turns8 (h:ak hb m rb S T R) (hg:S.Good) (hR:At R w) (hT:ax w) (hN:aD R) (bJ:T<=400000000000000):
  WR 74 #[Wz hb,.agg #[(8:Int),a,b,i,hp,hf,ho,WB wd,.float .f64 fl]] w (.int .i64 (S.m.copy a b).2) λw'=>∃R',ak hb m rb (S.copy a b) (T+0) R'/\ag R R' w w':=by
 have D0:=(ag.refl hR).box #[(8:Int),a,b,i,hp,hf,ho,WB wd,.float .f64 fl] 49;obtain⟨B3,jH⟩:∃B3,w.heap.size=B3:=⟨_,rfl⟩
 rw[jH] at D0;have D0:=a_ (D0.perm (R':=R++ [(B3,.cells #[(8:Int),a,b,i,hp,hf,ho,WB wd,.float .f64 fl] 49 (0,0))]) aF);have HG:=a_ (λK W (hd:ag R (R++K) w W)=>hCopy_h (w:=W) h hg hd.at_.left a b);have q:=D0.has.right.head;obtain⟨c0,c1,c2,c3,c4,c5,c6,c7,c8, -⟩:=fa q;clear q h hg hR hT hN bJ;generalize (S.m.copy a b).2=v1 at *;generalize S.copy a b=S1 at *;go_enter func74,ntmps74
 go_upto_region 1 with fail
 generalize World.alloc _ _=w0 at *
 go_wp2_with (go_at_call 33;refine (HG _ _ D0).kq ?_;rintro w1 ⟨R1,x1,d1⟩;have X1:=a_ x1;have D1:=a_ (D0.step d1);clear x1 d1)
 go_ret;exact⟨rfl,R1,X1,D1.bN⟩
def turns9 (h:ak hb m rb S T R) (hg:S.Good) (hR:At R w) (hT:ax w) (hN:aD R) (bJ:T<=400000000000000):
  WR 74 #[Wz hb,.agg #[(9:Int),a,b,i,hp,hf,ho,WB wd,.float .f64 fl]] w (.int .i64 (S.m.clear a).2) λw'=>∃R',ak hb m rb (S.clear a) (T+0) R'/\ag R R' w w':=by
 have D0:=(ag.refl hR).box #[(9:Int),a,b,i,hp,hf,ho,WB wd,.float .f64 fl] 49;obtain⟨B3,jH⟩:∃B3,w.heap.size=B3:=⟨_,rfl⟩
 rw[jH] at D0;have D0:=a_ (D0.perm (R':=R++ [(B3,.cells #[(9:Int),a,b,i,hp,hf,ho,WB wd,.float .f64 fl] 49 (0,0))]) aF);have HG:=a_ (λK W (hd:ag R (R++K) w W)=>xN (w:=W) h hg hd.at_.left a);have q:=D0.has.right.head;obtain⟨c0,c1,c2,c3,c4,c5,c6,c7,c8, -⟩:=fa q;clear q h hg hR hT hN bJ;generalize (S.m.clear a).2=v1 at *;generalize S.clear a=S1 at *;go_enter func74,ntmps74
 go_upto_region 1 with fail
 generalize World.alloc _ _=w0 at *
 go_wp2_with (go_at_call 31;refine (HG _ _ D0).kq ?_;rintro w1 ⟨R1,x1,d1⟩;have X1:=a_ x1;have D1:=a_ (D0.step d1);clear x1 d1)
 go_ret;exact⟨rfl,R1,X1,D1.bN⟩
def turns15 (h:ak hb m rb S T R) (hg:S.Good) (hR:At R w) (hT:ax w) (hN:aD R) (bJ:T<=400000000000000):
  WR 74 #[Wz hb,.agg #[(15:Int),a,b,i,hp,hf,ho,WB wd,.float .f64 fl]] w Wy λw'=>∃R',ak hb m rb S.collect (T+10000000000) R'/\ag R R' w w':=by
 have D0:=(ag.refl hR).box #[(15:Int),a,b,i,hp,hf,ho,WB wd,.float .f64 fl] 49;obtain⟨B3,jH⟩:∃B3,w.heap.size=B3:=⟨_,rfl⟩
 rw[jH] at D0;have D0:=a_ (D0.perm (R':=R++ [(B3,.cells #[(15:Int),a,b,i,hp,hf,ho,WB wd,.float .f64 fl] 49 (0,0))]) aF);have HG:=a_ (λK W (hd:ag R (R++K) w W)=>po (w:=W) h hg hd.at_.left (hd.tz hT hN) hN (by omega));have q:=D0.has.right.head;obtain⟨c0,c1,c2,c3,c4,c5,c6,c7,c8, -⟩:=fa q;clear q h hg hR hT hN bJ;generalize S.collect=S1 at *;go_enter func74,ntmps74
 go_upto_region 1 with fail
 generalize World.alloc _ _=w0 at *
 go_wp2_with (go_at_call 28;refine (HG _ _ D0).kq ?_;rintro w1 ⟨R1,x1,d1⟩;have X1:=a_ x1;have D1:=a_ (D0.step d1);clear x1 d1)
 go_ret;exact⟨rfl,R1,X1,D1.bN⟩
def turns16 (h:ak hb m rb S T R) (hg:S.Good) (hR:At R w) (hT:ax w) (hN:aD R) (bJ:T<=400000000000000):
  WR 74 #[Wz hb,.agg #[(16:Int),a,b,i,hp,hf,ho,WB wd,.float .f64 fl]] w Wy λw'=>∃R',ak hb m rb S.dJ (T+10000000000) R'/\ag R R' w w':=by
 have D0:=(ag.refl hR).box #[(16:Int),a,b,i,hp,hf,ho,WB wd,.float .f64 fl] 49;obtain⟨B3,jH⟩:∃B3,w.heap.size=B3:=⟨_,rfl⟩
 rw[jH] at D0;have D0:=a_ (D0.perm (R':=R++ [(B3,.cells #[(16:Int),a,b,i,hp,hf,ho,WB wd,.float .f64 fl] 49 (0,0))]) aF);have HG:=a_ (λK W (hd:ag R (R++K) w W)=>start_h (w:=W) h hg hd.at_.left (hd.tz hT hN) hN (by omega));have q:=D0.has.right.head;obtain⟨c0,c1,c2,c3,c4,c5,c6,c7,c8, -⟩:=fa q;clear q h hg hR hT hN bJ;generalize S.dJ=S1 at *;go_enter func74,ntmps74
 go_upto_region 1 with fail
 generalize World.alloc _ _=w0 at *
 go_wp2_with (go_at_call 15;refine (HG _ _ D0).kq ?_;rintro w1 ⟨R1,x1,d1⟩;have X1:=a_ x1;have D1:=a_ (D0.step d1);clear x1 d1)
 go_ret;exact⟨rfl,R1,X1,D1.bN⟩
def turns17 (h:ak hb m rb S T R) (hg:S.Good) (hR:At R w) (hT:ax w) (hN:aD R) (bJ:T<=400000000000000):
  WR 74 #[Wz hb,.agg #[(17:Int),a,b,i,hp,hf,ho,WB wd,.float .f64 fl]] w Wy λw'=>∃R',ak hb m rb S.step (T+2000000) R'/\ag R R' w w':=by
 have D0:=(ag.refl hR).box #[(17:Int),a,b,i,hp,hf,ho,WB wd,.float .f64 fl] 49;obtain⟨B3,jH⟩:∃B3,w.heap.size=B3:=⟨_,rfl⟩
 rw[jH] at D0;have D0:=a_ (D0.perm (R':=R++ [(B3,.cells #[(17:Int),a,b,i,hp,hf,ho,WB wd,.float .f64 fl] 49 (0,0))]) aF);have HG:=a_ (λK W (hd:ag R (R++K) w W)=>Aq (w:=W) h hg hd.at_.left (hd.tz hT hN) hN (by omega));have q:=D0.has.right.head;obtain⟨c0,c1,c2,c3,c4,c5,c6,c7,c8, -⟩:=fa q;clear q h hg hR hT hN bJ;generalize S.step=S1 at *;generalize S.bX.isSome=v1 at *;go_enter func74,ntmps74
 go_upto_region 1 with fail
 generalize World.alloc _ _=w0 at *
 go_wp2_with (go_at_call 19;refine (HG _ _ D0).kq ?_;rintro w1 ⟨R1,x1,d1⟩;have X1:=a_ x1;have D1:=a_ (D0.step d1);clear x1 d1)
 go_ret;exact⟨rfl,R1,X1,D1.bN⟩
def turnsN (hR:At R w) (h1:¬k=1) (h2:¬k=2) (h3:¬k=3) (h5:¬k=5) (h7:¬k=7) (h8:¬k=8) (h9:¬k=9) (Gh:¬k=15) (Iv:¬k=16) (Kb:¬k=17):
  WR 74 #[Wz hb,.agg #[k,a,b,i,hp,hf,ho,WB wd,.float .f64 fl]] w (24:Int) λw'=>ag R R w w':=by
 have D0:=a_ ((ag.refl hR).box #[k,a,b,i,hp,hf,ho,WB wd,.float .f64 fl] 49);obtain⟨B3,jH⟩:∃B3,w.heap.size=B3:=⟨_,rfl⟩
 rw[jH] at D0;have c0:=an D0.has.head 0 (.int .i64 k) rfl;clear hR;go_enter func74,ntmps74
 go_upto_region 1 with fail
 generalize World.alloc _ _=w0 at *;go_wp2;go_ret;exact⟨rfl,D0.tail⟩
end
def mU.val (x:mU):Value:= .agg #[x.k,x.a,x.b,x.i,x.hp,x.hf,x.ho,WB x.wd,.float .f64 x.fl]
def Fz.val (r:Fz):Value:= .agg #[r.code,.bool r.is,r.n,WB r.wd,(r.hp:Nat),(r.hf:Nat),(r.ho:Nat)]
def Cj (k:Int):Prop:=k=4\/k=6\/k=10\/k=11\/k=12\/k=13\/k=14
instance (k:Int):Decidable (Cj k):=by unfold Cj;infer_instance
noncomputable def HS.op (S:HS) (x:mU):HS:=
 if x.k=4 then S.get x.a x.i 3 else if x.k=6 then S.get x.a x.i 2 else if x.k=10 then S else if x.k=11 then S.shape x.a
 else if x.k=12 then S.sum x.a else if x.k=13 then S.order x.a x.i x.b (gh x.wd) else if x.k=14 then S
 else if x.k=1 then S.alloc S.c.nC x.a x.hp x.hf x.ho else if x.k=2 then S.load x.a x.b x.i else if x.k=3 then S.store x.a x.i x.b
 else if x.k=5 then S.set x.a x.i 3 x.wd x.wd else if x.k=7 then S.set x.a x.i 2 x.fl x.fl else if x.k=8 then S.copy x.a x.b
 else if x.k=9 then S.clear x.a else if x.k=15 then S.collect else if x.k=16 then S.dJ else if x.k=17 then S.step else S
section
variable {hb m rb T:Nat} {S S':HS} {R Rx Rr:BL} {w w':World} {cy:Option Nat} {k a b i hp hf ho:Int} {wd fl:Nat}
def asks_all (h:ak hb m rb S T R) (hg:S.Good) (hR:At R w) (hT:ax w) (hN:aD R) (bJ:T<=400000000000000) (fZ:wd<18446744073709551616) (hk:Cj k):
  WR 73 #[Wz hb,mU.val ⟨k,a,b,i,hp,hf,ho,wd,fl⟩] w (.tuple #[(S.m.op jY ⟨k,a,b,i,hp,hf,ho,wd,fl⟩).2.val,true]) λw'=>∃R',ak hb m rb (S.op ⟨k,a,b,i,hp,hf,ho,wd,fl⟩) (T+30000000000) R'/\ag R R' w w':=by
 rcases hk with rfl | rfl | rfl | rfl | rfl | rfl | rfl
 ·refine (asks4 h hg hR hT hN bJ).kq ?_;rintro w' ⟨R',h1,d1⟩;exact⟨rfl,R',h1.more (by omega),d1⟩
 ·refine (asks6 h hg hR hT hN bJ).kq ?_;rintro w' ⟨R',h1,d1⟩;exact⟨rfl,R',h1.more (by omega),d1⟩
 ·refine (asks10 h hg hR hT hN bJ).kq ?_;rintro w' ⟨R',h1,d1⟩;exact⟨rfl,R',h1.more (by omega),d1⟩
 ·refine (asks11 h hg hR hT hN bJ).kq ?_;rintro w' ⟨R',h1,d1⟩;exact⟨rfl,R',h1.more (by omega),d1⟩
 ·refine (asks12 h hg hR hT hN bJ).kq ?_;rintro w' ⟨R',h1,d1⟩;exact⟨rfl,R',h1.more (by omega),d1⟩
 ·refine (asks13 h hg hR hT hN bJ fZ).kq ?_;rintro w' ⟨R',h1,d1⟩;exact⟨rfl,R',h1.more (by omega),d1⟩
 ·refine (asks14 h hg hR hT hN bJ).kq ?_;rintro w' ⟨R',h1,d1⟩;exact⟨rfl,R',h1.more (by omega),d1⟩
def turns_all (h:ak hb m rb S T R) (hg:S.Good) (hR:At R w) (hT:ax w) (hN:aD R) (bJ:T<=400000000000000) (fZ:wd<18446744073709551616) (hfl:fl<18446744073709551616) (hk:¬Cj k):
  ∃c,(S.m.op jY ⟨k,a,b,i,hp,hf,ho,wd,fl⟩).2= .only c/\WR 74 #[Wz hb,mU.val ⟨k,a,b,i,hp,hf,ho,wd,fl⟩] w (.int .i64 c) λw'=>∃R',ak hb m rb (S.op ⟨k,a,b,i,hp,hf,ho,wd,fl⟩) (T+30000000000) R'/\ag R R' w w':=by
 by_cases h1:k=1
 ·subst h1;refine⟨_,rfl,?_⟩;refine (turns1 h hg hR hT hN bJ).kq ?_;rintro w' ⟨R',h1,d1⟩;exact⟨rfl,R',h1.more (by omega),d1⟩
 by_cases h2:k=2
 ·subst h2;refine⟨_,rfl,?_⟩;refine (turns2 h hg hR hT hN bJ).kq ?_;rintro w' ⟨R',h1,d1⟩;exact⟨rfl,R',h1.more (by omega),d1⟩
 by_cases h3:k=3
 ·subst h3;refine⟨_,rfl,?_⟩;refine (turns3 h hg hR hT hN bJ).kq ?_;rintro w' ⟨R',h1,d1⟩;exact⟨rfl,R',h1.more (by omega),d1⟩
 by_cases h5:k=5
 ·subst h5;refine⟨_,rfl,?_⟩;refine (turns5 h hg hR hT hN bJ fZ).kq ?_;rintro w' ⟨R',h1,d1⟩;exact⟨rfl,R',h1.more (by omega),d1⟩
 by_cases h7:k=7
 ·subst h7;refine⟨_,rfl,?_⟩;refine (turns7 h hg hR hT hN bJ hfl).kq ?_;rintro w' ⟨R',h1,d1⟩;exact⟨rfl,R',h1.more (by omega),d1⟩
 by_cases h8:k=8
 ·subst h8;refine⟨_,rfl,?_⟩;refine (turns8 h hg hR hT hN bJ).kq ?_;rintro w' ⟨R',h1,d1⟩;exact⟨rfl,R',h1.more (by omega),d1⟩
 by_cases h9:k=9
 ·subst h9;refine⟨_,rfl,?_⟩;refine (turns9 h hg hR hT hN bJ).kq ?_;rintro w' ⟨R',h1,d1⟩;exact⟨rfl,R',h1.more (by omega),d1⟩
 by_cases Gh:k=15
 ·subst Gh;refine⟨_,rfl,?_⟩;refine (turns15 h hg hR hT hN bJ).kq ?_;rintro w' ⟨R',h1,d1⟩;exact⟨rfl,R',h1.more (by omega),d1⟩
 by_cases Iv:k=16
 ·subst Iv;refine⟨_,rfl,?_⟩;refine (turns16 h hg hR hT hN bJ).kq ?_;rintro w' ⟨R',h1,d1⟩;exact⟨rfl,R',h1.more (by omega),d1⟩
 by_cases Kb:k=17
 ·subst Kb;refine⟨_,rfl,?_⟩;refine (turns17 h hg hR hT hN bJ).kq ?_;rintro w' ⟨R',h1,d1⟩;exact⟨rfl,R',h1.more (by omega),d1⟩
 unfold Cj at hk;have e1:(S.m.op jY ⟨k,a,b,i,hp,hf,ho,wd,fl⟩).2= .only 24:=by
  unfold MH.op;simp only;rw[cG];rw[cG];rw[cG];rw[cG];rw[cG];rw[cG];rw[cG];rw[cG];rw[cG];rw[cG];rw[cG];rw[cG];rw[cG];rw[cG];rw[cG]
 have e2:S.op ⟨k,a,b,i,hp,hf,ho,wd,fl⟩=S:=by
  unfold HS.op;simp only;rw[cG];rw[cG];rw[cG];rw[cG];rw[cG];rw[cG];rw[cG];rw[cG];rw[cG];rw[cG];rw[cG];rw[cG];rw[cG];rw[cG];rw[cG];rw[cG];rw[cG]
 refine⟨24,e1,(turnsN hR h1 h2 h3 h5 h7 h8 h9 Gh Iv Kb).mono ?_⟩;rintro e w' ⟨rfl,d1⟩;rw[e2];exact⟨rfl,R,h.more (by omega),d1⟩
def do_h (h:ak hb m rb S T R) (hg:S.Good) (hR:At R w) (hT:ax w) (hN:aD R) (bJ:T<=400000000000000) (fZ:wd<18446744073709551616) (hfl:fl<18446744073709551616):
  WA 25 #[Wz hb,mU.val ⟨k,a,b,i,hp,hf,ho,wd,fl⟩] w λe w'=>e= .returned (S.m.op jY ⟨k,a,b,i,hp,hf,ho,wd,fl⟩).2.val/\∃R',ak hb m rb (S.op ⟨k,a,b,i,hp,hf,ho,wd,fl⟩) (T+30000000000) R'/\ag R R' w w':=by
 have D0:=((ag.refl hR).box #[k,a,b,i,hp,hf,ho,WB wd,.float .f64 fl] 49).box #[Wy,false,Wy,.int .u64 0,Wy,Wy,Wy] 51;simp only[aU] at D0;obtain⟨B3,jH⟩:∃B3,w.heap.size=B3:=⟨_,rfl⟩
 rw[jH] at D0;have D0:=a_ (D0.perm (R':=R++ [(B3+1,eV #[Wy,false,Wy,.int .u64 0,Wy,Wy,Wy]),(B3,.cells #[k,a,b,i,hp,hf,ho,WB wd,.float .f64 fl] 49 (0,0))]) aF);obtain⟨run,cy,en,bu⟩:=h.cells;have hno:=ev (hb:=hb) (m:=m) _ (bu _ D0.has.left).1.c8;have q:=D0.has.right.tail.head;obtain⟨c0,c1,c2,c3,c4,c5,c6,c7,c8, -⟩:=fa q;clear q bu en;by_cases hk:Cj k
 ·have HG:=a_ (λK W (hd:ag R (R++K) w W)=>asks_all (w:=W) (a:=a) (b:=b) (i:=i) (hp:=hp) (hf:=hf) (ho:=ho) (wd:=wd) (fl:=fl) (k:=k) h hg hd.at_.left (hd.tz hT hN) hN bJ fZ hk);generalize (S.m.op jY ⟨k,a,b,i,hp,hf,ho,wd,fl⟩).2=r at *;generalize S.op ⟨k,a,b,i,hp,hf,ho,wd,fl⟩=S1 at *;obtain⟨r0,r1,r2,r3,r4,r5,r6⟩:=r;unfold Fz.val mU.val at *;simp only at *;clear h hg hR hT hN bJ fZ hfl hk;go_enter func25,ntmps25
  go_upto_region 1 with fail
  generalize World.alloc _ _=w0 at *
  go_upto_region 3 with (go_at_call 48;refine hno.kq ?_;rintro w5 rfl)
  go_upto_region 4 with (go_at_call 73;refine (HG _ _ D0).kq ?_;rintro w1 ⟨R1,x1,d1⟩;have X1:=a_ x1;have D1:=a_ ((D0.step d1).box #[r0,r1,r2,WB r3,(r4:Nat),(r5:Nat),(r6:Nat)] 51);clear x1 d1;obtain⟨B5,FE⟩:∃B5,w1.heap.size=B5:=⟨_,rfl⟩;rw[FE] at D1)
  generalize World.alloc _ _=w2 at *;have D2:=a_ (D1.perm (R':=(B3+1,eV #[Wy,false,Wy,.int .u64 0,Wy,Wy,Wy])::(B5,eV #[r0,r1,r2,WB r3,(r4:Nat),(r5:Nat),(r6:Nat)])::(R1++ [(B3,.cells #[k,a,b,i,hp,hf,ho,WB wd,.float .f64 fl] 49 (0,0))])) aF);have q:=D2.has.tail.head;obtain⟨a0,a1,a2,a3,a4,a5,a6, -⟩:=eX q;have q2:=D2.has.head;obtain⟨b0,b1,b2,b3,b4,b5,b6, -⟩:=eX q2;obtain⟨f0,f1,f2,f3,f4,f5,f6, -⟩:=tV q2;have D4:=a_ (((((((D2.set 0 r0).set 1 r1).set 2 r2).set 3 (WB r3)).set 4 (r4:Nat)).set 5 (r5:Nat)).set 6 (r6:Nat));clear q q2 D0 D1 D2 hno;go_wp2;simp only[ma] at D4;generalize Dc:World.setCell _ _ _=w7 at *;have q7:=D4.has.head;obtain⟨e0,e1,e2,e3,e4,e5,e6, -⟩:=eX q7;refine bodyPost_ret (v:= .agg #[r0,r1,r2,WB r3,(r4:Nat),(r5:Nat),(r6:Nat)]) (by simp[results,results25,go_sem,e0,e1,e2,e3,e4,e5,e6]) rfl ⟨rfl,R1,X1,(D4.perm (R':=R1++ [(B3+1,eV #[r0,r1,r2,WB r3,(r4:Nat),(r5:Nat),(r6:Nat)]),(B5,eV #[r0,r1,r2,WB r3,(r4:Nat),(r5:Nat),(r6:Nat)]),(B3,.cells #[k,a,b,i,hp,hf,ho,WB wd,.float .f64 fl] 49 (0,0))]) aF).bN⟩
 ·have HG:=a_ (λK W (hd:ag R (R++K) w W)=>turns_all (w:=W) (a:=a) (b:=b) (i:=i) (hp:=hp) (hf:=hf) (ho:=ho) (wd:=wd) (fl:=fl) (k:=k) h hg hd.at_.left (hd.tz hT hN) hN bJ fZ hfl hk);obtain⟨c,hc, -⟩:=HG _ _ D0;have HG:=a_ (λK W (hd:ag R (R++K) w W)=>show WR 74 #[Wz hb,mU.val ⟨k,a,b,i,hp,hf,ho,wd,fl⟩] W c λw'=>∃R',ak hb m rb (S.op ⟨k,a,b,i,hp,hf,ho,wd,fl⟩) (T+30000000000) R'/\ag R R' W w' from by
   obtain⟨c',Ba,hq⟩:=HG K W hd;have:c'=c:=by have:=Ba.symm.trans hc;unfold Fz.only at this;injection this
   rw[this] at hq;exact hq)
  rw[hc];have HA:=a_ (λK W (hd:ag R (R++K) w W)=>asksN (w:=W) (a:=a) (b:=b) (i:=i) (hp:=hp) (hf:=hf) (ho:=ho) (wd:=wd) (fl:=fl) (k:=k) (hb:=hb) hd.at_.left (λq=>hk (.inl q)) (λq=>hk (.inr (.inl q))) (λq=>hk (.inr (.inr (.inl q)))) (λq=>hk (.inr (.inr (.inr (.inl q))))) (λq=>hk (.inr (.inr (.inr (.inr (.inl q)))))) (λq=>hk (.inr (.inr (.inr (.inr (.inr (.inl q))))))) (λq=>hk (.inr (.inr (.inr (.inr (.inr (.inr q))))))));generalize S.op ⟨k,a,b,i,hp,hf,ho,wd,fl⟩=S1 at *;unfold Fz.val Fz.only mU.val at *;simp only at *;clear h hg hR hT hN bJ fZ hfl hk hc;go_enter func25,ntmps25
  go_upto_region 1 with fail
  generalize World.alloc _ _=w0 at *
  go_upto_region 3 with (go_at_call 48;refine hno.kq ?_;rintro w5 rfl)
  go_upto_region 4 with (go_at_call 73;refine (HA _ _ D0).kq ?_;rintro w1 d1;have D1:=a_ ((D0.step d1).box #[Wy,false,Wy,.int .u64 0,Wy,Wy,Wy] 51);clear d1;obtain⟨B5,FE⟩:∃B5,w1.heap.size=B5:=⟨_,rfl⟩;rw[FE] at D1)
  generalize World.alloc _ _=w2 at *;have D2:=a_ (D1.perm (R':=R++ [(B3+1,eV #[Wy,false,Wy,.int .u64 0,Wy,Wy,Wy]),(B5,eV #[Wy,false,Wy,.int .u64 0,Wy,Wy,Wy]),(B3,.cells #[k,a,b,i,hp,hf,ho,WB wd,.float .f64 fl] 49 (0,0))]) aF);clear c0 c1 c2 c3 c4 c5 c6 c7 c8 D0 D1 hno;have q:=D2.has.right.tail.tail.head;obtain⟨c0,c1,c2,c3,c4,c5,c6,c7,c8, -⟩:=fa q;clear q
  go_wp2_with (go_at_call 74;refine (HG _ _ D2).kq ?_;rintro w3 ⟨R1,x1,d1⟩;have X1:=a_ x1;have D3:=a_ ((D2.step d1).perm (R':=(B3+1,eV #[Wy,false,Wy,.int .u64 0,Wy,Wy,Wy])::(R1++ [(B5,eV #[Wy,false,Wy,.int .u64 0,Wy,Wy,Wy]),(B3,.cells #[k,a,b,i,hp,hf,ho,WB wd,.float .f64 fl] 49 (0,0))])) aF);clear x1 d1;have q2:=D3.has.head;have b0:=an q2 0 (.int .i64 0) rfl;have f0:=br q2 0;have b1:=an q2 1 (.bool false) rfl;have f1:=br q2 1;have b2:=an q2 2 (.int .i64 0) rfl;have f2:=br q2 2;have b3:=an q2 3 (.int .u64 0) rfl;have f3:=br q2 3;have b4:=an q2 4 (.int .i64 0) rfl;have f4:=br q2 4;have b5:=an q2 5 (.int .i64 0) rfl;have f5:=br q2 5;have b6:=an q2 6 (.int .i64 0) rfl;have f6:=br q2 6;have D4:=a_ (((((((D3.set 0 c).set 1 false).set 2 Wy).set 3 (.int .u64 0)).set 4 Wy).set 5 Wy).set 6 Wy);clear q2)
  simp only[ma] at D4;generalize Dc:World.setCell _ _ _=w7 at *;have q7:=D4.has.head;obtain⟨e0,e1,e2,e3,e4,e5,e6, -⟩:=eX q7;refine bodyPost_ret (v:= .agg #[c,false,Wy,.int .u64 0,Wy,Wy,Wy]) (by simp[results,results25,go_sem,e0,e1,e2,e3,e4,e5,e6]) rfl ⟨rfl,R1,X1,(D4.perm (R':=R1++ [(B3+1,eV #[c,false,Wy,.int .u64 0,Wy,Wy,Wy]),(B5,eV #[Wy,false,Wy,.int .u64 0,Wy,Wy,Wy]),(B3,.cells #[k,a,b,i,hp,hf,ho,WB wd,.float .f64 fl] 49 (0,0))]) aF).bN⟩
end
end
def mU.Ok (x:mU):Prop:=x.wd<18446744073709551616/\x.fl<18446744073709551616
noncomputable def HS.ops (S:HS):List mU->HS
 | []=>S
 | x::l=>(S.op x).ops l
section
variable {S S':HS}
def HS.Good.kV {S S':HS} {m:MH} (h:S'.Good/\S.Alike S') (e:S.m=m):S'.Good/\S'.m=m/\S'.c=S.c:=⟨h.1,h.2.m.trans e,h.2.c⟩
def HS.Good.op (h:S.Good) (x:mU) (hx:x.Ok):(S.op x).Good/\(S.op x).m=(S.m.op jY x).1/\(S.op x).c=S.c:=by
 unfold HS.op MH.op;by_cases h4:x.k=4
 ·rw[b9 h4,b9 h4];exact HS.Good.kV (h.get _ _ _) rfl
 rw[b_ h4,b_ h4];by_cases h6:x.k=6
 ·rw[b9 h6,b9 h6];exact HS.Good.kV (h.get _ _ _) rfl
 rw[b_ h6,b_ h6];by_cases mV:x.k=10
 ·rw[b9 mV,b9 mV];exact⟨h,rfl,rfl⟩
 rw[b_ mV,b_ mV];by_cases oM:x.k=11
 ·rw[b9 oM,b9 oM];exact HS.Good.kV (h.shape _) rfl
 rw[b_ oM,b_ oM];by_cases nI:x.k=12
 ·rw[b9 nI,b9 nI];exact HS.Good.kV (h.sum _) rfl
 rw[b_ nI,b_ nI];by_cases qs:x.k=13
 ·rw[b9 qs,b9 qs];exact HS.Good.kV (h.order _ _ _ _) rfl
 rw[b_ qs,b_ qs];by_cases Nw:x.k=14
 ·rw[b9 Nw,b9 Nw];exact⟨h,rfl,rfl⟩
 rw[b_ Nw,b_ Nw];by_cases h1:x.k=1
 ·rw[b9 h1,b9 h1];exact h.alloc _ _ _ _ _
 rw[b_ h1,b_ h1];by_cases h2:x.k=2
 ·rw[b9 h2,b9 h2];exact h.load _ _ _
 rw[b_ h2,b_ h2];by_cases h3:x.k=3
 ·rw[b9 h3,b9 h3];exact h.store _ _ _
 rw[b_ h3,b_ h3];by_cases h5:x.k=5
 ·rw[b9 h5,b9 h5];exact h.set (by decide) (by decide) hx.1 _ _
 rw[b_ h5,b_ h5];by_cases h7:x.k=7
 ·rw[b9 h7,b9 h7];exact h.set (by decide) (by decide) hx.2 _ _
 rw[b_ h7,b_ h7];by_cases h8:x.k=8
 ·rw[b9 h8,b9 h8];exact h.copy _ _
 rw[b_ h8,b_ h8];by_cases h9:x.k=9
 ·rw[b9 h9,b9 h9];exact h.clear _
 rw[b_ h9,b_ h9];by_cases Gh:x.k=15
 ·rw[b9 Gh,b9 (.inl Gh)];obtain⟨a,b,c, -⟩:=h.collect;exact⟨a,b,c⟩
 by_cases Iv:x.k=16
 ·rw[b_ Gh,b9 Iv,b9 (.inr (.inl Iv))];exact h.dJ
 by_cases Kb:x.k=17
 ·rw[b_ Gh,b_ Iv,b9 Kb,b9 (.inr (.inr Kb))]
  cases hk:S.bX with
  | none=>
   have e:S.step=S:=by unfold HS.step;rw[hk]
   rw[e];exact⟨h,rfl,rfl⟩
  | some k=>
   obtain⟨-, -,g,a, -⟩:=h.step hk;exact⟨g,a.m,a.c⟩
 rw[b_ Gh,b_ Iv,b_ Kb,b_ (λq=>by rcases q with q | q | q<;>contradiction)];exact⟨h,rfl,rfl⟩
end
section
attribute [local go_sem] Oper.semAt_some
section
variable {w w':World} {c:HC}
def sr (n lo hi:Int) (hb: -9223372036854775808<=n/\n<9223372036854775808) (w:World):WR 189 #[n,lo,hi] w (.bool (js n && decide (lo<=n) && decide (n<=hi))) λw'=>w=w':=by
 have HP:=a_ (λW=>gj n hb W);clear hb;generalize hv:js n=v at *;clear hv
 cases v with
 | false=>
  go_enter func189,ntmps189
  go_wp2_with (go_at_call 263;refine (HP _).kq ?_;rintro w1 rfl)
  go_ret;exact⟨by simp,rfl⟩
 | true=>
  by_cases h1:lo<=n
  ·have d1:decide (lo<=n)=true:=decide_eq_true h1;go_enter func189,ntmps189
   go_wp2_with (go_at_call 263;refine (HP _).kq ?_;rintro w1 rfl)
   go_ret;exact⟨by simp[h1],rfl⟩
  ·have d1:decide (lo<=n)=false:=decide_eq_false h1;go_enter func189,ntmps189
   go_wp2_with (go_at_call 263;refine (HP _).kq ?_;rintro w1 rfl)
   go_ret;exact⟨by rw[d1];rfl,rfl⟩
def xK (hp:1<=c.c_) (hb:c.block<=1024) (ha:c.aE<=16) (hw:c.d_<=131072):WR 108 #[.agg c.cells] w (c.e_:Nat) λw'=>Below w.heap.size w w':=by
 have ko:=a_ (λW=>BN (w:=W) hp hb ha);have hsl:c.spare<=18*1027:=by
  unfold HC.spare;have:c.block/c.c_<=1024:=Nat.le_trans (Nat.div_le_self _ _) hb;exact Nat.mul_le_mul (by omega) (by omega)
 unfold HC.e_;unfold HC.cells at *;generalize c.spare=sp at *;obtain⟨kd,pg,bk,wd,sl,st,ah,tg⟩:=c;simp only at *;have D0:=a_ ((ag.refl (At.nil (w:=w))).box #[kd,pg,bk,wd,sl,st,ah,.float .f64 tg] 24);have q:=D0.has.head;obtain⟨c0,c1,c2,c3,c4,c5,c6,c7, -⟩:=gD q;obtain⟨qt,Bl⟩:∃qt,wd/pg=qt:=⟨_,rfl⟩
 have KM:qt<=131072:=by rw[←Bl];exact Nat.le_trans (Nat.div_le_self _ _) hw
 rw[Bl];have ht1:(wd:Int).tdiv (pg:Int)=(qt:Int):=by
  rw[Int.tdiv_eq_ediv_of_nonneg (by omega),←Bl];rfl
 have ht2:IntKind.i64.wrap (qt:Int)=qt:=IntWalk.i64_in _ (by omega);have KQ:((pg:Int)==0)=false:=by rw[beq_eq_false_iff_ne];omega
 have KR:¬(pg:Int)=0:=by omega
 have KS:¬pg=0:=by omega
 have s1:=eH ((qt:Int)+sp);have s2:=eH (2*(qt:Int));have e1:((qt+sp:Nat):Int)=(qt:Int)+sp:=by omega
 have e2:((2*qt:Nat):Int)=2*(qt:Int):=by omega
 clear q Bl hp hb ha hw;obtain⟨B,hB⟩:∃B,w.heap.size=B:=⟨_,rfl⟩
 rw[hB] at c0 c1 c2 c3 c4 c5 c6 c7;by_cases k1:kd=1
 ·subst k1;rw[b9 rfl,e1];go_enter func108,ntmps108
  go_wp2_with (go_at_call 192;refine (ko _).kq ?_;rintro w1 bp;have D1:=a_ (D0.grow bp);clear bp)
  go_ret;exact⟨rfl,D1.below⟩
 ·rw[b_ k1];by_cases k2:kd=2
  ·subst k2;rw[b9 rfl,e2];go_enter func108,ntmps108;go_wp2;go_ret;exact⟨rfl,D0.below⟩
  ·rw[b_ k2];have k3:¬(kd:Int)=1:=by omega
   have k4:¬(kd:Int)=2:=by omega
   go_enter func108,ntmps108;go_wp2;go_ret;exact⟨rfl,D0.below⟩
def mem_new (d_ c_ e_:Nat) (w:World) (kA:1<=d_) (hw2:d_<=524288) (jk:d_%c_=0) (mI:Fr.dp c_) (Bo:1<=e_) (kz:e_<=4096):
  WA 107 #[d_,c_,e_] w λe w'=>∃m,e= .returned (.tuple #[Wz m,Wy])/\∃R,aH m d_ c_ e_ 0 VS.zero R/\ag [] R w w':=by
 refine (new_vk d_ c_ e_ w kA hw2 jk mI Bo kz).mono ?_;rintro e w' ⟨m,rfl,S,hv,hu,hb, -⟩;obtain⟨R,h1,h2,h3⟩:=hv.list;refine⟨m,rfl,R,h1,ag.new hb h2 λx hx=>?_⟩;exact hu _ (h3 _ ⟨x,hx,rfl⟩)
end
structure iL where
 kind:Int
 c_:Int
 block:Int
 d_:Int
 bV:Int
 aL:Int
 aE:Int
 ig:Nat
def iL.cells (c:iL):Array Value:= #[.int .i64 c.kind,.int .i64 c.c_,.int .i64 c.block,.int .i64 c.d_,.int .i64 c.bV,.int .i64 c.aL,.int .i64 c.aE,.float .f64 c.ig]
def iL.hc (c:iL):HC:=⟨c.kind.toNat,c.c_.toNat,c.block.toNat,c.d_.toNat,c.bV.toNat,c.aL.toNat,c.aE.toNat,c.ig⟩
def Fe (n lo hi:Int):Bool:=js n && decide (lo<=n) && decide (n<=hi)
def iL.GL (c:iL):Prop:=1<=c.kind/\c.kind<=3/\Fe c.c_ 1 256=true/\Fe c.block 1 1024=true/\Fe c.d_ 16 131072=true/\c.c_<=c.d_/\1<=c.bV/\c.bV<=64/\1<=c.aL/\c.aL<=4096/\0<=c.aE/\c.aE<=16
def iL.ok (c:iL):Prop:=c.GL/\c.hc.e_<=4096
def iL.rB (c:iL):Prop:=(-9223372036854775808<=c.c_/\c.c_<9223372036854775808)/\(-9223372036854775808<=c.block/\c.block<9223372036854775808)/\(-9223372036854775808<=c.d_/\c.d_<9223372036854775808)
section
variable {w w':World}
def jV {n lo hi:Int} (h:Fe n lo hi=true):js n=true/\lo<=n/\n<=hi:=by
 unfold Fe at h;simp only[Bool.and_eq_true,decide_eq_true_eq] at h;exact⟨h.1.1,h.1.2,h.2⟩
def iL.GL.cells {c:iL} (h:c.GL):c.cells=c.hc.cells:=by
 obtain⟨h1,h2,h3,h4,h5,h6,h7,h8,h9,mV,oM,nI⟩:=h;have a3:=jV h3;have a4:=jV h4;have a5:=jV h5;unfold iL.cells HC.cells iL.hc;simp only;rw[Int.toNat_of_nonneg (by omega),Int.toNat_of_nonneg (by omega),Int.toNat_of_nonneg (by omega),Int.toNat_of_nonneg (by omega),Int.toNat_of_nonneg (by omega),Int.toNat_of_nonneg (by omega),Int.toNat_of_nonneg (by omega)]
open Classical in
def AL (c:iL) (hi:c.rB) (w:World):WR 106 #[.agg c.cells] w (.int .i64 (if c.ok then 0 else 22)) λw'=>Below w.heap.size w w':=by
 have mZ:=a_ (λW=>sr c.c_ 1 256 hi.1 W);have lZ:=a_ (λW=>sr c.block 1 1024 hi.2.1 W);have na:=a_ (λW=>sr c.d_ 16 131072 hi.2.2 W);have mT:c.GL->∀W,WR 108 #[.agg c.cells] W (c.hc.e_:Nat) λw'=>Below W.heap.size W w':=λh W=>by
  rw[h.cells];obtain⟨h1,h2,h3,h4,h5,h6,h7,h8,h9,mV,oM,nI⟩:=h;have a3:=jV h3;have a4:=jV h4;have a5:=jV h5;have e2:c.hc.c_=c.c_.toNat:=rfl;have e3:c.hc.block=c.block.toNat:=rfl;have e4:c.hc.d_=c.d_.toNat:=rfl;have e5:c.hc.aE=c.aE.toNat:=rfl;exact xK (by omega) (by omega) (by omega) (by omega)
 have mT:=a_ mT;have ho:c.ok↔c.GL/\c.hc.e_<=4096:=Iff.rfl;rw[show (js c.c_ && decide (1<=c.c_) && decide (c.c_<=256))=Fe c.c_ 1 256 from rfl] at mZ;rw[show (js c.block && decide (1<=c.block) && decide (c.block<=1024))=Fe c.block 1 1024 from rfl] at lZ;rw[show (js c.d_ && decide (16<=c.d_) && decide (c.d_<=131072))=Fe c.d_ 16 131072 from rfl] at na;obtain⟨cd,ji⟩:∃cd:Int,(if c.ok then 0 else 22:Int)=cd:=⟨_,rfl⟩
 rw[ji];have jz:=a_ (show (¬c.GL->cd=22)/\(c.GL->c.hc.e_<=4096->cd=0)/\(¬c.hc.e_<=4096->cd=22) from⟨λq=>ji▸b_ λz=>q z.1,λq r=>ji▸b9 ⟨q,r⟩,λq=>ji▸b_ λz=>q z.2⟩);clear ji ho hi;generalize c.hc.e_=rm at *;unfold iL.GL at jz mT;unfold iL.cells at *;obtain⟨kd,pg,bk,wd,sl,st,ah,tg⟩:=c;simp only at *;generalize Fe pg 1 256=p2 at *;generalize Fe bk 1 1024=p3 at *;generalize Fe wd 16 131072=p4 at *;have D0:=a_ ((ag.refl (At.nil (w:=w))).box #[kd,pg,bk,wd,sl,st,ah,.float .f64 tg] 24);have q:=D0.has.head;obtain⟨c0,c1,c2,c3,c4,c5,c6,c7, -⟩:=gD q;clear q;obtain⟨B,hB⟩:∃B,w.heap.size=B:=⟨_,rfl⟩
 rw[hB] at c0 c1 c2 c3 c4 c5 c6 c7;by_cases LZ:1<=kd
 rotate_left
 ·have ji:=jz.1 (λz=>LZ z.1);have oT:=a_ ji;clear ji mT jz;go_enter func106,ntmps106;have HQ:=mZ;clear mZ
  go_upto_region 1 with fail
  generalize World.alloc _ _=w0 at *
  go_wp2_with (first | (go_at_call 189;refine (HQ _).kq ?_;rintro w1 rfl;clear HQ;first | (have HQ:=lZ;clear lZ) | (have HQ:=na;clear na) | skip) | (go_at_call 108;refine (mY _).kq ?_;rintro w1 bp;have D1:=a_ (D0.grow bp);clear bp))
  go_ret;exact⟨by rw[oT.out];rfl,by first | exact D0.below | (have z:=D0.below;rw[hB] at z;exact z)⟩
 by_cases Ox:kd<=3
 rotate_left
 ·have ji:=jz.1 (λz=>Ox z.2.1);have oT:=a_ ji;clear ji mT jz;go_enter func106,ntmps106;have HQ:=mZ;clear mZ
  go_upto_region 1 with fail
  generalize World.alloc _ _=w0 at *
  go_wp2_with (first | (go_at_call 189;refine (HQ _).kq ?_;rintro w1 rfl;clear HQ;first | (have HQ:=lZ;clear lZ) | (have HQ:=na;clear na) | skip) | (go_at_call 108;refine (mY _).kq ?_;rintro w1 bp;have D1:=a_ (D0.grow bp);clear bp))
  go_ret;exact⟨by rw[oT.out];rfl,by first | exact D0.below | (have z:=D0.below;rw[hB] at z;exact z)⟩
 by_cases Bi:p2=true
 rotate_left
 ·have ji:=jz.1 (λz=>Bi z.2.2.1);have oT:=a_ ji;clear ji mT jz;obtain rfl:p2=false:=by simpa using Bi
  go_enter func106,ntmps106;have HQ:=mZ;clear mZ
  go_upto_region 1 with fail
  generalize World.alloc _ _=w0 at *
  go_wp2_with (first | (go_at_call 189;refine (HQ _).kq ?_;rintro w1 rfl;clear HQ;first | (have HQ:=lZ;clear lZ) | (have HQ:=na;clear na) | skip) | (go_at_call 108;refine (mY _).kq ?_;rintro w1 bp;have D1:=a_ (D0.grow bp);clear bp))
  go_ret;exact⟨by rw[oT.out];rfl,by first | exact D0.below | (have z:=D0.below;rw[hB] at z;exact z)⟩
 obtain rfl:p2=true:=Bi;by_cases Qr:p3=true
 rotate_left
 ·have ji:=jz.1 (λz=>Qr z.2.2.2.1);have oT:=a_ ji;clear ji mT jz;obtain rfl:p3=false:=by simpa using Qr
  go_enter func106,ntmps106;have HQ:=mZ;clear mZ
  go_upto_region 1 with fail
  generalize World.alloc _ _=w0 at *
  go_wp2_with (first | (go_at_call 189;refine (HQ _).kq ?_;rintro w1 rfl;clear HQ;first | (have HQ:=lZ;clear lZ) | (have HQ:=na;clear na) | skip) | (go_at_call 108;refine (mY _).kq ?_;rintro w1 bp;have D1:=a_ (D0.grow bp);clear bp))
  go_ret;exact⟨by rw[oT.out];rfl,by first | exact D0.below | (have z:=D0.below;rw[hB] at z;exact z)⟩
 obtain rfl:p3=true:=Qr;by_cases SV:p4=true
 rotate_left
 ·have ji:=jz.1 (λz=>SV z.2.2.2.2.1);have oT:=a_ ji;clear ji mT jz;obtain rfl:p4=false:=by simpa using SV
  go_enter func106,ntmps106;have HQ:=mZ;clear mZ
  go_upto_region 1 with fail
  generalize World.alloc _ _=w0 at *
  go_wp2_with (first | (go_at_call 189;refine (HQ _).kq ?_;rintro w1 rfl;clear HQ;first | (have HQ:=lZ;clear lZ) | (have HQ:=na;clear na) | skip) | (go_at_call 108;refine (mY _).kq ?_;rintro w1 bp;have D1:=a_ (D0.grow bp);clear bp))
  go_ret;exact⟨by rw[oT.out];rfl,by first | exact D0.below | (have z:=D0.below;rw[hB] at z;exact z)⟩
 obtain rfl:p4=true:=SV;by_cases SW:pg<=wd
 rotate_left
 ·have ji:=jz.1 (λz=>SW z.2.2.2.2.2.1);have oT:=a_ ji;clear ji mT jz;go_enter func106,ntmps106;have HQ:=mZ;clear mZ
  go_upto_region 1 with fail
  generalize World.alloc _ _=w0 at *
  go_wp2_with (first | (go_at_call 189;refine (HQ _).kq ?_;rintro w1 rfl;clear HQ;first | (have HQ:=lZ;clear lZ) | (have HQ:=na;clear na) | skip) | (go_at_call 108;refine (mY _).kq ?_;rintro w1 bp;have D1:=a_ (D0.grow bp);clear bp))
  go_ret;exact⟨by rw[oT.out];rfl,by first | exact D0.below | (have z:=D0.below;rw[hB] at z;exact z)⟩
 by_cases SX:1<=sl
 rotate_left
 ·have ji:=jz.1 (λz=>SX z.2.2.2.2.2.2.1);have oT:=a_ ji;clear ji mT jz;go_enter func106,ntmps106;have HQ:=mZ;clear mZ
  go_upto_region 1 with fail
  generalize World.alloc _ _=w0 at *
  go_wp2_with (first | (go_at_call 189;refine (HQ _).kq ?_;rintro w1 rfl;clear HQ;first | (have HQ:=lZ;clear lZ) | (have HQ:=na;clear na) | skip) | (go_at_call 108;refine (mY _).kq ?_;rintro w1 bp;have D1:=a_ (D0.grow bp);clear bp))
  go_ret;exact⟨by rw[oT.out];rfl,by first | exact D0.below | (have z:=D0.below;rw[hB] at z;exact z)⟩
 by_cases SY:sl<=64
 rotate_left
 ·have ji:=jz.1 (λz=>SY z.2.2.2.2.2.2.2.1);have oT:=a_ ji;clear ji mT jz;go_enter func106,ntmps106;have HQ:=mZ;clear mZ
  go_upto_region 1 with fail
  generalize World.alloc _ _=w0 at *
  go_wp2_with (first | (go_at_call 189;refine (HQ _).kq ?_;rintro w1 rfl;clear HQ;first | (have HQ:=lZ;clear lZ) | (have HQ:=na;clear na) | skip) | (go_at_call 108;refine (mY _).kq ?_;rintro w1 bp;have D1:=a_ (D0.grow bp);clear bp))
  go_ret;exact⟨by rw[oT.out];rfl,by first | exact D0.below | (have z:=D0.below;rw[hB] at z;exact z)⟩
 by_cases SZ:1<=st
 rotate_left
 ·have ji:=jz.1 (λz=>SZ z.2.2.2.2.2.2.2.2.1);have oT:=a_ ji;clear ji mT jz;go_enter func106,ntmps106;have HQ:=mZ;clear mZ
  go_upto_region 1 with fail
  generalize World.alloc _ _=w0 at *
  go_wp2_with (first | (go_at_call 189;refine (HQ _).kq ?_;rintro w1 rfl;clear HQ;first | (have HQ:=lZ;clear lZ) | (have HQ:=na;clear na) | skip) | (go_at_call 108;refine (mY _).kq ?_;rintro w1 bp;have D1:=a_ (D0.grow bp);clear bp))
  go_ret;exact⟨by rw[oT.out];rfl,by first | exact D0.below | (have z:=D0.below;rw[hB] at z;exact z)⟩
 by_cases Ta:st<=4096
 rotate_left
 ·have ji:=jz.1 (λz=>Ta z.2.2.2.2.2.2.2.2.2.1);have oT:=a_ ji;clear ji mT jz;go_enter func106,ntmps106;have HQ:=mZ;clear mZ
  go_upto_region 1 with fail
  generalize World.alloc _ _=w0 at *
  go_wp2_with (first | (go_at_call 189;refine (HQ _).kq ?_;rintro w1 rfl;clear HQ;first | (have HQ:=lZ;clear lZ) | (have HQ:=na;clear na) | skip) | (go_at_call 108;refine (mY _).kq ?_;rintro w1 bp;have D1:=a_ (D0.grow bp);clear bp))
  go_ret;exact⟨by rw[oT.out];rfl,by first | exact D0.below | (have z:=D0.below;rw[hB] at z;exact z)⟩
 by_cases KK:0<=ah
 rotate_left
 ·have ji:=jz.1 (λz=>KK z.2.2.2.2.2.2.2.2.2.2.1);have oT:=a_ ji;clear ji mT jz;go_enter func106,ntmps106;have HQ:=mZ;clear mZ
  go_upto_region 1 with fail
  generalize World.alloc _ _=w0 at *
  go_wp2_with (first | (go_at_call 189;refine (HQ _).kq ?_;rintro w1 rfl;clear HQ;first | (have HQ:=lZ;clear lZ) | (have HQ:=na;clear na) | skip) | (go_at_call 108;refine (mY _).kq ?_;rintro w1 bp;have D1:=a_ (D0.grow bp);clear bp))
  go_ret;exact⟨by rw[oT.out];rfl,by first | exact D0.below | (have z:=D0.below;rw[hB] at z;exact z)⟩
 by_cases KL:ah<=16
 rotate_left
 ·have ji:=jz.1 (λz=>KL z.2.2.2.2.2.2.2.2.2.2.2);have oT:=a_ ji;clear ji mT jz;go_enter func106,ntmps106;have HQ:=mZ;clear mZ
  go_upto_region 1 with fail
  generalize World.alloc _ _=w0 at *
  go_wp2_with (first | (go_at_call 189;refine (HQ _).kq ?_;rintro w1 rfl;clear HQ;first | (have HQ:=lZ;clear lZ) | (have HQ:=na;clear na) | skip) | (go_at_call 108;refine (mY _).kq ?_;rintro w1 bp;have D1:=a_ (D0.grow bp);clear bp))
  go_ret;exact⟨by rw[oT.out];rfl,by first | exact D0.below | (have z:=D0.below;rw[hB] at z;exact z)⟩
 have mY:=a_ (mT ⟨LZ,Ox,rfl,rfl,rfl,SW,SX,SY,SZ,Ta,KK,KL⟩);by_cases hr:rm<=4096
 ·have oT:=a_ (jz.2.1 ⟨LZ,Ox,rfl,rfl,rfl,SW,SX,SY,SZ,Ta,KK,KL⟩ hr);have g1:¬(4096:Int)<rm:=by omega
  clear mT jz;go_enter func106,ntmps106;have HQ:=mZ;clear mZ
  go_upto_region 1 with fail
  generalize World.alloc _ _=w0 at *
  go_wp2_with (first | (go_at_call 189;refine (HQ _).kq ?_;rintro w1 rfl;clear HQ;first | (have HQ:=lZ;clear lZ) | (have HQ:=na;clear na) | skip) | (go_at_call 108;refine (mY _).kq ?_;rintro w1 bp;have D1:=a_ (D0.grow bp);clear bp))
  go_ret;exact⟨by rw[oT.out];rfl,by first | exact D1.below | (have z:=D1.below;rw[hB] at z;exact z)⟩
 ·have oT:=a_ (jz.2.2 hr);have g1:(4096:Int)<rm:=by omega
  clear mT jz;go_enter func106,ntmps106;have HQ:=mZ;clear mZ
  go_upto_region 1 with fail
  generalize World.alloc _ _=w0 at *
  go_wp2_with (first | (go_at_call 189;refine (HQ _).kq ?_;rintro w1 rfl;clear HQ;first | (have HQ:=lZ;clear lZ) | (have HQ:=na;clear na) | skip) | (go_at_call 108;refine (mY _).kq ?_;rintro w1 bp;have D1:=a_ (D0.grow bp);clear bp))
  go_ret;exact⟨by rw[oT.out];rfl,by first | exact D1.below | (have z:=D1.below;rw[hB] at z;exact z)⟩
end
end
def pR:∀n:Nat,n<2049->js (n:Int)=true->∃k,k<=11/\n=2^k:=by
 have h:∀n:Fin 2049,js ((n.val:Nat):Int)=true->∃k:Fin 12,n.val=2^k.val:=by decide+kernel
 intro n hn hp;obtain⟨k,hk⟩:=h ⟨n,hn⟩ hp;exact⟨k.val,by omega,hk⟩
def iL.ok.hc {c:iL} (h:c.ok) (hw:c.d_<=2048):c.hc.Ok:=by
 obtain⟨⟨h1,h2,h3,h4,h5,h6,h7,h8,h9,mV,oM,nI⟩,hr⟩:=h;have a3:=jV h3;have a4:=jV h4;have a5:=jV h5;have e1:c.hc.kind=c.kind.toNat:=rfl;have e2:c.hc.c_=c.c_.toNat:=rfl;have e3:c.hc.block=c.block.toNat:=rfl;have e4:c.hc.d_=c.d_.toNat:=rfl;have e5:c.hc.aE=c.aE.toNat:=rfl;have e6:c.hc.bV=c.bV.toNat:=rfl;have e7:c.hc.aL=c.aL.toNat:=rfl;have n2:(c.c_.toNat:Int)=c.c_:=Int.toNat_of_nonneg (by omega);have n3:(c.block.toNat:Int)=c.block:=Int.toNat_of_nonneg (by omega);have n4:(c.d_.toNat:Int)=c.d_:=Int.toNat_of_nonneg (by omega);obtain⟨k2,l2,q2⟩:=pR c.c_.toNat (by omega) (by rw[n2];exact a3.1);obtain⟨k3,l3,q3⟩:=pR c.block.toNat (by omega) (by rw[n3];exact a4.1);obtain⟨k4,l4,q4⟩:=pR c.d_.toNat (by omega) (by rw[n4];exact a5.1);have wZ:k2<=8:=by
  refine Decidable.byContradiction λq=>?_
  have:2^9<=2^k2:=Nat.pow_le_pow_right (by omega) (by omega);omega
 have hk3:k3<=10:=by
  refine Decidable.byContradiction λq=>?_
  have:2^11<=2^k3:=Nat.pow_le_pow_right (by omega) (by omega);omega
 exact {
  kind:=by omega
  c_:=by
   rw[e2,q2];rcases (show k2=0\/k2=1\/k2=2\/k2=3\/k2=4\/k2=5\/k2=6\/k2=7\/k2=8 by omega) with rfl | rfl | rfl | rfl | rfl | rfl | rfl | rfl | rfl<;>(unfold Fr.dp;simp)
  block:=⟨k3,hk3,by rw[e3,q3]⟩
  d_:=⟨k4,by rw[e4,q4]⟩
  GQ:=by omega
  pw:=by omega
  bV:=by omega
  aL:=by omega
  aE:=by omega
  e_:=hr}
def MH.new0 (c:HC):MH:=⟨c.d_,[],List.replicate c.bV 0⟩
def HS.new (c:HC):HS:=⟨c,VS.zero,List.replicate c.bV 0,c.c_,c.c_,none,0,0,.new0 c⟩
def xx:∀n,aG (λ_=>false) n=0
 | 0=>rfl
 | n+1=>by rw[bM,xx n];rfl
def HS.yp {c:HC} (h:c.Ok):(HS.new c).Good where
 aX:={
  bG:=h
  aa:= .inl rfl
  top:=⟨Nat.le_refl _,Nat.le_add_right _ _⟩
  tP:=λa=>by show (0:Nat)<_;omega
  used:=(xx _).symm
  aM:=Nat.zero_le _
  closed:=λ_ p _=>by
   constructor
   ·intro q
    cases q
   ·rintro⟨a,h1,h2,_⟩;have h1:c.c_<=a:=h1;have h2:a<c.c_:=h2;omega
  opened:=λk q=>by cases q}
 rep:=by
  have hz:∀a∈(HS.new c).m.S,a=0:=λa ha=>List.eq_of_mem_replicate ha
  refine⟨λ_=>False,λ_=>0,?_⟩;exact {
   pos:=by
    have:=h.fX.1;show 0<c.c_
    omega
   zero:=rfl
   xf:=λa q=>q.elim
   inj:=λa b q=>q.elim
   root:=λa ha=> .inl (hz a ha)
   rs:=by
    show List.replicate c.bV 0=(List.replicate c.bV 0).map λ_=>0
    rw[List.map_replicate]
   cl:=λa q=>q.elim
   wl:=λa q=>q.elim
   lies:=λa q=>q.elim
   apart:=λa b q=>q.elim
   hd:=λa q=>q.elim
   Cr:=λa i q=>q.elim
   small:=λa=>by show (0:Nat)<_;omega}
 yB:=⟨List.length_replicate,rfl⟩
 more:=λk q=>by cases q
section
attribute [local go_sem] Oper.semAt_some
section
variable {w w':World}
def new_no (c:iL) (hi:c.rB) (h:¬c.ok) (w:World):WR 42 #[.agg c.cells] w (.tuple #[.pointer none,(22:Int)]) λw'=>Below w.heap.size w w':=by
 have qT:=a_ (λW=>AL c hi W);rw[b_ h] at qT;unfold iL.cells at *;obtain⟨kd,pg,bk,wd,sl,st,ah,tg⟩:=c;simp only at *;have D0:=a_ ((ag.refl (At.nil (w:=w))).box #[kd,pg,bk,wd,sl,st,ah,.float .f64 tg] 24);have q:=D0.has.head;obtain⟨c0,c1,c2,c3,c4,c5,c6,c7, -⟩:=gD q;clear q h hi;go_enter func42,ntmps42
 go_upto_region 1 with fail
 generalize World.alloc _ _=w0 at *
 go_wp2_with (go_at_call 106;refine (qT _).kq ?_;rintro w1 bp;have D1:=a_ (D0.grow bp);clear bp)
 refine bodyPost_ret (by simp[results,results42,go_sem];rfl) rfl ?_;exact⟨rfl,D1.below⟩
end
section
variable {w w':World}
def new_yes0 (cx:iL) (hi:cx.rB) (hok:cx.ok) (c:HC) (Vt:cx.cells=c.cells) (h:c.Ok) (w:World):WA 42 #[.agg c.cells] w λe w'=>∃hb m rb,e= .returned (.tuple #[Wz hb,Wy])/\∃R,ak hb m rb (HS.new c) 0 R/\ag [] R w w':=by
 have qT:=a_ (λW=>AL cx hi W);rw[b9 hok,Vt] at qT;obtain⟨d1,d2,d3,d4,d5, -⟩:=h.fX;have hsl:=h.bV;have hw2:=h.GQ;have Ov:=h.pw;have zS:=h.block.le;have xP:=h.aE;have CA:=h.e_;have Bo:1<=c.e_:=by
  have:1<=c.d_/c.c_:=(Nat.le_div_iff_mul_le (by omega)).2 (by omega);unfold HC.e_
  split
  ·omega
  ·split<;>omega
 have mT:=a_ (λW=>xK (w:=W) (c:=c) (by omega) (by omega) (by omega) (by omega));have Lo:=a_ (λW=>mem_new c.mw c.c_ c.e_ W (by omega) (by omega) d3 h.c_ Bo CA);have Uc:=a_ (λW=>rts_new c.bV W hsl.1 hsl.2);have Lt:=a_ (λm Rm W (hm:aH m c.mw c.c_ c.e_ 0 VS.zero Rm) (hR:Has Rm W)=>Ff hm hR (by omega) c.c_ (c.c_+c.d_) ⟨by omega,by omega⟩);have Aa:c.mw=c.c_+c.d_+(if c.kind=3 then 0 else c.d_):=rfl;have FR:=a_ (λhb m rb run Rr Rm (hr:dO rb (List.replicate c.bV 0) Rr) (hm:aH m c.mw c.c_ c.e_ 0 VS.zero Rm)=>(show ak hb m rb (HS.new c) 0 ((hb,bK c m rb run none 0 0)::(run,bF m c.c_ c.c_ (c.c_+c.d_))::(Rr++Rm)) from⟨Nat.zero_le _,Nat.zero_le _,run,none,Rr,Rm,hr,cJ.KZ rfl hm,rfl⟩));generalize HS.new c=Sn at *;generalize c.e_=rm at *;generalize c.mw=mw at *;unfold bK at FR;unfold HC.cells at *;clear Vt hi hok h d2 d3 d4 d5 Bo CA xP zS;obtain⟨kd,pg,bk,wd,sl,st,ah,tg⟩:=c;simp only[Option.map_none] at *;have s1:=eH ((pg:Int)+wd);have s2:=eH ((pg:Int)+wd+wd);have e1:((pg+wd:Nat):Int)=(pg:Int)+wd:=by omega
 simp only[e1] at Lt FR;clear e1 Ov hw2 hsl d1;have D0:=a_ ((ag.refl (At.nil (w:=w))).box #[kd,pg,bk,wd,sl,st,ah,.float .f64 tg] 24);obtain⟨B1,FD⟩:∃B1,w.heap.size=B1:=⟨_,rfl⟩
 rw[FD] at D0;have q:=D0.has.head;obtain⟨c0,c1,c2,c3,c4,c5,c6,c7, -⟩:=gD q;clear q;by_cases k3:kd=3
 ·have e3:mw=pg+wd:=by rw[Aa,b9 k3,Nat.add_zero]
  have e4:((mw:Nat):Int)=(pg:Int)+wd:=by omega
  rw[e4] at Lo;clear Aa e3 e4;subst k3;go_enter func42,ntmps42
  go_upto_region 1 with fail
  generalize World.alloc _ _=w0 at *
  go_upto_region 4 with (go_at_call 106;refine (qT _).kq ?_;rintro w1 bp;have D1:=a_ (D0.grow bp);clear bp)
  clear c0 c1 c2 c3 c4 c5 c6 c7 D0;have q:=D1.has.head;obtain⟨c0,c1,c2,c3,c4,c5,c6,c7, -⟩:=gD q;clear q
  go_upto_region 8 with fail
  have D2:=a_ (D1.box #[(3:Nat),pg,bk,wd,sl,st,ah,.float .f64 tg,.pointer none,.pointer none,.pointer none,.pointer none,Wy,Wy] 97);generalize World.alloc _ _=w2 at *;clear c0 c1 c2 c3 c4 c5 c6 c7 D1;generalize w1.heap.size=hb at *;have q:=D2.has.tail.head;obtain⟨c0,c1,c2,c3,c4,c5,c6,c7, -⟩:=gD q;clear q;have hHeld:=And.intro c0 (And.intro c1 (And.intro c2 (And.intro c3 (And.intro c4 (And.intro c5 (And.intro c6 (c7)))))));refine wp_region_held_drew (S:=λW=>W.cell? ⟨B1,0,none⟩=some (.int .i64 (3:Nat))/\W.cell? ⟨B1,1,none⟩=some (.int .i64 pg)/\W.cell? ⟨B1,2,none⟩=some (.int .i64 bk)/\W.cell? ⟨B1,3,none⟩=some (.int .i64 wd)/\W.cell? ⟨B1,4,none⟩=some (.int .i64 sl)/\W.cell? ⟨B1,5,none⟩=some (.int .i64 st)/\W.cell? ⟨B1,6,none⟩=some (.int .i64 ah)/\W.cell? ⟨B1,7,none⟩=some (.float .f64 tg)) (by kernel_rfl) ⟨c0,c1,c2,c3,c4,c5,c6,c7⟩ (λhHeld=>?_);refine bz 0 ?_;refine bz 1 ?_;refine bz 2 ?_;refine bz 3 ?_;refine bz 4 ?_;simp only[aI];refine pT 5 (λK hK=>?_);go_simp
  go_at_call 108
  refine (mT _).kq ?_;rintro w5 Gp;have D3:=a_ (D2.drew.grow Gp);clear c0 c1 c2 c3 c4 c5 c6 c7 hHeld Gp;have q:=D3.has.tail.head;obtain⟨c0,c1,c2,c3,c4,c5,c6,c7, -⟩:=gD q;clear q;have Ki:=And.intro c0 (And.intro c1 (And.intro c2 (And.intro c3 (And.intro c4 (And.intro c5 (And.intro c6 (c7)))))));refine hK _ _ Ki (λhHeld=>?_);clear hK K
  try simp only[aI]
  refine pT 6 (λK hK=>?_);go_simp
  go_at_call 107
  refine (Lo _).mono ?_;rintro e w6 ⟨m,rfl,Rm,hm,d6⟩;have HM:=a_ hm;have D4:=a_ ((D3.bh d6).perm (R':=(hb,WD #[(3:Nat),pg,bk,wd,sl,st,ah,.float .f64 tg,.pointer none,.pointer none,.pointer none,.pointer none,Wy,Wy] 97)::(B1,WD #[(3:Nat),pg,bk,wd,sl,st,ah,.float .f64 tg] 24)::Rm) aF);clear c0 c1 c2 c3 c4 c5 c6 c7 Ki hm d6;have q:=D4.has.tail.head;obtain⟨c0,c1,c2,c3,c4,c5,c6,c7, -⟩:=gD q;clear q;have Kj:=And.intro c0 (And.intro c1 (And.intro c2 (And.intro c3 (And.intro c4 (And.intro c5 (And.intro c6 (c7)))))));have a8:=an D4.has.head 8 (.pointer none) rfl;have f8:=br D4.has.head 8;refine hK _ _ Kj (λhHeld=>?_);clear hK K
  try simp only[aI]
  refine bz 7 ?_;refine bz 8 ?_;refine bz 9 ?_;refine bz 10 ?_;refine bz 11 ?_;simp only[aI];refine pT 12 (λK hK=>?_);go_simp;have D5:=a_ (D4.set 8 (Wz m));simp only[ma] at D5;have q:=D5.has.tail.head;refine hK _ _ ⟨an q 0 (.int .i64 (3:Nat)) rfl,an q 1 (.int .i64 pg) rfl,an q 2 (.int .i64 bk) rfl,an q 3 (.int .i64 wd) rfl,an q 4 (.int .i64 sl) rfl,an q 5 (.int .i64 st) rfl,an q 6 (.int .i64 ah) rfl,an q 7 (.float .f64 tg) rfl⟩ (λhHeld=>?_);clear hK K
  try simp only[aI]
  clear q hHeld;refine wpAnyH_done (by kernel_rfl) ?_ _
  try simp only[aI]
  generalize w6.setCell ⟨hb,8,none⟩ (.pointer (some ⟨m,0,none⟩))=w7 at *;clear c0 c1 c2 c3 c4 c5 c6 c7 Kj a8 f8 D4 D3 D2;have q:=D5.has.tail.head;obtain⟨c0,c1,c2,c3,c4,c5,c6,c7, -⟩:=gD q;clear q
  go_upto_region 10 with (go_at_call 109;refine (Uc _).mono ?_;rintro e w8 ⟨rb,rfl,Rr,hr,d8⟩;have HR:=a_ hr;have D6:=a_ ((D5.bh d8).perm (R':=(hb,.cells #[(3:Nat),pg,bk,wd,sl,st,ah,.float .f64 tg,Wz m,.pointer none,.pointer none,.pointer none,Wy,Wy] 97 (0,0))::(B1,.cells #[(3:Nat),pg,bk,wd,sl,st,ah,.float .f64 tg] 24 (0,0))::(Rr++Rm)) aF);clear hr d8;have a8:=an D6.has.head 8 (.pointer (some ⟨m,0,none⟩)) rfl;have a9:=an D6.has.head 9 (.pointer none) rfl;have f9:=br D6.has.head 9)
  have D7:=a_ (D6.set 9 (Wz rb));simp only[ma] at D7;generalize World.setCell _ _ _=w9 at *;clear c0 c1 c2 c3 c4 c5 c6 c7 a8 a9 f9 D6 D5;have q:=D7.has.tail.head;obtain⟨c0,c1,c2,c3,c4,c5,c6,c7, -⟩:=gD q;clear q;have a8:=an D7.has.head 8 (.pointer (some ⟨m,0,none⟩)) rfl;have Sq:=And.intro c1 (And.intro c3 a8);refine wp_region_held_drew (S:=λW=>W.cell? ⟨B1,1,none⟩=some (.int .i64 pg)/\W.cell? ⟨B1,3,none⟩=some (.int .i64 wd)/\W.cell? ⟨hb,8,none⟩=some (.pointer (some ⟨m,0,none⟩))) (by kernel_rfl) ⟨c1,c3,a8⟩ (λhHeld=>?_);refine bz 0 ?_;refine bz 1 ?_;refine bz 2 ?_;refine bz 3 ?_;refine bz 4 ?_;refine bz 5 ?_;refine bz 6 ?_;refine bz 7 ?_;refine bz 8 ?_;refine bz 9 ?_;refine bz 10 ?_;refine bz 11 ?_;simp only[aI];refine pT 12 (λK hK=>?_);go_simp
  go_at_call 110
  refine (Lt m Rm _ HM D7.drew.has.tail.tail.right).mono ?_;rintro e FN ⟨run,rfl,d10⟩;have D8:=a_ ((D7.drew.bh d10).perm (R':=(hb,.cells #[(3:Nat),pg,bk,wd,sl,st,ah,.float .f64 tg,Wz m,Wz rb,.pointer none,.pointer none,Wy,Wy] 97 (0,0))::(run,bF m pg pg (pg+wd))::(B1,.cells #[(3:Nat),pg,bk,wd,sl,st,ah,.float .f64 tg] 24 (0,0))::(Rr++Rm)) aF);clear c0 c1 c2 c3 c4 c5 c6 c7 Sq a8 d10;have q:=D8.has.tail.tail.head;have Sr:=And.intro (an q 1 (.int .i64 pg) rfl) (And.intro (an q 3 (.int .i64 wd) rfl) (an D8.has.head 8 (.pointer (some ⟨m,0,none⟩)) rfl));clear q;have Nb:=an D8.has.head 10 (.pointer none) rfl;have f10:=br D8.has.head 10;refine hK _ _ Sr (λhHeld=>?_);clear hK K
  try simp only[aI]
  refine bz 13 ?_;refine bz 14 ?_;refine bz 15 ?_;refine bz 16 ?_;refine bz 17 ?_;simp only[aI];refine pT 18 (λK hK=>?_);go_simp;have D9:=a_ (D8.set 10 (Wz run));simp only[ma] at D9;have q:=D9.has.tail.tail.head;refine hK _ _ ⟨an q 1 (.int .i64 pg) rfl,an q 3 (.int .i64 wd) rfl,an D9.has.head 8 (.pointer (some ⟨m,0,none⟩)) rfl⟩ (λhHeld=>?_);clear hK K
  try simp only[aI]
  clear q hHeld;refine wpAnyH_done (by kernel_rfl) ?_ _
  try simp only[aI]
  generalize FN.setCell ⟨hb,10,none⟩ (.pointer (some ⟨run,0,none⟩))=Wv at *;go_wp2;refine bodyPost_ret (by simp[results,results42,go_sem];rfl) rfl ?_;exact⟨hb,m,rb,rfl,_,FR hb m rb run Rr Rm HR HM,(D9.perm (R':=(B1,.cells #[(3:Nat),pg,bk,wd,sl,st,ah,.float .f64 tg] 24 (0,0))::(hb,.cells #[(3:Nat),pg,bk,wd,sl,st,ah,.float .f64 tg,Wz m,Wz rb,Wz run,.pointer none,Wy,Wy] 97 (0,0))::(run,bF m pg pg (pg+wd))::(Rr++Rm)) aF).tail⟩
 ·have e3:mw=pg+wd+wd:=by rw[Aa,b_ k3]
  have e4:((mw:Nat):Int)=(pg:Int)+wd+wd:=by omega
  have g3:¬(kd:Int)=3:=by omega
  rw[e4] at Lo;clear Aa e3 e4 k3;go_enter func42,ntmps42
  go_upto_region 1 with fail
  generalize World.alloc _ _=w0 at *
  go_upto_region 4 with (go_at_call 106;refine (qT _).kq ?_;rintro w1 bp;have D1:=a_ (D0.grow bp);clear bp)
  clear c0 c1 c2 c3 c4 c5 c6 c7 D0;have q:=D1.has.head;obtain⟨c0,c1,c2,c3,c4,c5,c6,c7, -⟩:=gD q;clear q
  go_upto_region 8 with fail
  have D2:=a_ (D1.box #[kd,pg,bk,wd,sl,st,ah,.float .f64 tg,.pointer none,.pointer none,.pointer none,.pointer none,Wy,Wy] 97);generalize World.alloc _ _=w2 at *;clear c0 c1 c2 c3 c4 c5 c6 c7 D1;generalize w1.heap.size=hb at *;have q:=D2.has.tail.head;obtain⟨c0,c1,c2,c3,c4,c5,c6,c7, -⟩:=gD q;clear q;have hHeld:=And.intro c0 (And.intro c1 (And.intro c2 (And.intro c3 (And.intro c4 (And.intro c5 (And.intro c6 (c7)))))));refine wp_region_held_drew (S:=λW=>W.cell? ⟨B1,0,none⟩=some (.int .i64 kd)/\W.cell? ⟨B1,1,none⟩=some (.int .i64 pg)/\W.cell? ⟨B1,2,none⟩=some (.int .i64 bk)/\W.cell? ⟨B1,3,none⟩=some (.int .i64 wd)/\W.cell? ⟨B1,4,none⟩=some (.int .i64 sl)/\W.cell? ⟨B1,5,none⟩=some (.int .i64 st)/\W.cell? ⟨B1,6,none⟩=some (.int .i64 ah)/\W.cell? ⟨B1,7,none⟩=some (.float .f64 tg)) (by kernel_rfl) ⟨c0,c1,c2,c3,c4,c5,c6,c7⟩ (λhHeld=>?_);refine bz 0 ?_;refine bz 1 ?_;refine bz 2 ?_;refine bz 3 ?_;refine bz 4 ?_;simp only[aI];refine pT 5 (λK hK=>?_);go_simp
  go_at_call 108
  refine (mT _).kq ?_;rintro w5 Gp;have D3:=a_ (D2.drew.grow Gp);clear c0 c1 c2 c3 c4 c5 c6 c7 hHeld Gp;have q:=D3.has.tail.head;obtain⟨c0,c1,c2,c3,c4,c5,c6,c7, -⟩:=gD q;clear q;have Ki:=And.intro c0 (And.intro c1 (And.intro c2 (And.intro c3 (And.intro c4 (And.intro c5 (And.intro c6 (c7)))))));refine hK _ _ Ki (λhHeld=>?_);clear hK K
  try simp only[aI]
  refine pT 6 (λK hK=>?_);go_simp
  go_at_call 107
  refine (Lo _).mono ?_;rintro e w6 ⟨m,rfl,Rm,hm,d6⟩;have HM:=a_ hm;have D4:=a_ ((D3.bh d6).perm (R':=(hb,WD #[kd,pg,bk,wd,sl,st,ah,.float .f64 tg,.pointer none,.pointer none,.pointer none,.pointer none,Wy,Wy] 97)::(B1,WD #[kd,pg,bk,wd,sl,st,ah,.float .f64 tg] 24)::Rm) aF);clear c0 c1 c2 c3 c4 c5 c6 c7 Ki hm d6;have q:=D4.has.tail.head;obtain⟨c0,c1,c2,c3,c4,c5,c6,c7, -⟩:=gD q;clear q;have Kj:=And.intro c0 (And.intro c1 (And.intro c2 (And.intro c3 (And.intro c4 (And.intro c5 (And.intro c6 (c7)))))));have a8:=an D4.has.head 8 (.pointer none) rfl;have f8:=br D4.has.head 8;refine hK _ _ Kj (λhHeld=>?_);clear hK K
  try simp only[aI]
  refine bz 7 ?_;refine bz 8 ?_;refine bz 9 ?_;refine bz 10 ?_;refine bz 11 ?_;simp only[aI];refine pT 12 (λK hK=>?_);go_simp;have D5:=a_ (D4.set 8 (Wz m));simp only[ma] at D5;have q:=D5.has.tail.head;refine hK _ _ ⟨an q 0 (.int .i64 kd) rfl,an q 1 (.int .i64 pg) rfl,an q 2 (.int .i64 bk) rfl,an q 3 (.int .i64 wd) rfl,an q 4 (.int .i64 sl) rfl,an q 5 (.int .i64 st) rfl,an q 6 (.int .i64 ah) rfl,an q 7 (.float .f64 tg) rfl⟩ (λhHeld=>?_);clear hK K
  try simp only[aI]
  clear q hHeld;refine wpAnyH_done (by kernel_rfl) ?_ _
  try simp only[aI]
  generalize w6.setCell ⟨hb,8,none⟩ (.pointer (some ⟨m,0,none⟩))=w7 at *;clear c0 c1 c2 c3 c4 c5 c6 c7 Kj a8 f8 D4 D3 D2;have q:=D5.has.tail.head;obtain⟨c0,c1,c2,c3,c4,c5,c6,c7, -⟩:=gD q;clear q
  go_upto_region 10 with (go_at_call 109;refine (Uc _).mono ?_;rintro e w8 ⟨rb,rfl,Rr,hr,d8⟩;have HR:=a_ hr;have D6:=a_ ((D5.bh d8).perm (R':=(hb,.cells #[kd,pg,bk,wd,sl,st,ah,.float .f64 tg,Wz m,.pointer none,.pointer none,.pointer none,Wy,Wy] 97 (0,0))::(B1,.cells #[kd,pg,bk,wd,sl,st,ah,.float .f64 tg] 24 (0,0))::(Rr++Rm)) aF);clear hr d8;have a8:=an D6.has.head 8 (.pointer (some ⟨m,0,none⟩)) rfl;have a9:=an D6.has.head 9 (.pointer none) rfl;have f9:=br D6.has.head 9)
  have D7:=a_ (D6.set 9 (Wz rb));simp only[ma] at D7;generalize World.setCell _ _ _=w9 at *;clear c0 c1 c2 c3 c4 c5 c6 c7 a8 a9 f9 D6 D5;have q:=D7.has.tail.head;obtain⟨c0,c1,c2,c3,c4,c5,c6,c7, -⟩:=gD q;clear q;have a8:=an D7.has.head 8 (.pointer (some ⟨m,0,none⟩)) rfl;have Sq:=And.intro c1 (And.intro c3 a8);refine wp_region_held_drew (S:=λW=>W.cell? ⟨B1,1,none⟩=some (.int .i64 pg)/\W.cell? ⟨B1,3,none⟩=some (.int .i64 wd)/\W.cell? ⟨hb,8,none⟩=some (.pointer (some ⟨m,0,none⟩))) (by kernel_rfl) ⟨c1,c3,a8⟩ (λhHeld=>?_);refine bz 0 ?_;refine bz 1 ?_;refine bz 2 ?_;refine bz 3 ?_;refine bz 4 ?_;refine bz 5 ?_;refine bz 6 ?_;refine bz 7 ?_;refine bz 8 ?_;refine bz 9 ?_;refine bz 10 ?_;refine bz 11 ?_;simp only[aI];refine pT 12 (λK hK=>?_);go_simp
  go_at_call 110
  refine (Lt m Rm _ HM D7.drew.has.tail.tail.right).mono ?_;rintro e FN ⟨run,rfl,d10⟩;have D8:=a_ ((D7.drew.bh d10).perm (R':=(hb,.cells #[kd,pg,bk,wd,sl,st,ah,.float .f64 tg,Wz m,Wz rb,.pointer none,.pointer none,Wy,Wy] 97 (0,0))::(run,bF m pg pg (pg+wd))::(B1,.cells #[kd,pg,bk,wd,sl,st,ah,.float .f64 tg] 24 (0,0))::(Rr++Rm)) aF);clear c0 c1 c2 c3 c4 c5 c6 c7 Sq a8 d10;have q:=D8.has.tail.tail.head;have Sr:=And.intro (an q 1 (.int .i64 pg) rfl) (And.intro (an q 3 (.int .i64 wd) rfl) (an D8.has.head 8 (.pointer (some ⟨m,0,none⟩)) rfl));clear q;have Nb:=an D8.has.head 10 (.pointer none) rfl;have f10:=br D8.has.head 10;refine hK _ _ Sr (λhHeld=>?_);clear hK K
  try simp only[aI]
  refine bz 13 ?_;refine bz 14 ?_;refine bz 15 ?_;refine bz 16 ?_;refine bz 17 ?_;simp only[aI];refine pT 18 (λK hK=>?_);go_simp;have D9:=a_ (D8.set 10 (Wz run));simp only[ma] at D9;have q:=D9.has.tail.tail.head;refine hK _ _ ⟨an q 1 (.int .i64 pg) rfl,an q 3 (.int .i64 wd) rfl,an D9.has.head 8 (.pointer (some ⟨m,0,none⟩)) rfl⟩ (λhHeld=>?_);clear hK K
  try simp only[aI]
  clear q hHeld;refine wpAnyH_done (by kernel_rfl) ?_ _
  try simp only[aI]
  generalize FN.setCell ⟨hb,10,none⟩ (.pointer (some ⟨run,0,none⟩))=Wv at *;go_wp2;refine bodyPost_ret (by simp[results,results42,go_sem];rfl) rfl ?_;exact⟨hb,m,rb,rfl,_,FR hb m rb run Rr Rm HR HM,(D9.perm (R':=(B1,.cells #[kd,pg,bk,wd,sl,st,ah,.float .f64 tg] 24 (0,0))::(hb,.cells #[kd,pg,bk,wd,sl,st,ah,.float .f64 tg,Wz m,Wz rb,Wz run,.pointer none,Wy,Wy] 97 (0,0))::(run,bF m pg pg (pg+wd))::(Rr++Rm)) aF).tail⟩
end
section
variable {w w':World}
def iQ (c:iL) (hi:c.rB) (hok:c.ok) (hw:c.d_<=2048) (w:World):WA 42 #[.agg c.cells] w λe w'=>∃hb m rb,e= .returned (.tuple #[Wz hb,Wy])/\∃R,ak hb m rb (HS.new c.hc) 0 R/\ag [] R w w':=by
 have e:=hok.1.cells;have h:=new_yes0 c hi hok c.hc e (hok.hc hw) w;rw[←e] at h;exact h
def rV (c:iL) (n:Nat):Bool:=decide (2048<c.d_) || decide (120<(n:Int))
def Iq (c:iL) (al:Option Addr) (n cap:Nat) (w:World):WR 24 #[.agg c.cells,.slice al n cap] w (.bool (rV c n)) λw'=>Below w.heap.size w w':=by
 unfold rV iL.cells;obtain⟨kd,pg,bk,wd,sl,st,ah,tg⟩:=c;simp only at *;have D0:=a_ ((ag.refl (At.nil (w:=w))).box #[kd,pg,bk,wd,sl,st,ah,.float .f64 tg] 24);have c3:=an D0.has.head 3 (.int .i64 wd) rfl;by_cases h1:2048<wd
 ·have d1:decide (2048<wd)=true:=decide_eq_true h1;rw[d1];go_enter func24,ntmps24
  go_upto_region 1 with fail
  generalize World.alloc _ _=w0 at *;go_wp2;go_ret;exact⟨rfl,D0.below⟩
 ·have d1:decide (2048<wd)=false:=decide_eq_false h1;rw[d1,Bool.false_or];go_enter func24,ntmps24
  go_upto_region 1 with fail
  generalize World.alloc _ _=w0 at *;go_wp2;go_ret;exact⟨rfl,D0.below⟩
def made_no (c:iL) (hi:c.rB) (al:Option Addr) (n cap:Nat) (h:rV c n=true\/¬c.ok) (w:World):WR 10 #[.agg c.cells,.slice al n cap] w (.pointer none) λw'=>Below w.heap.size w w':=by
 have HF:=a_ (λW=>Iq c al n cap W);have HN:=a_ (λW (q:¬c.ok)=>new_no c hi q W);generalize hfb:rV c n=fb at *;unfold iL.cells at *;have D0:=a_ ((ag.refl (At.nil (w:=w))).box #[c.kind,c.c_,c.block,c.d_,c.bV,c.aL,c.aE,.float .f64 c.ig] 24);have H:=a_ h;generalize c.ok=ok at *;obtain⟨kd,pg,bk,wd,sl,st,ah,tg⟩:=c;simp only at *;have q:=D0.has.head;obtain⟨c0,c1,c2,c3,c4,c5,c6,c7, -⟩:=gD q;clear q h hi hfb
 cases fb with
 | true=>
  go_enter func10,ntmps10
  go_upto_region 1 with fail
  generalize World.alloc _ _=w0 at *
  go_wp2_with (go_at_call 24;refine (HF _).kq ?_;rintro w1 bp;have D1:=a_ (D0.grow bp);clear bp)
  go_ret;exact⟨rfl,D1.below⟩
 | false=>
  have hq:¬ok:=H.resolve_left (by decide);have zF:=a_ (λW=>HN W hq);clear hq HN;go_enter func10,ntmps10
  go_upto_region 1 with fail
  generalize World.alloc _ _=w0 at *
  go_upto_region 3 with (go_at_call 24;refine (HF _).kq ?_;rintro w1 bp;have D1:=a_ (D0.grow bp);clear bp)
  clear c0 c1 c2 c3 c4 c5 c6 c7;have q:=D1.has.head;obtain⟨c0,c1,c2,c3,c4,c5,c6,c7, -⟩:=gD q;clear q
  go_wp2_with (go_at_call 42;refine (zF _).kq ?_;rintro w2 dw;have D2:=a_ (D1.grow dw);clear dw)
  go_ret;exact⟨rfl,D2.below⟩
def made_yes (c:iL) (hi:c.rB) (al:Option Addr) (n cap:Nat) (hf:rV c n=false) (hok:c.ok) (w:World):WA 10 #[.agg c.cells,.slice al n cap] w λe w'=>∃hb m rb,e= .returned (Wz hb)/\∃R,ak hb m rb (HS.new c.hc) 0 R/\ag [] R w w':=by
 have HF:=a_ (λW=>Iq c al n cap W);have hw:c.d_<=2048:=by
  unfold rV at hf;simp only[Bool.or_eq_false_iff,decide_eq_false_iff_not] at hf;omega
 have HN:=a_ (λW=>iQ c hi hok hw W);rw[hf] at HF;generalize HS.new c.hc=Sn at *;unfold iL.cells at *;have D0:=a_ ((ag.refl (At.nil (w:=w))).box #[c.kind,c.c_,c.block,c.d_,c.bV,c.aL,c.aE,.float .f64 c.ig] 24);clear hi hf hok hw;obtain⟨kd,pg,bk,wd,sl,st,ah,tg⟩:=c;simp only at *;have q:=D0.has.head;obtain⟨c0,c1,c2,c3,c4,c5,c6,c7, -⟩:=gD q;clear q;go_enter func10,ntmps10
 go_upto_region 1 with fail
 generalize World.alloc _ _=w0 at *
 go_upto_region 3 with (go_at_call 24;refine (HF _).kq ?_;rintro w1 bp;have D1:=a_ (D0.grow bp);clear bp)
 clear c0 c1 c2 c3 c4 c5 c6 c7;have q:=D1.has.head;obtain⟨c0,c1,c2,c3,c4,c5,c6,c7, -⟩:=gD q;clear q
 go_wp2_with (go_at_call 42;refine (HN _).mono ?_;rintro e w2 ⟨hb,m,rb,rfl,R,hh,d2⟩;have HH:=a_ hh;have D2:=a_ ((D1.bh d2).perm (R':= [(w.heap.size,.cells #[kd,pg,bk,wd,sl,st,ah,.float .f64 tg] 24 (0,0))]++R) aF);clear hh d2)
 go_ret;exact⟨hb,m,rb,rfl,R,HH,D2.drop⟩
end
end
def uh (f:Nat->List Nat) (hf:∀a,f a= []):∀n i l,lS f n i l=l
 | 0,_,_=>rfl
 | n+1,i,l=>by
  unfold lS
  split
  ·rw[hf];exact uh f hf n (i+1) l
  ·rfl
def MH.lB (m:MH) (hf:∀x∈m.L,x.p=0):m.aq=((m.S.foldl dT []).map λa=>(m.ob a).sz).sum:=by
 have h:∀a,m.pt a= []:=λa=>by
  have hp:(m.ob a).p=0:=by
   unfold MH.ob;rw[List.getD_eq_getElem?_getD]
   cases hq:m.L[a-1]? with
   | none=>rfl
   | some x=>exact hf x (List.mem_of_getElem? hq)
  unfold MH.pt;rw[hp];rfl
 unfold MH.aq MH.gU rF;rw[uh _ h]
def Io:MO:=⟨0,0,7,List.replicate 7 0⟩
def Ip:Hd.Ok 0 0 7:=by decide
def MH.rE {m:MH} {s:Int} {n:Nat} (hs:m.slot s) (hl:m.aq=n) (hc:n+8<=m.C):m.alloc s 0 0 7=((m.new 0 0 7).ic s.toNat (m.L.length+1),0):=by
 have e:(1+((0:Int)+0+7)).toNat=8:=rfl;unfold MH.alloc;rw[b9 hs,b9 Ip,e,hl,b9 hc];rfl
def MH.alloc_out {m:MH} {s:Int} {n:Nat} (hs:m.slot s) (hl:m.aq=n) (hc:¬n+8<=m.C):m.alloc s 0 0 7=(m,21):=by
 have e:(1+((0:Int)+0+7)).toNat=8:=rfl;unfold MH.alloc;rw[b9 hs,b9 Ip,e,hl,b_ hc]
def UW:MH:=⟨16,[],[0,0,0]⟩
def Sh:MH:=⟨16,[Io],[1,0,0]⟩
def Ns:MH:=⟨16,[Io,Io],[1,2,0]⟩
def UX:MH:=⟨16,[Io,Io],[0,2,0]⟩
def UY:MH:=⟨16,[Io,Io,Io],[0,2,3]⟩
def ex0_alloc:UW.alloc 0 0 0 7=(Sh,0):=MH.rE (n:=0) (by decide) (by rw[MH.lB _ (by decide)];rfl) (by decide)
def ex1_alloc:Sh.alloc 1 0 0 7=(Ns,0):=MH.rE (n:=8) (by decide) (by rw[MH.lB _ (by decide)];rfl) (by decide)
def ex2_alloc:Ns.alloc 2 0 0 7=(Ns,21):=MH.alloc_out (n:=16) (by decide) (by rw[MH.lB _ (by decide)];rfl) (by decide)
def ex3_alloc:UX.alloc 2 0 0 7=(UY,0):=MH.rE (n:=8) (by decide) (by rw[MH.lB _ (by decide)];rfl) (by decide)
section
variable {S S' S2:HS} {k:wR} {y:aJ} {s:ml}
end
section
attribute [local go_sem] Oper.semAt_some
def Im (k:Nat):iL:=⟨k,4,4,16,3,2,1,4607182418800017408⟩
def exC_ok {k:Nat} (h1:1<=k) (h3:k<=3):(Im k).ok/\(Im k).rB:=by
 rcases (show k=1\/k=2\/k=3 by omega) with rfl | rfl | rfl<;>exact⟨by unfold iL.ok iL.GL;decide+kernel,by unfold iL.rB;decide⟩
def some_ex (k:Nat) (W:World):WR 57 #[(k:Nat)] W (.agg (Im k).cells) λW'=>Below W.heap.size W W':=by
 have D0:=a_ ((ag.refl (At.nil (w:=W))).box #[Wy,Wy,Wy,Wy,Wy,Wy,Wy,.float .f64 0] 24);unfold iL.cells Im;simp only;obtain⟨B,hB⟩:∃B,W.heap.size=B:=⟨_,rfl⟩
 go_enter func57,ntmps57
 go_upto_region 1 with fail
 generalize World.alloc _ _=w0 at *;rw[hB] at D0;refine wp_region_lit ?_;refine wpList_step (λK hK=>?_);go_simp;refine hK _ _ ?_;clear hK K
 try simp only[aI]
 refine wpList_step (λK hK=>?_);go_simp;refine hK _ _ ?_;clear hK K
 try simp only[aI]
 refine wpList_step (λK hK=>?_);rw[b9 (by kernel_rfl)];refine wp_store_row 24 (.tmp 2) (.tmp 4) rfl B #[.int .i64 (k:Nat),.int .i64 4,.int .i64 4,.int .i64 16,.int .i64 3,.int .i64 2,.int .i64 1,.float .f64 4607182418800017408] rfl rfl 24 #[.int .i64 0,.int .i64 0,.int .i64 0,.int .i64 0,.int .i64 0,.int .i64 0,.int .i64 0,.float .f64 0] D0.has.head (by kernel_rfl) rfl (by first | kernel_rfl | simp[Value.oneCell']) ?_;refine hK _ _ ?_;clear hK K
 try simp only[aI]
 have D1:=a_ (D0.row (cs':= #[.int .i64 (k:Nat),.int .i64 4,.int .i64 4,.int .i64 16,.int .i64 3,.int .i64 2,.int .i64 1,.float .f64 4607182418800017408]) rfl);generalize w0.setRow B #[.int .i64 (k:Nat),.int .i64 4,.int .i64 4,.int .i64 16,.int .i64 3,.int .i64 2,.int .i64 1,.float .f64 4607182418800017408]=w7 at *;refine wpList_nil ?_;have q:=D1.has.head;obtain⟨r0,r1,r2,r3,r4,r5,r6,r7, -⟩:=gD q;clear q
 try go_wp2
 refine bodyPost_ret (v:= .agg #[(k:Nat),(4:Int),(4:Int),(16:Int),(3:Int),(2:Int),(1:Int),.float .f64 4607182418800017408]) (by simp[results,results57,go_sem,r0,r1,r2,r3,r4,r5,r6,r7]) rfl ⟨rfl,D1.below⟩
def dN (hb m rb:Nat) (S:HS) (T:Nat) (K:BL) (w W:World):Prop:=S.Good/\∃R,ak hb m rb S T R/\ag [] (R++K) w W
section
variable {hb m rb T T':Nat} {S S':HS} {R K K':BL} {w w' W W':World} {s p f o i k:Int}
def aD.nil:aD []:=fun⟨x,hx,_⟩=>by cases hx
def dN.below (h:dN hb m rb S T K w W):Below w.heap.size w W:=by
 obtain⟨-,R, -,d⟩:=h;exact d.below
def dN.tz (h:dN hb m rb S T K w W) (hT:ax w):ax W:=by
 obtain⟨-,R, -,d⟩:=h;exact d.tz hT .nil
def dN.grow (h:dN hb m rb S T K w W) (c:Below W.heap.size W W'):dN hb m rb S T K w W':=by
 obtain⟨hg,R,hh,d⟩:=h;exact⟨hg,R,hh,d.grow c⟩
def dN.perm (h:dN hb m rb S T K w W) (p:K.Perm K'):dN hb m rb S T K' w W:=by
 obtain⟨hg,R,hh,d⟩:=h;exact⟨hg,R,hh,d.perm (List.Perm.append_left R p)⟩
def dN.has (h:dN hb m rb S T K w W):Has K W:=by
 obtain⟨hg,R,hh,d⟩:=h;exact d.has.right
def dN.box (h:dN hb m rb S T K w W) (cs:Array Value) (ty:TypeId):dN hb m rb S T ((W.heap.size,.cells cs ty (0,0))::K) w (W.alloc (.cells cs ty)):=by
 obtain⟨hg,R,hh,d⟩:=h;exact⟨hg,R,hh,(d.box cs ty).perm (List.perm_middle.symm)⟩
def dN.row {X:Nat} {cs cs':Array Value} {ty:TypeId} (h:dN hb m rb S T ((X,.cells cs ty (0,0))::K) w W) (hs:cs.size=cs'.size):dN hb m rb S T ((X,.cells cs' ty (0,0))::K) w (W.setRow X cs'):=by
 obtain⟨hg,R,hh,d⟩:=h;exact⟨hg,R,hh,((d.perm List.perm_middle).row hs).perm List.perm_middle.symm⟩
def dN.less (h:dN hb m rb S T (K'++K) w W):dN hb m rb S T K w W:=by
 obtain⟨hg,R,hh,d⟩:=h;exact⟨hg,R,hh,(d.perm (R':=K'++(R++K)) aF).drop⟩
def vP {v:Value} {f:FuncId} {args:Array Value} (h:dN hb m rb S T K w W) (hT:ax w) (IG:S'.Good)
  (H:∀R,ak hb m rb S T R->At R W->ax W->aD R->Calls prog f args W λe W'=>e= .returned v/\∃R',ak hb m rb S' T' R'/\ag R R' W W'):
  Calls prog f args W λe W'=>e= .returned v/\dN hb m rb S' T' K w W':=by
 obtain⟨hg,R,hh,d⟩:=h;refine (H R hh d.at_.left (d.tz hT .nil) (aD.app.1 (d.cK hT .nil)).1).kq ?_;rintro W' ⟨R',h',d'⟩;exact⟨rfl,IG,R',h',d.step d'⟩
def hp_alloc (h:dN hb m rb S T K w W) (hT:ax w) (bJ:T<=400000000000000) (s p f o:Int):WR 11 #[Wz hb,s,.agg #[p,f,o]] W (.int .i64 (S.m.alloc s p f o).2) λW'=>dN hb m rb (S.alloc S.c.nC s p f o) (T+30000000000) K w W':=
 vP h hT (h.1.alloc _ _ _ _ _).1 λR hh hR lT hN=>xM hh h.1 hR lT hN bJ s p f o
def hp_clear (h:dN hb m rb S T K w W) (hT:ax w) (s:Int):WR 31 #[Wz hb,s] W (.int .i64 (S.m.clear s).2) λW'=>dN hb m rb (S.clear s) T K w W':=
 vP h hT (h.1.clear _).1 λR hh hR lT hN=>xN hh h.1 hR s
def IU (h:dN hb m rb S T K w W) (hT:ax w) (bJ:T<=400000000000000) (x:mU) (hx:x.Ok):WA 25 #[Wz hb,x.val] W λe W'=>e= .returned (S.m.op jY x).2.val/\dN hb m rb (S.op x) (T+30000000000) K w W':=
 vP h hT (h.1.op x hx).1 λR hh hR lT hN=>do_h hh h.1 hR lT hN bJ hx.1 hx.2
def Nt:Nat->MH
 | 0=>UW
 | 1=>Sh
 | 2=>Ns
 | 3=>Ns
 | 4=>UX
 | _=>UY
def ex_chain (k:Nat) (hT:ax w) (hb m rb:Nat) (K:BL):∃P:Nat->World->Prop,(∀W,dN hb m rb (HS.new (Im k).hc) 0 K w W->P 0 W)/\(∀i W,P i W->Has K W/\Below w.heap.size w W)/\
  (∀W,P 0 W->WR 11 #[Wz hb,Wy,.agg #[Wy,Wy,(7:Int)]] W Wy λW'=>P 1 W')/\
  (∀W,P 1 W->WR 11 #[Wz hb,(1:Int),.agg #[Wy,Wy,(7:Int)]] W Wy λW'=>P 2 W')/\
  (∀W,P 2 W->WR 11 #[Wz hb,(2:Int),.agg #[Wy,Wy,(7:Int)]] W (21:Int) λW'=>P 3 W')/\
  (∀W,P 3 W->WR 31 #[Wz hb,Wy] W Wy λW'=>P 4 W')/\
  (∀W,P 4 W->WR 11 #[Wz hb,(2:Int),.agg #[Wy,Wy,(7:Int)]] W Wy λW'=>P 5 W'):=by
 have step:∀(i:Nat) (s c:Int),i<=5->(Nt i).alloc s 0 0 7=(Nt (i+1),c)->∀W,(∃S T,dN hb m rb S T K w W/\T<=i*30000000000/\S.m=Nt i)->
   WR 11 #[Wz hb,s,.agg #[Wy,Wy,(7:Int)]] W c λW'=>∃S T,dN hb m rb S T K w W'/\T<=(i+1:Nat)*30000000000/\S.m=Nt (i+1):=by
  rintro i s c hi he W ⟨S,T,h,hT5,hm⟩;refine (hp_alloc h hT (by omega) s 0 0 7).kq ?_;rintro W' h';rw[hm,he];refine⟨rfl,_,_,h',by omega,?_⟩;rw[(h.1.alloc _ _ _ _ _).2.1,hm,he]
 refine⟨λi W=>∃S T,dN hb m rb S T K w W/\T<=i*30000000000/\S.m=Nt i,λW h=>⟨_,_,h,Nat.le_refl _,rfl⟩,?_,step 0 0 0 (by omega) ex0_alloc,step 1 1 0 (by omega) ex1_alloc,step 2 2 21 (by omega) ex2_alloc,?_,step 4 2 0 (by omega) ex3_alloc⟩
 ·rintro i W ⟨S,T,h, -, -⟩;exact⟨h.has,h.below⟩
 ·rintro W ⟨S,T,h,hT5,hm⟩;refine (hp_clear h hT 0).kq ?_;rintro W' h';rw[hm];refine⟨rfl,_,_,h',by omega,?_⟩;rw[(h.1.clear _).2.1,hm];rfl
def Bt (hT:ax w):WR 12 #[] w true λw'=>Below w.heap.size w w':=by
 have HT:=a_ hT;clear hT;go_enter func12,ntmps12;go_wp2
 go_loopw [1] (λiv wr=>∃k:Nat,iv= .int .i64 k/\1<=k/\k<=4/\Below w.heap.size w wr) (λiv _=>4-(intOf iv).toNat)
 case atStart=>exact⟨1,rfl,by omega,by omega,Below.refl _ _⟩
 case round=>
  obtain⟨k,rfl,h1,h4,zu⟩:=hrel;by_cases h3:k<=3
  ·have k3:(k:Int)<=3:=by omega
   obtain⟨ok,ints⟩:=exC_ok h1 h3;have PF:=a_ (some_ex k wr);have HN:=a_ (λW=>iQ (Im k) ints ok (show (16:Int)<=2048 by decide) W);have D0:=a_ (ag.new (R:= []) zu At.nil λx hx=>by cases hx);have TD:=a_ (λhb m rb K=>ex_chain k HT hb m rb K);have QN:=a_ (And.intro h3 h1);have HG:=a_ (HS.yp (ok.hc (show (16:Int)<=2048 by decide)));generalize (Im k).hc=chc at *;generalize (Im k).cells=ccs at *;clear zu ok ints h1 h3 h4
   go_upto_region 5 with (first
    | (go_at_call 57;refine PF.kq ?_;rintro w1 b1;have D1:=a_ (D0.grow b1);clear b1)
    | (go_at_call 42;refine (HN _).mono ?_;rintro e w2 ⟨hb,m,rb,rfl,R,hh,d⟩;have HH:=a_ (And.intro hh (D1.bh d));clear hh d))
   obtain⟨P,Vi,MB,Nx,Va,Ef,Vc,Vb⟩:=TD hb m rb [(w2.heap.size,.cells #[Wy,Wy,(7:Int)] 31 (0,0))];have X0:=a_ (Vi _ ((show dN hb m rb (HS.new chc) 0 [] w w2 from⟨HG,R,HH⟩).box #[Wy,Wy,(7:Int)] 31));have q:=(MB 0 _ X0).1.head;obtain⟨c0,c1,c2, -⟩:=ft q;have HQ:=a_ (And.intro Nx (And.intro Va (And.intro Ef (And.intro Vb trivial))));obtain⟨HC,HP⟩:=aO Vc MB;clear q Nx Va Ef Vb Vc MB Vi HH HG TD HN PF;obtain⟨B,hB⟩:∃B,w2.heap.size=B:=⟨_,rfl⟩
   rw[hB] at HP c0 c1 c2
   go_upto_region 6 with fail
   generalize World.alloc _ _=w3 at *
   go_wp2_with (first
    | (go_at_call 11;refine (HQ.1 _ X0).kq ?_;rintro w4 x4;have X1:=a_ x4;have TV:=a_ HQ.2;clear x4 X0 HQ c0 c1 c2;have X0:=a_ X1;have HQ:=a_ TV;clear X1 TV;have q:=(HP _ _ X0).1.head;have c0:=an q 0 (.int .i64 0) rfl;have c1:=an q 1 (.int .i64 0) rfl;have c2:=an q 2 (.int .i64 7) rfl;clear q)
    | (go_at_call 31;refine (HC _ X0).kq ?_;rintro w4 x4;have X1:=a_ x4;clear x4 X0 c0 c1 c2;have X0:=a_ X1;clear X1;have q:=(HP _ _ X0).1.head;have c0:=an q 0 (.int .i64 0) rfl;have c1:=an q 1 (.int .i64 0) rfl;have c2:=an q 2 (.int .i64 7) rfl;clear q))
   go_roundw
   case rel=>exact⟨k+1,by go_num,by have:=QN.out;omega,by have:=QN.out;omega,(HP _ _ X0).2⟩
   case measure=>have:=QN.out;simp[intOf];omega
  ·have k3:¬(k:Int)<=3:=by omega
   clear h1 h3 h4;go_wp2;go_ret;exact⟨rfl,zu⟩
end
end
structure iL.JT (c:iL):Prop where
 ints:c.rB
 kind: -9223372036854775808<=c.kind/\c.kind<=9223372036854775807
 bV: -9223372036854775808<=c.bV/\c.bV<=9223372036854775807
 aL: -9223372036854775808<=c.aL/\c.aL<=9223372036854775807
 aE: -9223372036854775808<=c.aE/\c.aE<=9223372036854775807
 ig:c.ig<18446744073709551616
def mU.cells (x:mU):Array Value:= #[.int .i64 x.k,.int .i64 x.a,.int .i64 x.b,.int .i64 x.i,.int .i64 x.hp,.int .i64 x.hf,.int .i64 x.ho,.int .u64 (x.wd:Nat),.float .f64 x.fl]
instance:Inhabited mU:=⟨⟨0,0,0,0,0,0,0,0,0⟩⟩
structure zJ (w:World) (a:Option Addr) (xs:List mU):Prop where
 many:xs.length<=maxLen
 each:∀x∈xs,x.Ok
 cell:∃b off,(xs= []\/a=some ⟨b,off,none⟩)/\∀i,i<xs.length->∀j v,(xs.getD i default).cells[j]?=some v->w.cell? ⟨b,off+i*9+j,none⟩=some v
def zJ.below {w w':World} {a:Option Addr} {xs:List mU} (h:zJ w a xs) (hb:Below w.heap.size w w'):zJ w' a xs:=
 ⟨h.many,h.each,by
  obtain⟨b,off,ha,hc⟩:=h.cell;exact⟨b,off,ha,λi hi j v hv=>bA hb (Nat.le_refl _) (hc i hi j v hv)⟩⟩
def list8 {α:Type} {cs:List α} (h:cs.length=8):∃c0 c1 c2 c3 c4 c5 c6 c7,cs= [c0,c1,c2,c3,c4,c5,c6,c7]:=by
 match cs,h with
 | [c0,c1,c2,c3,c4,c5,c6,c7],_=>exact⟨_,_,_,_,_,_,_,_,rfl⟩
def list9 {α:Type} {cs:List α} (h:cs.length=9):∃c0 c1 c2 c3 c4 c5 c6 c7 c8,cs= [c0,c1,c2,c3,c4,c5,c6,c7,c8]:=by
 match cs,h with
 | [c0,c1,c2,c3,c4,c5,c6,c7,c8],_=>exact⟨_,_,_,_,_,_,_,_,_,rfl⟩
section
variable {H:Type} {enc:TypeId×Value->H} {w:World} {fuel:Nat} {x:DataW H×List MemPlace}
def trod_float1 {P:Program} {t:TypeId} {k:FloatKind} {cs:List Value} {aa:Nat} {sp:Nat->Bool} {held:Bool} (ht:P.underlying t=some (.float k)) (h:DataW.trod enc P w aa sp held fuel t cs=some x):∃b,cs= [.float k b]/\(Lit.float k b).wf=true:=by
 cases fuel with
 | zero=>simp[DataW.trod] at h
 | succ n=>
  unfold DataW.trod at h;rw[ht] at h
  split at h<;>simp_all
def dG {c:Value} {o:Option (DataW H×List MemPlace)} (ho:∃y,o=some y) (h:DataW.trod enc prog w 0 (λ_=>true) true fuel 3 [c]=o):∃n:Int,c= .int .i64 n/\ -9223372036854775808<=n/\n<=9223372036854775807:=by
 obtain⟨y,rfl⟩:=ho;obtain⟨n,q,_,wn⟩:=DataW.trod_int underlying3 h;exact⟨n,(List.cons.inj q).1,bounds_i64 wn⟩
def u64_cell {c:Value} {o:Option (DataW H×List MemPlace)} (ho:∃y,o=some y) (h:DataW.trod enc prog w 0 (λ_=>true) true fuel 33 [c]=o):∃n:Nat,c= .int .u64 (n:Nat)/\n<18446744073709551616:=by
 obtain⟨y,rfl⟩:=ho;obtain⟨n,q,_,wn⟩:=DataW.trod_int underlying33 h;have:=bounds_u64 wn;exact⟨n.toNat,by rw[Int.toNat_of_nonneg this.1];exact (List.cons.inj q).1,by omega⟩
def xA {c:Value} {o:Option (DataW H×List MemPlace)} (ho:∃y,o=some y) (h:DataW.trod enc prog w 0 (λ_=>true) true fuel 22 [c]=o):∃n:Nat,c= .float .f64 n/\n<18446744073709551616:=by
 obtain⟨y,rfl⟩:=ho;obtain⟨n,q,wn⟩:=trod_float1 underlying22 h;simp only[Lit.wf,decide_eq_true_eq] at wn;exact⟨n,(List.cons.inj q).1,by omega⟩
def wz:prog.cellsOf 3=1:=by kernel_rfl
def one_u64:prog.cellsOf 33=1:=by kernel_rfl
def BC:prog.cellsOf 22=1:=by kernel_rfl
def cfg_of {cs:List Value} (h:DataW.trod enc prog w 0 (λ_=>true) true fuel 24 cs=some x):∃c:iL,c.JT/\cs=c.cells.toList:=by
 obtain⟨xs,n,_,_,hl,hlen,hf⟩:=DataW.trod_struct underlying24 h;rw[show prog.cellsOf 24=8 by kernel_rfl] at hl;have hx:∀i,i<8->∃y,xs[i]?=some y:=λi hi=>⟨xs[i]'(by rw[hlen];exact hi),List.getElem?_eq_getElem _⟩
 obtain⟨c0,c1,c2,c3,c4,c5,c6,c7,rfl⟩:=list8 hl;have t0:=hf 0 _ rfl;have t1:=hf 1 _ rfl;have t2:=hf 2 _ rfl;have t3:=hf 3 _ rfl;have t4:=hf 4 _ rfl;have t5:=hf 5 _ rfl;have t6:=hf 6 _ rfl;have t7:=hf 7 _ rfl;simp only[List.getElem_toArray,List.getElem_cons_zero,List.getElem_cons_succ,wz,BC,List.drop_succ_cons,List.drop_zero,List.take_succ_cons,List.take_zero] at t0 t1 t2 t3 t4 t5 t6 t7;obtain⟨n0,rfl,b0⟩:=dG (hx 0 (by omega)) t0;obtain⟨n1,rfl,b1⟩:=dG (hx 1 (by omega)) t1;obtain⟨n2,rfl,b2⟩:=dG (hx 2 (by omega)) t2;obtain⟨n3,rfl,b3⟩:=dG (hx 3 (by omega)) t3;obtain⟨n4,rfl,b4⟩:=dG (hx 4 (by omega)) t4;obtain⟨n5,rfl,b5⟩:=dG (hx 5 (by omega)) t5;obtain⟨n6,rfl,b6⟩:=dG (hx 6 (by omega)) t6;obtain⟨n7,rfl,b7⟩:=xA (hx 7 (by omega)) t7;exact⟨⟨n0,n1,n2,n3,n4,n5,n6,n7⟩,⟨⟨⟨b1.1,by show n1<_;omega⟩,⟨b2.1,by show n2<_;omega⟩,⟨b3.1,by show n3<_;omega⟩⟩,b0,b4,b5,b6,b7⟩,rfl⟩
def conf_of {v:Value} {d:DataW H} {p:List MemPlace} {r:Reach} {b0:Nat} (hv:Value.okWide prog w r b0 24 v) (h:DataW.Trod enc prog w 0 (λ_=>true) true 24 v d p):∃c:iL,c.JT/\v= .agg c.cells:=by
 obtain⟨cs,rfl,hsz⟩:=okWide_struct underlying24 hv;obtain⟨fuel,hf⟩:=h;obtain⟨c,hc,e⟩:=cfg_of (x:=(d,p)) hf;exact⟨c,hc,by rw[show cs=c.cells from Array.toList_inj.1 e]⟩
def op_of {cs:List Value} (h:DataW.trod enc prog w 0 (λ_=>true) true fuel 49 cs=some x):∃c:mU,c.Ok/\cs=c.cells.toList:=by
 obtain⟨xs,n,_,_,hl,hlen,hf⟩:=DataW.trod_struct underlying49 h;rw[show prog.cellsOf 49=9 by kernel_rfl] at hl;have hx:∀i,i<7->∃y,xs[i]?=some y:=λi hi=>⟨xs[i]'(by rw[hlen];exact hi),List.getElem?_eq_getElem _⟩
 obtain⟨c0,c1,c2,c3,c4,c5,c6,c7,c8,rfl⟩:=list9 hl;have t0:=hf 0 _ rfl;have t1:=hf 1 _ rfl;have t2:=hf 2 _ rfl;have t3:=hf 3 _ rfl;have t4:=hf 4 _ rfl;have t5:=hf 5 _ rfl;have t6:=hf 6 _ rfl;have three:prog.cellsOf 31=3:=by kernel_rfl
 simp only[List.getElem_toArray,List.getElem_cons_zero,List.getElem_cons_succ,wz,one_u64,BC,three,List.drop_succ_cons,List.drop_zero,List.take_succ_cons,List.take_zero] at t0 t1 t2 t3 t4 t5 t6;obtain⟨y4,q4⟩:=hx 4 (by omega);rw[q4] at t4;obtain⟨z0,z1,z2,n4,_,_,u0,u1,u2⟩:=Go.Deep.trod_struct3 underlying31 t4;simp only[wz,List.drop_succ_cons,List.drop_zero,List.take_succ_cons,List.take_zero] at u0 u1 u2;obtain⟨n0,rfl,b0⟩:=dG (hx 0 (by omega)) t0;obtain⟨n1,rfl,b1⟩:=dG (hx 1 (by omega)) t1;obtain⟨n2,rfl,b2⟩:=dG (hx 2 (by omega)) t2;obtain⟨n3,rfl,b3⟩:=dG (hx 3 (by omega)) t3;obtain⟨m0,rfl,d0⟩:=dG ⟨_,rfl⟩ u0;obtain⟨m1,rfl,d1⟩:=dG ⟨_,rfl⟩ u1;obtain⟨m2,rfl,d2⟩:=dG ⟨_,rfl⟩ u2;obtain⟨n5,rfl,b5⟩:=u64_cell (hx 5 (by omega)) t5;obtain⟨n6,rfl,b6⟩:=xA (hx 6 (by omega)) t6;exact⟨⟨n0,n1,n2,n3,m0,m1,m2,n5,n6⟩,⟨b5,b6⟩,rfl⟩
def ops_of {a:Option Addr} {len cap:Nat}
  (h:DataW.trod enc prog w 0 (λ_=>true) true fuel 46 [.slice a len cap]=some x):∃xs:List mU,xs.length=len/\zJ w a xs:=by
 rcases Go.Deep.open_slice underlying46 h with⟨hcs,_⟩ | ⟨ad,l,c,m,n,D,Pl,hcs,_,hl,hm,hmm,_,hel⟩
 ·simp at hcs;obtain⟨rfl,rfl,rfl⟩:=hcs;exact⟨[],rfl,⟨by simp,by simp,0,0,.inl rfl,by simp⟩⟩
 ·simp at hcs;obtain⟨rfl,rfl,rfl⟩:=hcs;have ky:m=cap:=by simpa using hmm
  subst ky;have ce:prog.cellsOf 49=9:=by kernel_rfl
  rw[ce] at hel;have NV:∀i,i<len->∃p:mU,p.Ok/\∀j v,p.cells[j]?=some v->w.cell? ((ad.add (i*9)).add j)=some v:=by
   intro i hi;obtain⟨cs',h1,h2⟩:=hel i (by omega);obtain⟨_,hlen,hcell⟩:=World.cells?_some h1;obtain⟨p,hp,rfl⟩:=op_of h2;refine⟨p,hp,λj v hv=>?_⟩;have hj:j<9:=by
    rcases Nat.lt_or_ge j 9 with q | q
    ·exact q
    ·rw[Array.getElem?_eq_none (show p.cells.size<=j from q)] at hv
     cases hv
   have:=hcell j hj;rw[this,Array.getElem?_toList];exact hv
  by_cases h0:len=0
  ·subst h0;exact⟨[],rfl,⟨by simp,by simp,0,0,.inl rfl,by simp⟩⟩
  ·obtain⟨b,off,spot⟩:=ad;obtain⟨p0,_,c0⟩:=NV 0 (by omega);have c0:=c0 0 _ rfl;have hspot:spot=none:=by simpa [Addr.add] using World.cell?_spot c0
   subst hspot;obtain⟨f,hf⟩:=Go.Deep.choose_lt NV;have Gw:∀i,i<len->((List.range len).map f).getD i default=f i:=λi hi=>by simp[hi]
   refine⟨(List.range len).map f,by simp,⟨by simp;omega,λx hx=>?_,b,off,.inr rfl,λi hi j v hv=>?_⟩⟩
   ·obtain⟨i,hi,rfl⟩:=List.mem_map.1 hx;exact (hf i (List.mem_range.1 hi)).1
   ·have qw:i<len:=by simpa using hi
    rw[Gw i qw] at hv;have g0:=(hf i qw).2 j v hv;rw[vz,vz] at g0;exact g0
end
def topOwn:ownKnob prog.godebug=none:=by kernel_rfl
def tq:laidOutB prog=true:=by kernel_rfl
def Fq:Tryz.prog.globalNamed "math/bits.deBruijn64tab" =some 1:=by kernel_rfl
def tzType:(prog.globals[1]?).map (·.type)=some 400:=by kernel_rfl
def oB:List (String×DataW Unit):= [("math/bits.deBruijn64tab",Rows.laid_math_bits_deBruijn64tab)]
def door_met (os:Os) (args:Array Value):laidMetH prog oB ((World.doorLaid prog 400 os).forCall (λ_ _=>0) ⟨#[],args,[]⟩).memory:=
 laidMetH_of_parts3 (fuel:=8) (laidMet_of_run' 8 (by kernel_rfl) (by kernel_rfl)) (by kernel_rfl) (by kernel_rfl)
def laid_list:(Rows.laid_math_bits_deBruijn64tab:DataW Unit)= .agg (Lib.deBruijn64tab.map λn=> .lit (.int .u8 (n:Nat))):=rfl
def tz_of_laid {W:World} (h:laidMetH prog oB W):ax W:=by
 rw[MakeChecks.laidMetH_plain _ _ _ (by kernel_rfl)] at h;obtain⟨ps,⟨g0,t0,UQ,f0,p0,q0,hg0,ht0,hv0,hd0,_,_⟩,_,_⟩:=h;obtain rfl:=Option.some.inj (Fq.symm.trans hg0);obtain rfl:=Option.some.inj (tzType.symm.trans ht0);obtain⟨xs,m1,rfl,uF,hlen,hn,hel⟩:=DataW.trod_array underlying400 hd0;have c1:prog.cellsOf 5=1:=by kernel_rfl
 have c64:prog.cellsOf 400=64:=by kernel_rfl
 rw[c1] at hel;rw[c64] at hlen;rw[laid_list] at uF;have hl:=(Prod.mk.inj uF).1;rw[DataW.agg.injEq] at hl;have PO:Lib.deBruijn64tab.length=64:=by decide
 intro j hj;rw[PO] at hj;have h0:=hel j hj;have KX:xs[j]?=some (xs[j]'(by omega)):=List.getElem?_eq_getElem _;rw[KX] at h0;obtain⟨k,e1,e2,_⟩:=DataW.trod_int underlying5 h0;have h3:(xs.map (·.1))[j]?=(Lib.deBruijn64tab.map λn=>(DataW.lit (.int .u8 ((n:Nat):Int)):DataW Unit))[j]?:=by rw[hl]
 rw[List.getElem?_map,KX,Option.map_some,e2,List.getElem?_map] at h3;have LS:Lib.deBruijn64tab[j]?=some (Lib.deBruijn64tab.getD j 0):=by
  rw[List.getD_eq_getElem?_getD,List.getElem?_eq_getElem (by rw[PO];exact hj)];rfl
 rw[LS,Option.map_some] at h3;have hk:k=(Lib.deBruijn64tab.getD j 0:Nat):=by
  have:=Option.some.inj h3
  injection this with q
  injection q
 subst hk;rw[World.var?_cell Fq hv0 j,←Array.getElem?_toList];rw[Nat.mul_one] at e1;have e4:(UQ.toList.drop j)[0]?=some (.int .u8 (Lib.deBruijn64tab.getD j 0:Nat)):=by
  have:((UQ.toList.drop j).take 1)[0]?=some (.int .u8 (Lib.deBruijn64tab.getD j 0:Nat)):=by rw[e1];rfl
  rwa [List.getElem?_take_of_lt (by omega)] at this
 rw[List.getElem?_drop,Nat.add_zero] at e4;exact e4
end Go.Proofs.YtmdgfpeglgpiiaaGreatDoor

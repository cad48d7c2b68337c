import Derived.LaidMore
import Derived.Test.YtmdgfpeglgpiiaaGreatDoorM01
set_option linter.unusedVariables false
set_option linter.unusedSimpArgs false
set_option maxRecDepth 100000
set_option maxHeartbeats 16000000
namespace Go.Proofs.YtmdgfpeglgpiiaaGreatDoor
open Go.ChangeShapes Go.WideShapes Go.ChangeAt Go.RowKit
open Lib (hid)
open Vq Oq Go.Proofs.Tryz
theorem topOwn:ownKnob prog.godebug=none:=by kernel_rfl
theorem tq:laidOutB prog=true:=by kernel_rfl
theorem Fq:Tryz.prog.globalNamed "math/bits.deBruijn64tab" =some 1:=by kernel_rfl
theorem tzType:(prog.globals[1]?).map (·.type)=some 400:=by kernel_rfl
def oB:List (String×DataW Unit):= [("math/bits.deBruijn64tab",Rows.laid_math_bits_deBruijn64tab)]
theorem door_met (os:Os) (args:Array Value):laidMetH prog oB ((World.doorLaid prog 400 os).forCall (λ_ _=>0) ⟨#[],args,[]⟩).memory:=
 laidMetH_of_parts3 (fuel:=8) (laidMet_of_run' 8 (by kernel_rfl) (by kernel_rfl)) (by kernel_rfl) (by kernel_rfl)
theorem laid_list:(Rows.laid_math_bits_deBruijn64tab:DataW Unit)= .agg (Lib.deBruijn64tab.map λn=> .lit (.int .u8 (n:Nat))):=rfl
theorem tz_of_laid {W:World} (h:laidMetH prog oB W):ax W:=by
 rw[MakeChecks.laidMetH_plain _ _ _ (by kernel_rfl)] at h;obtain⟨ps,⟨g0,t0,UQ,f0,p0,q0,hg0,ht0,hv0,hd0,_,_⟩,_,_⟩:=h;obtain rfl:=Option.some.inj (Fq.symm.trans hg0);obtain rfl:=Option.some.inj (tzType.symm.trans ht0);obtain⟨xs,m1,rfl,uF,hlen,hn,hel⟩:=DataW.trod_array underlying400 hd0;have c1:prog.cellsOf 5=1:=by kernel_rfl
 have c64:prog.cellsOf 400=64:=by kernel_rfl
 rw[c1] at hel;rw[c64] at hlen;rw[laid_list] at uF;have hl:=(Prod.mk.inj uF).1;rw[DataW.agg.injEq] at hl;have PO:Lib.deBruijn64tab.length=64:=by decide
 intro j hj;rw[PO] at hj;have h0:=hel j hj;have KX:xs[j]?=some (xs[j]'(by omega)):=List.getElem?_eq_getElem _;rw[KX] at h0;obtain⟨k,e1,e2,_⟩:=DataW.trod_int underlying5 h0;have h3:(xs.map (·.1))[j]?=(Lib.deBruijn64tab.map λn=>(DataW.lit (.int .u8 ((n:Nat):Int)):DataW Unit))[j]?:=by rw[hl]
 rw[List.getElem?_map,KX,Option.map_some,e2,List.getElem?_map] at h3;have LS:Lib.deBruijn64tab[j]?=some (Lib.deBruijn64tab.getD j 0):=by
  rw[List.getD_eq_getElem?_getD,List.getElem?_eq_getElem (by rw[PO];exact hj)];rfl
 rw[LS,Option.map_some] at h3;have hk:k=(Lib.deBruijn64tab.getD j 0:Nat):=by
  have:=Option.some.inj h3
  injection this with q
  injection q
 subst hk;rw[World.var?_cell Fq hv0 j,←Array.getElem?_toList];rw[Nat.mul_one] at e1;have e4:(UQ.toList.drop j)[0]?=some (.int .u8 (Lib.deBruijn64tab.getD j 0:Nat)):=by
  have:((UQ.toList.drop j).take 1)[0]?=some (.int .u8 (Lib.deBruijn64tab.getD j 0:Nat)):=by rw[e1];rfl
  rwa [List.getElem?_take_of_lt (by omega)] at this
 rw[List.getElem?_drop,Nat.add_zero] at e4;exact e4
end Go.Proofs.YtmdgfpeglgpiiaaGreatDoor

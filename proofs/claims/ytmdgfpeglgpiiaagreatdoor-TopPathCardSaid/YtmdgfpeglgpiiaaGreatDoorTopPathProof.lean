/- For every input the law 'TopPath' returns true, and each argument reads behind the call as it read before; the library's table is tied to the program's text. Without further conditions. (late) -/
import Derived.WalkKit
import Derived.ProofKit
import Derived.OpenShut
import Derived.ShutString
import Derived.ChangeOld
import Derived.Below
import Derived.SizedLaws
import Derived.SliceStrings
import Derived.Carry
import Derived.Lib.SmallJoins
import Derived.LaidMore
import Derived.SevenTiedAt
import Derived.Test.YtmdgfpeglgpiiaaGreatDoorCards
import Derived.Test.YtmdgfpeglgpiiaaGreatDoorTie
import Derived.Test.YtmdgfpeglgpiiaaGreatDoorP1
import Derived.Test.YtmdgfpeglgpiiaaGreatDoorTopPathFacts
set_option linter.all false
set_option maxRecDepth 100000
set_option maxHeartbeats 16000000
namespace Go.Proofs.YtmdgfpeglgpiiaaGreatDoor.topPath
open Vq Oq Go.Proofs.Tryz
open Go.ChangeShapes Go.WideShapes Go.ChangeAt Go.RowKit
def lifted (os:Os) (started:os.Started) (H:Type) (enc:TypeId×Value->H):
  ReturnsInHanded {} Tryz.checked os 8 .any (λw args=>(Rows.topPathSpec.pre enc prog Tryz.f8 [] false w args/\laidMetH prog oB w)/\sizedMet enc prog Tryz.f8 (OpenSpec.ofChange Rows.topPathSpec) false w args) (Rows.topPathSpec.post enc prog Tryz.f8 false true false false):=by
 refine returnsInHanded_of_change_and (C:=Tryz.checked) (X:=λw _=>laidMetH prog oB w) (λ_ _ _ hh h=>h.of_heap hh) topOwn started (by kernel_rfl) func8
  (ChangeSpec.witness_shaped (enc:=enc) (C:=Tryz.checked) (os:=os) (X:=λw _=>laidMetH prog oB w) false (World.doorLaid prog 400 os) #[.agg #[Wy,Wy,Wy,Wy,Wy,Wy,Wy,.float .f64 0],.slice none 0 0,.int .u8 0] 8 rfl (World.shaped_of_RefB (by kernel_rfl) (by kernel_rfl)) (by kernel_rfl) (by kernel_rfl) (by kernel_rfl) (door_met os _)) ?_
 intro W aa args ds gs before Ja hW hcnd hsz0 hL _;have hT:=tz_of_laid hL;have hval:∀(j:Nat) t v,Tryz.f8.params[j]?=some t->args[j]?=some v->Value.okWide prog W .any aa t v:=Ja;have hW':=hW;obtain⟨p,q,Nx,hV,rfl,hfz,hnd⟩:=hW;have hA:DataW.TrodAll enc prog W 0 (λ_=>true) true Tryz.f8.params.toList args.toList ds p:=Nx;rw[Tryz.params8] at hA hval;obtain⟨v0,vs0,d0,ds0,p0,q0,hargs,rfl,rfl,h0,r0⟩:=trodAll_cons hA;obtain⟨v1,vs1,d1,ds1,p1,q1,rfl,rfl,rfl,h1,r1⟩:=trodAll_cons r0;obtain⟨v2,vs2,d2,ds2,p2,q2,rfl,rfl,rfl,h2,r2⟩:=trodAll_cons r1;obtain⟨rfl,rfl,rfl⟩:=trodAll_nil r2;obtain rfl:args= #[v0,v1,v2]:=by cases args;simp_all
 obtain⟨rfl,rfl⟩:=trodVars_none hV;have k0:=h0;have lt0:∀x∈p0,x.block<W.heap.size:=by obtain⟨m,hm⟩:=k0;exact DataW.trod_lt m _ _ _ hm
 obtain⟨c0,ks,rfl⟩:=conf_of (hval 0 24 v0 rfl rfl) h0;have k1:=h1;have lt1:∀x∈p1,x.block<W.heap.size:=by obtain⟨m,hm⟩:=k1;exact DataW.trod_lt m _ _ _ hm
 obtain⟨a1,len1,cap1,rfl⟩:=okWide_slice underlying46 (hval 1 46 v1 rfl rfl);obtain⟨xs1,rfl,w1⟩:∃xs:List mU,xs.length=len1/\zJ W a1 xs:=by obtain⟨fuel,hf⟩:=h1;exact ops_of (by simpa [Value.cells] using hf)
 have k2:=h2;have lt2:∀x∈p2,x.block<W.heap.size:=by obtain⟨m,hm⟩:=k2;exact DataW.trod_lt m _ _ _ hm
 obtain⟨x2,rfl,rfl,rfl,wx2⟩:=open_int underlying5 (hval 2 5 v2 rfl rfl) h2;clear Nx Ja;have walked:=XG c0 ks a1 cap1 xs1 w1 x2 (bounds_u8 wx2) hT;refine walked.mono λe W' ⟨he,RZ⟩=>?_
 subst he;exact⟨_,rfl,_,_,_,[],_,[],hW',trodAll_mk1 (shut_bool underlying4 _),(trodAll_cons_mk (Below.trod tq (by kernel_rfl) (of_decide_eq_true (by kernel_rfl)) k0 RZ lt0) (trodAll_cons_mk (Below.trod tq (by kernel_rfl) (of_decide_eq_true (by kernel_rfl)) k1 RZ lt1) (trodAll_cons_mk (Below.trod tq (by kernel_rfl) (of_decide_eq_true (by kernel_rfl)) k2 RZ lt2) trodAll_mk0))),rfl,RZ.frame _,λh=>by cases h⟩
def over:Rows.TopPathSaid:=
 OpenClaim.holds_of_wide 8 Tryz.f8 rfl rfl rfl rfl rfl rfl rfl ⟨rfl,rfl,rfl,rfl,rfl⟩ rfl rfl rfl rfl rfl named func8 closed inst wrap (λos started H enc _=>lifted os started H enc)
def proved:Rows.TopPathCardSaid:=
 Claim7.holds_tied_plain_at .later [] [.data] true (true,"dad581d85041b50d1767ac5fce7866784ea3393a02c56183205e40028671b087") true
  over (λ_ h=>by cases h) wft (λ_ h=>by cases h) topPath_row_tie rfl ⟨rfl,rfl⟩ mainIs rfl
  (λf fn hf hfn=>by
   obtain rfl:f=8:=(Option.some.inj (named.symm.trans hf)).symm;obtain rfl:fn=Tryz.f8:=(Option.some.inj (func8.symm.trans hfn)).symm;exact⟨looks,λj t ht=>by
    rw[Tryz.params8] at ht;have hm:t∈ [24,46,5]:=by simpa using Array.mem_of_getElem? ht
    exact (show Tryz.pinned.checked.prog.wantsStandIn t=false by simpa using List.all_eq_true.1 wants t hm)⟩)
  goes
#print axioms proved
end Go.Proofs.YtmdgfpeglgpiiaaGreatDoor.topPath

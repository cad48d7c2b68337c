import Derived.Deep.CutRange
import Derived.Test.YtmdgfpeglgpiiaaGreatDoorB14
set_option linter.all false
set_option maxRecDepth 100000
set_option maxHeartbeats 16000000
namespace Go.Proofs.YtmdgfpeglgpiiaaGreatDoor
open Go.ChangeShapes Go.WideShapes Go.ChangeAt Go.RowKit
open Vq Oq Go.Proofs.Tryz
section
variable {P:Program} {ops:Array Oper} {Q:Exit->Act->World->Prop} {md:Region.Mode} {S:World->Prop} {k:Nat}
def cH (P:Program) (md:Region.Mode) (ops:Array Oper) (Q:Exit->Act->World->Prop) (S:World->Prop) (k:Nat):Nat->Array Bool->Act->World->Prop
 | 0,listed,a,w=>Region.ready md ops listed= []/\Q .normal a w
 | fuel+1,listed,a,w=>
  (Region.ready md ops listed= []->Q .normal a w)/\
  ∀i∈Region.ready md ops listed,wpOp P ops Q i (λa' w'=>(S w'\/(listed.setIfInBounds i true).getD k true=true)/\cH P md ops Q S k fuel (listed.setIfInBounds i true) a' w') a w
def tI:∀(fuel:Nat) (listed:Array Bool) (a:Act) (w:World),cH P md ops Q S k fuel listed a w->wpAny P md ops Q fuel listed a w
 | 0,_,_,_,h=>h
 | fuel+1,_,_,_,h=>⟨h.1,λi hi=>wpOp_mono (λa' w' h'=>tI fuel _ a' w' h'.2) (h.2 i hi)⟩
def uL {listed:Array Bool} {i:Nat} (h:listed.getD k true=true):(listed.setIfInBounds i true).getD k true=true:=by
 by_cases e:i=k
 ·subst e;rcases Nat.lt_or_ge i listed.size with h' | h'
  ·simp[h']
  ·simp[Array.getElem?_eq_none h']
 ·rw[getD_set_ne true e];exact h
def kc:∀(fuel:Nat) (listed:Array Bool) (a:Act) (w:World),listed.getD k true=true->wpAny P md ops Q fuel listed a w->cH P md ops Q S k fuel listed a w
 | 0,_,_,_,_,h=>h
 | fuel+1,_,_,_,hk,h=>⟨h.1,λi hi=>wpOp_mono (λa' w' h'=>⟨.inr (uL hk),kc fuel _ a' w' (uL hk) h'⟩) (h.2 i hi)⟩
def wpAnyK_first {i:Nat} {oi:Oper} {v:Value} (hi:ops[i]?=some oi) (jL:∀(j:Nat) (o:Oper) cs b,ops[j]?=some o->o.op≠ .select cs b)
  (hQ:∀c a w,Q (.panic c) (a.put oi.dst v) w->Q (.panic c) a w) {ok:Oper} (hk:ops[k]?=some ok) (mH:k≠i) (SN:∃e∈ok.after,Region.binds md e=true/\e.on=i):
  ∀(fuel:Nat) (listed:Array Bool) (a:Act) (w:World),listed.getD k true=false->
   (∀j oj,ops[j]?=some oj->j≠i->listed.getD j true=false->(∀e∈oj.after,Region.binds md e=true->e.on≠i)->oi.apart ops oj=true)->
   i∈Region.ready md ops listed->YieldsIf P ops S oi v a->S w->
   cH P md ops Q S k fuel (listed.setIfInBounds i true) (a.put oi.dst v) w->cH P md ops Q S k (fuel+1) listed a w:=by
 intro fuel
 induction fuel with
 | zero=>
  intro listed a w vN _ hr hy hS H;refine⟨λh=>(by rw[h] at hr;cases hr),λj hj=>?_⟩;by_cases hO:j=i
  ·subst hO;exact hy.wpOp hi hS ⟨.inl hS,H⟩
  ·have:=ready_mono hj hO;rw[H.1] at this
   cases this
 | succ fuel ih=>
  intro listed a w vN dm hr hy hS H;refine⟨λh=>(by rw[h] at hr;cases hr),λj hj=>?_⟩;by_cases hO:j=i
  ·subst hO;exact hy.wpOp hi hS ⟨.inl hS,H⟩
  ·have h1:=H.2 j (ready_mono hj hO);obtain⟨nO,oj,pE,hall⟩:=mem_ready.1 hj;have lV:∀e∈oj.after,Region.binds md e=true->e.on≠i:=λe he hb heq=>by
    have h1:=hall e he hb;have h0:=(mem_ready.1 hr).1;rw[heq] at h1;rcases Nat.lt_or_ge i listed.size with h' | h'
    ·simp[h'] at h0 h1;rw[h0] at h1;cases h1
    ·simp[Array.getElem?_eq_none h'] at h1
   have qP:j≠k:=λe=>by
    subst e;rw[hk] at pE
    cases pE
    obtain⟨e,he,hb,heq⟩:=SN;exact lV e he hb heq
   have Oc:(listed.setIfInBounds j true).getD k true=false:=by rw[getD_set_ne true qP];exact vN
   have zY:((listed.setIfInBounds i true).setIfInBounds j true).getD k true=false:=by rw[getD_set_ne true qP,getD_set_ne true (Ne.symm mH)];exact vN
   have h2:=wpOp_putIf pE (dm j oj pE hO nO lV) (λcs b=>jL i oi cs b hi) (λcs b=>jL j oj cs b pE) hQ hy h1;have jK:∀k ok,ops[k]?=some ok->k≠i->(listed.setIfInBounds j true).getD k true=false->
     (∀e∈ok.after,Region.binds md e=true->e.on≠i)->oi.apart ops ok=true:=λk ok hk mH hun hno=>by
    refine dm k ok hk mH ?_ hno;by_cases qP:j=k
    ·subst qP;exact nO
    ·rw[getD_set_ne true qP] at hun;exact hun
   refine wpOp_mono (λa' w' h3=>?_) h2;have Ei:S w':=by
    rcases h3.2.1 with h4 | h4
    ·exact h4
    ·rw[zY] at h4
     cases h4
   refine⟨.inl Ei,ih (listed.setIfInBounds j true) a' w' Oc jK (ready_mono hr (Ne.symm hO)) h3.1 Ei ?_⟩;rw[Array.setIfInBounds_comm _ _ hO];exact h3.2.2
def wpAnyK_first2 {i x:Nat} {oi:Oper} {v:Value} (hi:ops[i]?=some oi) (jL:∀(j:Nat) (o:Oper) cs b,ops[j]?=some o->o.op≠ .select cs b)
  (hQ:∀c a w,Q (.panic c) (a.put oi.dst v) w->Q (.panic c) a w) {ok ox:Oper} (hk:ops[k]?=some ok) (mH:k≠i) (hkx:∃e∈ok.after,Region.binds md e=true/\e.on=x) (hx:ops[x]?=some ox) (hxi:∃e∈ox.after,Region.binds md e=true/\e.on=i):
  ∀(fuel:Nat) (listed:Array Bool) (a:Act) (w:World),listed.getD k true=false->listed.getD x true=false->x<listed.size->
   (∀j oj,ops[j]?=some oj->j≠i->listed.getD j true=false->(∀e∈oj.after,Region.binds md e=true->e.on≠i)->oi.apart ops oj=true)->
   i∈Region.ready md ops listed->YieldsIf P ops S oi v a->S w->
   cH P md ops Q S k fuel (listed.setIfInBounds i true) (a.put oi.dst v) w->cH P md ops Q S k (fuel+1) listed a w:=by
 intro fuel
 induction fuel with
 | zero=>
  intro listed a w vN hxl gz _ hr hy hS H;refine⟨λh=>(by rw[h] at hr;cases hr),λj hj=>?_⟩;by_cases hO:j=i
  ·subst hO;exact hy.wpOp hi hS ⟨.inl hS,H⟩
  ·have:=ready_mono hj hO;rw[H.1] at this
   cases this
 | succ fuel ih=>
  intro listed a w vN hxl gz dm hr hy hS H;refine⟨λh=>(by rw[h] at hr;cases hr),λj hj=>?_⟩;by_cases hO:j=i
  ·subst hO;exact hy.wpOp hi hS ⟨.inl hS,H⟩
  ·have h1:=H.2 j (ready_mono hj hO);obtain⟨nO,oj,pE,hall⟩:=mem_ready.1 hj;have lV:∀e∈oj.after,Region.binds md e=true->e.on≠i:=λe he hb heq=>by
    have h1:=hall e he hb;have h0:=(mem_ready.1 hr).1;rw[heq] at h1;rcases Nat.lt_or_ge i listed.size with h' | h'
    ·simp[h'] at h0 h1;rw[h0] at h1;cases h1
    ·simp[Array.getElem?_eq_none h'] at h1
   have qP:j≠k:=λe=>by
    subst e;rw[hk] at pE
    cases pE
    obtain⟨e,he,hb,heq⟩:=hkx;have h1:=hall e he hb;rw[heq] at h1;simp[gz] at hxl h1;rw[hxl] at h1
    cases h1
   have hjx:j≠x:=λe=>by
    subst e;rw[hx] at pE
    cases pE
    obtain⟨e,he,hb,heq⟩:=hxi;exact lV e he hb heq
   have KX:(listed.setIfInBounds j true).getD x true=false:=by rw[getD_set_ne true hjx];exact hxl
   have Oc:(listed.setIfInBounds j true).getD k true=false:=by rw[getD_set_ne true qP];exact vN
   have zY:((listed.setIfInBounds i true).setIfInBounds j true).getD k true=false:=by rw[getD_set_ne true qP,getD_set_ne true (Ne.symm mH)];exact vN
   have h2:=wpOp_putIf pE (dm j oj pE hO nO lV) (λcs b=>jL i oi cs b hi) (λcs b=>jL j oj cs b pE) hQ hy h1;have jK:∀k ok,ops[k]?=some ok->k≠i->(listed.setIfInBounds j true).getD k true=false->
     (∀e∈ok.after,Region.binds md e=true->e.on≠i)->oi.apart ops ok=true:=λk ok hk mH hun hno=>by
    refine dm k ok hk mH ?_ hno;by_cases qP:j=k
    ·subst qP;exact nO
    ·rw[getD_set_ne true qP] at hun;exact hun
   refine wpOp_mono (λa' w' h3=>?_) h2;have Ei:S w':=by
    rcases h3.2.1 with h4 | h4
    ·exact h4
    ·rw[zY] at h4
     cases h4
   refine⟨.inl Ei,ih (listed.setIfInBounds j true) a' w' Oc KX (by simpa using gz) jK (ready_mono hr (Ne.symm hO)) h3.1 Ei ?_⟩;rw[Array.setIfInBounds_comm _ _ hO];exact h3.2.2
def wpAnyK_firstW {i:Nat} {oi:Oper} {v:Value} (hi:ops[i]?=some oi) (jL:∀(j:Nat) (o:Oper) cs b,ops[j]?=some o->o.op≠ .select cs b)
  (hQ:∀c a w,Q (.panic c) (a.put oi.dst v) w->Q (.panic c) a w) (mH:k≠i):
  ∀(fuel:Nat) (listed:Array Bool) (a:Act) (w:World),(S w\/listed.getD k true=true)->
   (∀j oj,ops[j]?=some oj->j≠i->listed.getD j true=false->(∀e∈oj.after,Region.binds md e=true->e.on≠i)->oi.apart ops oj=true)->
   i∈Region.ready md ops listed->YieldsIf P ops (λ_=>True) oi v a->
   cH P md ops Q S k fuel (listed.setIfInBounds i true) (a.put oi.dst v) w->cH P md ops Q S k (fuel+1) listed a w:=by
 intro fuel
 induction fuel with
 | zero=>
  intro listed a w hS _ hr hy H;refine⟨λh=>(by rw[h] at hr;cases hr),λj hj=>?_⟩;by_cases hO:j=i
  ·subst hO;exact hy.wpOp hi trivial ⟨hS.imp id (λq=>by rw[getD_set_ne true (Ne.symm mH)];exact q),H⟩
  ·have:=ready_mono hj hO;rw[H.1] at this
   cases this
 | succ fuel ih=>
  intro listed a w hS dm hr hy H;refine⟨λh=>(by rw[h] at hr;cases hr),λj hj=>?_⟩;by_cases hO:j=i
  ·subst hO;exact hy.wpOp hi trivial ⟨hS.imp id (λq=>by rw[getD_set_ne true (Ne.symm mH)];exact q),H⟩
  ·have h1:=H.2 j (ready_mono hj hO);obtain⟨nO,oj,pE,hall⟩:=mem_ready.1 hj;have lV:∀e∈oj.after,Region.binds md e=true->e.on≠i:=λe he hb heq=>by
    have h1:=hall e he hb;have h0:=(mem_ready.1 hr).1;rw[heq] at h1;rcases Nat.lt_or_ge i listed.size with h' | h'
    ·simp[h'] at h0 h1;rw[h0] at h1;cases h1
    ·simp[Array.getElem?_eq_none h'] at h1
   have zY:((listed.setIfInBounds i true).setIfInBounds j true).getD k true=(listed.setIfInBounds j true).getD k true:=by rw[Array.setIfInBounds_comm _ _ (Ne.symm hO),getD_set_ne true (Ne.symm mH)]
   have h2:=wpOp_putIf pE (dm j oj pE hO nO lV) (λcs b=>jL i oi cs b hi) (λcs b=>jL j oj cs b pE) hQ hy h1;have jK:∀k ok,ops[k]?=some ok->k≠i->(listed.setIfInBounds j true).getD k true=false->
     (∀e∈ok.after,Region.binds md e=true->e.on≠i)->oi.apart ops ok=true:=λk ok hk mH hun hno=>by
    refine dm k ok hk mH ?_ hno;by_cases qP:j=k
    ·subst qP;exact nO
    ·rw[getD_set_ne true qP] at hun;exact hun
   refine wpOp_mono (λa' w' h3=>?_) h2;have Ei:S w'\/(listed.setIfInBounds j true).getD k true=true:=h3.2.1.imp id (λq=>zY▸q);refine⟨Ei,ih (listed.setIfInBounds j true) a' w' Ei jK (ready_mono hr (Ne.symm hO)) h3.1 ?_⟩;rw[Array.setIfInBounds_comm _ _ hO];exact h3.2.2
def qb (md:Region.Mode) (ops:Array Oper) (k i:Nat):Bool:=match ops[k]? with
 | some o=>o.after.any λe=>Region.binds md e && e.on==i
 | none=>false
def lk {i:Nat} (h:qb md ops k i=true):∃ok,ops[k]?=some ok/\∃e∈ok.after,Region.binds md e=true/\e.on=i:=by
 unfold qb at h
 cases ho:ops[k]? with
 | none=>rw[ho] at h;cases h
 | some o=>
  rw[ho] at h;simp only at h;rw[Array.any_eq_true] at h;obtain⟨j,hj,h4⟩:=h;rw[Bool.and_eq_true] at h4;exact⟨o,rfl,o.after[j],Array.getElem_mem hj,h4.1,by simpa using h4.2⟩
def wpAnyK_take {i:Nat} {oi:Oper} {v:Value} {fuel:Nat} {listed:Array Bool} {a:Act} {w:World} (hi:ops[i]?=some oi)
  (hs:Region.noSelect ops=true) (hf:Region.free md ops listed i=true) (hr:(Region.ready md ops listed).contains i=true) (hn:qb md ops k i=true) (mH:(k==i)=false) (vN:listed.getD k true=false)
  (hQ:∀c a w,Q (.panic c) (a.put oi.dst v) w->Q (.panic c) a w) (hy:YieldsIf P ops S oi v a) (hS:S w)
  (h:cH P md ops Q S k fuel (listed.setIfInBounds i true) (a.put oi.dst v) w):cH P md ops Q S k (fuel+1) listed a w:=by
 obtain⟨ok,h1,h3⟩:=lk hn;exact wpAnyK_first hi (Region.noSelect_spec hs) hQ h1 (by simpa using mH) h3 fuel listed a w vN (Region.free_spec hi hf) (by simpa using hr) hy hS h
def wpAnyK_take2 (x:Nat) {i:Nat} {oi:Oper} {v:Value} {fuel:Nat} {listed:Array Bool} {a:Act} {w:World} (hi:ops[i]?=some oi)
  (hs:Region.noSelect ops=true) (hf:Region.free md ops listed i=true) (hr:(Region.ready md ops listed).contains i=true) (hn:qb md ops k x=true) (zy:qb md ops x i=true) (mH:(k==i)=false) (vN:listed.getD k true=false) (hxl:listed.getD x true=false) (gz:decide (x<listed.size)=true)
  (hQ:∀c a w,Q (.panic c) (a.put oi.dst v) w->Q (.panic c) a w) (hy:YieldsIf P ops S oi v a) (hS:S w)
  (h:cH P md ops Q S k fuel (listed.setIfInBounds i true) (a.put oi.dst v) w):cH P md ops Q S k (fuel+1) listed a w:=by
 obtain⟨ok,h1,h3⟩:=lk hn;obtain⟨ox,h4,h5⟩:=lk zy;exact wpAnyK_first2 hi (Region.noSelect_spec hs) hQ h1 (by simpa using mH) h3 h4 h5 fuel listed a w vN hxl (of_decide_eq_true gz) (Region.free_spec hi hf) (by simpa using hr) hy hS h
def wpAnyK_takeW {i:Nat} {oi:Oper} {v:Value} {fuel:Nat} {listed:Array Bool} {a:Act} {w:World} (hi:ops[i]?=some oi)
  (hs:Region.noSelect ops=true) (hf:Region.free md ops listed i=true) (hr:(Region.ready md ops listed).contains i=true) (mH:(k==i)=false)
  (hQ:∀c a w,Q (.panic c) (a.put oi.dst v) w->Q (.panic c) a w) (hy:YieldsIf P ops (λ_=>True) oi v a) (hS:S w)
  (h:cH P md ops Q S k fuel (listed.setIfInBounds i true) (a.put oi.dst v) w):cH P md ops Q S k (fuel+1) listed a w:=
 wpAnyK_firstW hi (Region.noSelect_spec hs) hQ (by simpa using mH) fuel listed a w (.inl hS) (Region.free_spec hi hf) (by simpa using hr) hy h
def de {o:Oper} {fuel:Nat} {listed:Array Bool} {a:Act} {w:World} (hr:Region.ready md ops listed= [k]) (ho:ops[k]?=some o) (hl:(listed.setIfInBounds k true).getD k true=true)
  (h:∀K':Act->World->Prop,Shut (∀a w,wpAny P md ops Q fuel (listed.setIfInBounds k true) a w->K' a w)->if Region.wanted o (yielded ops a.tmps)=true then Oper.wp P o a w K' Q else K' (a.put o.dst undef) w):
  cH P md ops Q S k (fuel+1) listed a w:=by
 refine⟨λh0=>(by rw[hr] at h0;cases h0),λj hj=>?_⟩;rw[hr,List.mem_singleton] at hj;subst hj;exact wpOp_step ho (λK' hK=>h K' (λa w hW=>hK a w ⟨.inr hl,kc _ _ _ _ hl hW⟩))
def tG {i:Nat} {o:Oper} {fuel:Nat} {listed:Array Bool} {a:Act} {w:World} (hr:Region.ready md ops listed= [i]) (ho:ops[i]?=some o)
  (h:∀K':Act->World->Prop,Shut (∀a w,S w->(S w->cH P md ops Q S k fuel (listed.setIfInBounds i true) a w)->K' a w)->if Region.wanted o (yielded ops a.tmps)=true then Oper.wp P o a w K' Q else K' (a.put o.dst undef) w):
  cH P md ops Q S k (fuel+1) listed a w:=by
 refine⟨λh0=>(by rw[hr] at h0;cases h0),λj hj=>?_⟩;rw[hr,List.mem_singleton] at hj;subst hj;exact wpOp_step ho (λK' hK=>h K' (λa w hS hW=>hK a w ⟨.inl hS,hW hS⟩))
def tH {i j:Nat} {o p:Oper} {fuel:Nat} {listed:Array Bool} {a:Act} {w:World} (hr:Region.ready md ops listed= [i,j]) (ho:ops[i]?=some o) (hp:ops[j]?=some p)
  (h:∀K':Act->World->Prop,Shut (∀a w,S w->(S w->cH P md ops Q S k fuel (listed.setIfInBounds i true) a w)->K' a w)->if Region.wanted o (yielded ops a.tmps)=true then Oper.wp P o a w K' Q else K' (a.put o.dst undef) w)
  (h':∀K':Act->World->Prop,Shut (∀a w,S w->(S w->cH P md ops Q S k fuel (listed.setIfInBounds j true) a w)->K' a w)->if Region.wanted p (yielded ops a.tmps)=true then Oper.wp P p a w K' Q else K' (a.put p.dst undef) w):
  cH P md ops Q S k (fuel+1) listed a w:=by
 refine⟨λh0=>(by rw[hr] at h0;cases h0),λq hq=>?_⟩;rw[hr] at hq;simp only[List.mem_cons,List.not_mem_nil,or_false] at hq;rcases hq with rfl | rfl
 ·exact wpOp_step ho (λK' hK=>h K' (λa w hS hW=>hK a w ⟨.inl hS,hW hS⟩))
 ·exact wpOp_step hp (λK' hK=>h' K' (λa w hS hW=>hK a w ⟨.inl hS,hW hS⟩))
def mi {j:Nat} {o p:Oper} {fuel:Nat} {listed:Array Bool} {a:Act} {w:World} (hr:Region.ready md ops listed= [k,j]) (ho:ops[k]?=some o) (hp:ops[j]?=some p) (hl:(listed.setIfInBounds k true).getD k true=true)
  (h:∀K':Act->World->Prop,Shut (∀a w,wpAny P md ops Q fuel (listed.setIfInBounds k true) a w->K' a w)->if Region.wanted o (yielded ops a.tmps)=true then Oper.wp P o a w K' Q else K' (a.put o.dst undef) w)
  (h':∀K':Act->World->Prop,Shut (∀a w,S w->(S w->cH P md ops Q S k fuel (listed.setIfInBounds j true) a w)->K' a w)->if Region.wanted p (yielded ops a.tmps)=true then Oper.wp P p a w K' Q else K' (a.put p.dst undef) w):
  cH P md ops Q S k (fuel+1) listed a w:=by
 refine⟨λh0=>(by rw[hr] at h0;cases h0),λq hq=>?_⟩;rw[hr] at hq;simp only[List.mem_cons,List.not_mem_nil,or_false] at hq;rcases hq with rfl | rfl
 ·exact wpOp_step ho (λK' hK=>h K' (λa w hW=>hK a w ⟨.inr hl,kc _ _ _ _ hl hW⟩))
 ·exact wpOp_step hp (λK' hK=>h' K' (λa w hS hW=>hK a w ⟨.inl hS,hW hS⟩))
def cE {id:Nat} {a:Act} {w:World} (k:Nat) (hm:P.follows .mixedOrders=true) (hS:S w.drew)
  (h:S w.drew->cH P .any ops Q S k ops.size (Array.replicate ops.size false) a w.drew):(Code.region id ops true).wp P Q a w:=
 wp_region_any hm (tI _ _ _ _ (h hS))
def aY {i:Nat} {o:Oper} {fuel:Nat} {listed:Array Bool} {a:Act} {w:World} (hr:Region.ready md ops listed= [i]) (ho:ops[i]?=some o)
  (h:∀K':Act->World->Prop,Shut (∀a w,wpAny P md ops Q fuel (listed.setIfInBounds i true) a w->K' a w)->if Region.wanted o (yielded ops a.tmps)=true then Oper.wp P o a w K' Q else K' (a.put o.dst undef) w):
  wpAny P md ops Q (fuel+1) listed a w:=by
 refine⟨λh0=>(by rw[hr] at h0;cases h0),λj hj=>?_⟩;rw[hr,List.mem_singleton] at hj;subst hj;exact wpOp_step ho h
end
def Jl {P:Program} {ops:Array Oper} {Q:Exit->Act->World->Prop} {md:Region.Mode} {S:World->Prop} {k:Nat} (i:Nat) {oi:Oper} {v:Value} {fuel:Nat} {listed:Array Bool} {a:Act} {w:World} (h:cH P md ops Q S k fuel (listed.setIfInBounds i true) (a.put oi.dst v) w) (hi:ops[i]?=some oi:=by rfl) (hs:Region.noSelect ops=true:=by kernel_rfl) (hf:Region.free md ops listed i=true:=by kernel_rfl) (hr:(Region.ready md ops listed).contains i=true:=by kernel_rfl) (hn:qb md ops k i=true:=by kernel_rfl) (mH:(k==i)=false:=by kernel_rfl) (vN:listed.getD k true=false:=by kernel_rfl) (hQ:∀c a w,Q (.panic c) (a.put oi.dst v) w->Q (.panic c) a w:=by exact λ_ _ _ h=>h) (hy:YieldsIf P ops S oi v a:=by exact Or.inl ⟨by kernel_rfl,by (intro w Gl;(try dsimp only at Gl);go_simp;try with_reducible rfl)⟩) (hS:S w:=by assumption):cH P md ops Q S k (fuel+1) listed a w:=wpAnyK_take hi hs hf hr hn mH vN hQ hy hS h
def ef {P:Program} {ops:Array Oper} {Q:Exit->Act->World->Prop} {md:Region.Mode} {S:World->Prop} {k:Nat} (i:Nat) {oi:Oper} {v:Value} {fuel:Nat} {listed:Array Bool} {a:Act} {w:World} (h:cH P md ops Q S k fuel (listed.setIfInBounds i true) (a.put oi.dst v) w) (hi:ops[i]?=some oi:=by rfl) (hs:Region.noSelect ops=true:=by kernel_rfl) (hf:Region.free md ops listed i=true:=by kernel_rfl) (hr:(Region.ready md ops listed).contains i=true:=by kernel_rfl) (mH:(k==i)=false:=by kernel_rfl) (hQ:∀c a w,Q (.panic c) (a.put oi.dst v) w->Q (.panic c) a w:=by exact λ_ _ _ h=>h) (hy:YieldsIf P ops (λ_=>True) oi v a:=by exact Or.inl ⟨by kernel_rfl,by (intro w Gl;clear Gl;go_simp;try with_reducible rfl)⟩) (hS:S w:=by assumption):cH P md ops Q S k (fuel+1) listed a w:=wpAnyK_takeW hi hs hf hr mH hQ hy hS h
open Go.Maps Go.Sort
section
attribute [local go_sem] Oper.semAt_some
section
variable {hb m rb T x y:Nat} {S S':HS} {R Rx Rr:BL} {w w':World} {cy:Option Nat} {s f i k:Int}
def HS.ep.xd (h:S.ep) (s:Int):(S.xd s).ep/\S.Alike (S.xd s):=by
 unfold HS.xd
 split
 ·exact⟨h,.refl S⟩
 ·exact⟨(h.ld _).1,h.jd _⟩
def HS.ld0_same (S:HS) (s:Int):(S.xd s).c=S.c/\(S.xd s).rs=S.rs/\(S.xd s).aa=S.aa/\(S.xd s).top=S.top/\(S.xd s).ae=S.ae/\(S.xd s).af=S.af:=by
 unfold HS.xd
 split
 ·exact⟨rfl,rfl,rfl,rfl,rfl,rfl⟩
 ·obtain⟨a1,a2,a3,a4,a5,a6,a7⟩:=S.iP (S.rt s);exact⟨a1,a2,a3,a4,a5,a6⟩
def HS.shape_eq (hs:S.m.slot s):S.shape s=(S.xd s).fin:=by
 unfold HS.shape HS.xd;rw[b9 hs]
 split<;>rfl
abbrev mq (a b c:Int):Obj:= .cells #[a,b,c] 31 (0,0)
def xO (h:ak hb m rb S T R) (hg:S.Good) (hR:At R w) (hT:ax w) (hN:aD R) (bJ:T<=700000000000000) (s:Int):
  WR 35 #[Wz hb,s] w (.tuple #[.agg #[.int .i64 (S.m.shape s).1,.int .i64 (S.m.shape s).2.1,.int .i64 (S.m.shape s).2.2.1],.int .i64 (S.m.shape s).2.2.2]) λw'=>∃R',ak hb m rb (S.shape s) (T+2000000) R'/\ag R R' w w':=by
 have Da:=a_ ((ag.refl hR).box #[Wy,Wy,Wy] 31);have dz:=a_ (h.more (T':=T+2000000) (by omega));obtain⟨B4,wV⟩:∃B4,w.heap.size=B4:=⟨_,rfl⟩
 by_cases hs:S.m.slot s
 ·have hok:=(hg.eF s).2 hs;have HF:=a_ (λB W (hd:ag R ((B,.cells #[s] 3 (0,0))::(w.heap.size,mq 0 0 0)::R) w W)=>jg (w:=W) s B 1 hok h hd.at_.tail.tail hd.has.head);rw[HS.shape_eq hs];obtain⟨en,dX,run,cy,Rr,Rx,hr,hM,rfl⟩:=h;have ko:=a_ (λW (hh:W.heap[hb]?=some (bK S.c m rb run cy S.ae S.af))=>jX (hb:=hb) (m:=m) (cy:=cy) W (az (S:=S) hh).c8 (az (S:=S) hh).cC);have qf:=a_ (λK W (hd:ag ((hb,bK S.c m rb run cy S.ae S.af)::(run,bF m S.aa S.top (S.aa+S.c.d_))::(Rr++Rx)) (Rx++K) w W)=>read_h (w:=W) hg hM hd.at_.left (hd.tz hT hN) (aD.app.1 (hd.cK hT hN)).1 (by omega) s hs);have jC:=a_ (λK Rx' W (hd:ag ((hb,bK S.c m rb run cy S.ae S.af)::(run,bF m S.aa S.top (S.aa+S.c.d_))::(Rr++Rx)) (Rx'++((hb,bK S.c m rb run cy S.ae S.af)::(run,bF m S.aa S.top (S.aa+S.c.d_))::(Rr++K))) w W) (hx:cJ m (S.xd s) T cy Rx')=>nD (w:=W) (ak.qJ (hb:=hb) (run:=run) en dX hr hx (S.ld0_same s)) ((hg.aX.xd s).1) ((hd.perm (R':=K++((hb,bK S.c m rb run cy S.ae S.af)::(run,bF m S.aa S.top (S.aa+S.c.d_))::(Rr++Rx'))) aF).drop.at_) (by omega));generalize (S.m.shape s).1=h1 at *;generalize (S.m.shape s).2.1=h2 at *;generalize (S.m.shape s).2.2.1=h3 at *;generalize (S.m.shape s).2.2.2=h4 at *;generalize S.xd s=S1 at *;obtain⟨uZ,gH⟩:∃uZ,(oR m cy).s.val=uZ:=⟨_,rfl⟩
  rw[gH] at ko qf;clear hr hM en dX hg hT hN dz gH hs hok;go_enter func35,ntmps35
  go_upto_region 1 with fail
  generalize kA:w.alloc _=w1;have D1:=a_ (show ag ((hb,bK S.c m rb run cy S.ae S.af)::(run,bF m S.aa S.top (S.aa+S.c.d_))::(Rr++Rx)) ((B4,mq 0 0 0)::(hb,bK S.c m rb run cy S.ae S.af)::(run,bF m S.aa S.top (S.aa+S.c.d_))::(Rr++Rx)) w w1 from by
   rw[←kA,←wV];exact Da)
  have Cb:=a_ (D1.box #[s] 3);rw[wV] at HF;clear Da kA
  go_upto_region 4 with (go_at_call 58;refine (HF _ _ Cb).mono ?_;rintro e w2 ⟨b,cp,Rf,rfl,hrow,d2⟩;have eh:=a_ hrow;have D2:=a_ ((Cb.bh d2).perm (R':=Rx++((hb,bK S.c m rb run cy S.ae S.af)::(run,bF m S.aa S.top (S.aa+S.c.d_))::(Rr++((B4,mq 0 0 0)::(w1.heap.size,.cells #[s] 3 (0,0))::Rf)))) aF);clear hrow d2)
  have c0:=eh w2 D2.has.right.tail.tail.right.tail.tail;have c8:=(az (S:=S) D2.has.right.head).c8;have cC:=(az (S:=S) D2.has.right.head).cC
  go_cut [7,8] from 20 to 28 (λc p wx=>∃B8 vu K,c= .int .i64 h4/\p= .pointer (some ⟨B8,0,none⟩)/\cJ m S1 T cy vu/\ag ((hb,bK S.c m rb run cy S.ae S.af)::(run,bF m S.aa S.top (S.aa+S.c.d_))::(Rr++Rx)) ((B8,mq h1 h2 h3)::(B4,mq 0 0 0)::(vu++((hb,bK S.c m rb run cy S.ae S.af)::(run,bF m S.aa S.top (S.aa+S.c.d_))::(Rr++K)))) w wx)
  case first=>
   have gd:=a_ (λRx K W (h:Has (Rx++((hb,bK S.c m rb run cy S.ae S.af)::(run,bF m S.aa S.top (S.aa+S.c.d_))::(Rr++((B4,mq 0 0 0)::(w1.heap.size,.cells #[s] 3 (0,0))::(Rf++K))))) W)=>(show W.cell? ⟨b,0,none⟩=some (.int .i64 (S.rt s:Nat)) from eh W h.right.tail.tail.right.tail.tail.left));have D3:=a_ (D2.drew.perm (R':=Rx++((hb,bK S.c m rb run cy S.ae S.af)::(run,bF m S.aa S.top (S.aa+S.c.d_))::(Rr++((B4,mq 0 0 0)::(w1.heap.size,.cells #[s] 3 (0,0))::(Rf++ []))))) aF);clear D2 c8 cC;refine cE (S:=λW=>W.cell? ⟨b,0,none⟩=some (.int .i64 (S.rt s:Nat))) 5 (by kernel_rfl) c0 (λhHeld=>?_);generalize w2.drew=w3 at *;refine ef 0 ?_;refine ef 2 ?_;refine ef 3 ?_;refine Jl 4 ?_;simp only[aI];refine tH (i:=1) (j:=9) (by decide+kernel) rfl rfl (λK hK=>?_) (λK hK=>?_)
   ·go_simp
    go_at_call 60
    refine (ko _ D3.has.right.head).kq ?_;rintro w4 rfl;refine hK _ _ hHeld (λhHeld=>?_);clear hK K
    try simp only[aI]
    refine mi (j:=9) (by decide+kernel) rfl rfl (by kernel_rfl) (λK hK=>?_) (λK hK=>?_)
    ·go_simp
     go_at_call 98
     refine (qf _ _ D3).kq ?_;rintro w5 ⟨JQ,x5,d5⟩;have D5:=a_ (D3.step d5);have X5:=a_ x5;clear d5 x5;refine hK _ _ ?_;clear hK K
     try simp only[aI]
     refine iZ 6 ?_;refine iZ 7 ?_;refine iZ 8 ?_;simp only[aI];refine aY (i:=9) (by decide+kernel) rfl (λK hK=>?_);go_simp;obtain⟨B8,Ny⟩:∃B8,w5.heap.size=B8:=⟨_,rfl⟩
     have D7:=a_ (D5.box #[Wy,Wy,Wy] 31);rw[Ny] at D7;refine hK _ _ ?_;clear hK K
     try simp only[aI]
     generalize w5.alloc _=w6 at *;have q:=D7.has.head;obtain⟨a0,a1,a2, -⟩:=ft q;obtain⟨f0,f1,f2, -⟩:=zN q;clear q;refine aY (i:=10) (by decide+kernel) rfl (λK hK=>?_);go_simp;have D8:=a_ (((D7.set 0 h1).set 1 h2).set 2 h3);refine hK _ _ ?_;clear hK K
     try simp only[aI]
     refine aY (i:=11) (by decide+kernel) rfl (λK hK=>?_);go_simp;refine hK _ _ ?_;clear hK K
     try simp only[aI]
     refine wpAny_done (by kernel_rfl) ?_ _
     try simp only[aI]
     go_wp2_with fail
     go_meet
     case rel=>exact⟨B8,JQ,((w1.heap.size,WD #[s] 3)::Rf),rfl,rfl,X5,D8.perm aF⟩
    ·go_simp;obtain⟨B8,Ny⟩:∃B8,w3.heap.size=B8:=⟨_,rfl⟩
     have D6:=a_ (D3.box #[Wy,Wy,Wy] 31);rw[Ny] at D6;refine hK _ _ (gd Rx [] _ D6.has.tail) (λhHeld=>?_);clear hK K
     try simp only[aI]
     generalize w3.alloc _=w6 at *;have FP:=a_ (D6.perm (R':=Rx++((hb,bK S.c m rb run cy S.ae S.af)::(run,bF m S.aa S.top (S.aa+S.c.d_))::(Rr++((B8,mq 0 0 0)::((B4,mq 0 0 0)::(w1.heap.size,.cells #[s] 3 (0,0))::(Rf++ [])))))) aF);refine de (by decide+kernel) rfl (by kernel_rfl) (λK hK=>?_);go_simp
     go_at_call 98
     refine (qf _ _ FP).kq ?_;rintro w5 ⟨JQ,x5,d5⟩;have D5:=a_ (FP.step d5);have X5:=a_ x5;clear d5 x5;refine hK _ _ ?_;clear hK K
     try simp only[aI]
     have D7:=a_ (D5.perm (R':=(B8,mq 0 0 0)::(JQ++((hb,bK S.c m rb run cy S.ae S.af)::(run,bF m S.aa S.top (S.aa+S.c.d_))::(Rr++((B4,mq 0 0 0)::(w1.heap.size,.cells #[s] 3 (0,0))::(Rf++ [])))))) aF);clear D5;refine iZ 6 ?_;refine iZ 7 ?_;refine iZ 8 ?_;simp only[aI];have q:=D7.has.head;obtain⟨a0,a1,a2, -⟩:=ft q;obtain⟨f0,f1,f2, -⟩:=zN q;clear q;refine aY (i:=10) (by decide+kernel) rfl (λK hK=>?_);go_simp;have D8:=a_ (((D7.set 0 h1).set 1 h2).set 2 h3);refine hK _ _ ?_;clear hK K
     try simp only[aI]
     refine aY (i:=11) (by decide+kernel) rfl (λK hK=>?_);go_simp;refine hK _ _ ?_;clear hK K
     try simp only[aI]
     refine wpAny_done (by kernel_rfl) ?_ _
     try simp only[aI]
     go_wp2_with fail
     go_meet
     case rel=>exact⟨B8,JQ,((w1.heap.size,WD #[s] 3)::Rf),rfl,rfl,X5,D8.perm aF⟩
   ·go_simp;obtain⟨B8,Ny⟩:∃B8,w3.heap.size=B8:=⟨_,rfl⟩
    have D6:=a_ (D3.box #[Wy,Wy,Wy] 31);rw[Ny] at D6;refine hK _ _ (gd Rx [] _ D6.has.tail) (λhHeld=>?_);clear hK K
    try simp only[aI]
    generalize w3.alloc _=w6 at *;have FP:=a_ (D6.perm (R':=Rx++((hb,bK S.c m rb run cy S.ae S.af)::(run,bF m S.aa S.top (S.aa+S.c.d_))::(Rr++((B8,mq 0 0 0)::((B4,mq 0 0 0)::(w1.heap.size,.cells #[s] 3 (0,0))::(Rf++ [])))))) aF);refine tG (i:=1) (by decide+kernel) rfl (λK hK=>?_);go_simp
    go_at_call 60
    refine (ko _ FP.has.right.head).kq ?_;rintro w4 rfl;refine hK _ _ hHeld (λhHeld=>?_);clear hK K
    try simp only[aI]
    refine de (by decide+kernel) rfl (by kernel_rfl) (λK hK=>?_);go_simp
    go_at_call 98
    refine (qf _ _ FP).kq ?_;rintro w5 ⟨JQ,x5,d5⟩;have D5:=a_ (FP.step d5);have X5:=a_ x5;clear d5 x5;refine hK _ _ ?_;clear hK K
    try simp only[aI]
    have D7:=a_ (D5.perm (R':=(B8,mq 0 0 0)::(JQ++((hb,bK S.c m rb run cy S.ae S.af)::(run,bF m S.aa S.top (S.aa+S.c.d_))::(Rr++((B4,mq 0 0 0)::(w1.heap.size,.cells #[s] 3 (0,0))::(Rf++ [])))))) aF);clear D5;refine iZ 6 ?_;refine iZ 7 ?_;refine iZ 8 ?_;simp only[aI];have q:=D7.has.head;obtain⟨a0,a1,a2, -⟩:=ft q;obtain⟨f0,f1,f2, -⟩:=zN q;clear q;refine aY (i:=10) (by decide+kernel) rfl (λK hK=>?_);go_simp;have D8:=a_ (((D7.set 0 h1).set 1 h2).set 2 h3);refine hK _ _ ?_;clear hK K
    try simp only[aI]
    refine aY (i:=11) (by decide+kernel) rfl (λK hK=>?_);go_simp;refine hK _ _ ?_;clear hK K
    try simp only[aI]
    refine wpAny_done (by kernel_rfl) ?_ _
    try simp only[aI]
    go_wp2_with fail
    go_meet
    case rel=>exact⟨B8,JQ,((w1.heap.size,WD #[s] 3)::Rf),rfl,rfl,X5,D8.perm aF⟩
  case rest=>
   obtain⟨B8,vu,K,rfl,rfl,x4,d4⟩:=hcut;have X4:=a_ x4;have D4:=a_ (d4.perm (R':=vu++((hb,bK S.c m rb run cy S.ae S.af)::(run,bF m S.aa S.top (S.aa+S.c.d_))::(Rr++((B8,mq h1 h2 h3)::(B4,mq 0 0 0)::K)))) aF);clear x4 d4 D2 c0 c8 cC eh qf ko
   go_upto_region 6 with (go_at_call 61;refine (jC _ _ _ D4 X4).kq ?_;rintro w5 ⟨R5,x5,d5⟩;have X5:=a_ x5;have D5:=a_ ((D4.perm (R':=((hb,bK S.c m rb run cy S.ae S.af)::(run,bF m S.aa S.top (S.aa+S.c.d_))::(Rr++vu))++((B8,mq h1 h2 h3)::(B4,mq 0 0 0)::K)) aF).step d5);clear x5 d5)
   have D6:=a_ (D5.perm (R':=(B4,mq 0 0 0)::(B8,mq h1 h2 h3)::(R5++K)) aF);have q:=D6.has.tail.head;obtain⟨p0,p1,p2, -⟩:=ft q;have q4:=D6.has.head;obtain⟨a0,a1,a2, -⟩:=ft q4;obtain⟨f0,f1,f2, -⟩:=zN q4;have D7:=a_ (((D6.set 0 h1).set 1 h2).set 2 h3);clear q q4 D5 D4;go_wp2;generalize Dc:World.setCell _ _ _=w7 at *;have q7:=D7.has.head;obtain⟨b0,b1,b2, -⟩:=ft q7;refine bodyPost_ret (v:= .tuple #[.agg #[h1,h2,h3],h4]) (by simp[results,results35,go_sem,b0,b1,b2]) rfl ⟨rfl,R5,X5,(D7.perm (R':=R5++((B4,mq h1 h2 h3)::(B8,mq h1 h2 h3)::K)) aF).bN⟩
 ·have hok:=λq=>hs ((hg.eF s).1 q)
  have HF:=a_ (λB W (hd:ag R ((B,WD #[s] 3)::(w.heap.size,mq 0 0 0)::R) w W)=>kI (w:=W) s B 1 hok h hd.at_.tail.tail hd.has.head);have e1:S.m.shape s=(0,0,0,17):=by unfold MH.shape;rw[b_ hs]
  have e2:S.shape s=S:=by unfold HS.shape;rw[b_ hs]
  rw[e1,e2];clear hg hT hN h hR e1 e2 hs hok;go_enter func35,ntmps35
  go_upto_region 1 with fail
  generalize kA:w.alloc _=w1;have D1:=a_ (show ag R ((B4,mq 0 0 0)::R) w w1 from by
   rw[←kA,←wV];exact Da)
  have Cb:=a_ (D1.box #[s] 3);rw[wV] at HF;clear Da kA
  go_upto_region 3 with (go_at_call 58;refine (HF _ _ Cb).kq ?_;rintro w2 hb;have D2:=a_ (Cb.grow hb);clear hb)
  have D3:=a_ (D2.perm (R':=(B4,mq 0 0 0)::((w1.heap.size,WD #[s] 3)::R)) aF);have q:=D3.has.head;obtain⟨a0,a1,a2, -⟩:=ft q;obtain⟨f0,f1,f2, -⟩:=zN q;have D4:=a_ (((D3.set 0 Wy).set 1 Wy).set 2 Wy);clear q;go_wp2;generalize Tf:World.setCell _ _ _=w4 at *;have q4:=D4.has.head;obtain⟨b0,b1,b2, -⟩:=ft q4;refine bodyPost_ret (v:= .tuple #[.agg #[Wy,Wy,Wy],(17:Int)]) (by simp[results,results35,go_sem,b0,b1,b2]) rfl ⟨rfl,R,dz,D4.tail.tail⟩
end
def nT (hb:Nat):jA:=⟨139,.agg #[Wz hb],364,.agg #[Wz hb]⟩
def lookSpc_ok (hb:Nat):AB (nT hb):=⟨λw=>(by kernel_rfl),λargs w=>(by kernel_rfl)⟩
section
variable {hb m rb T x y:Nat} {S S':HS} {R Rx Rr:BL} {w w':World} {cy:Option Nat} {s f i k:Int}
def look_sees (h:ak hb m rb S T R) (hp:S.ep):mr (nT hb) R S.ba S.D:=by
 refine⟨lookSpc_ok hb,λW a hR hT hD=>?_⟩;have D0:=a_ ((ag.refl hR).box #[Wz hb] 139);obtain⟨en,dX,run,cy,Rr,Rx,hr,hM,rfl⟩:=h;have CU:=D0.at_.tail.tail.tail.right;have LM:=D0.tail;have hc:=az (S:=S) D0.has.tail.head;have c8:=hc.c8;have cC:=hc.cC;have b0:=an D0.has.head 0 (.pointer (some ⟨hb,0,none⟩)) rfl;have hrun:=hp.run;have oN:=hD.2;have SA:ax (W.alloc (.cells #[Wz hb] 139)):=hT.grow (au W _)
 cases hk:S.bX with
 | none=>
  obtain⟨rfl,h2⟩:=hM.none_ hk;rw[HS.cL hk];obtain⟨e1,e2⟩:=fS (hp.cR hk hD);have hL:=jN h2 CU.1 (a:Nat);rw[e1,e2] at hL;have HL:=a_ hL;have pa:(W.alloc (.cells #[Wz hb] 139)).cell? ⟨hb,11,none⟩=some (.pointer none):=cC;generalize S.v.wd a=x at *;clear cC hL hc hM h2 hr CU LM hk hD oN SA hT;unfold nT;simp only;have HB:=a_ (au W (.cells #[Wz hb] 139));go_enter func364,ntmps364
  go_wp2_with (go_at_call 258;refine HL.kq ?_;rintro w2 dw;have jB:=a_ dw;clear dw)
  go_ret2
  exact⟨rfl,seq HB jB⟩
 | some k=>
  obtain⟨cb,T0,rfl,h2,h3⟩:=hM.some_ hk;obtain⟨d1,d2,d3⟩:=hp.mD hk hD;rw[HS.fW hk];have HL:=a_ (peek_x h3 CU SA (a:=a) (by omega) d1 d2 d3);have pa:(W.alloc (.cells #[Wz hb] 139)).cell? ⟨hb,11,none⟩=some (.pointer (some ⟨cb,0,none⟩)):=cC;generalize k.y.ba k.g0 (S.kG k) a=x at *;clear cC hc hM h2 h3 hr CU LM hk hD oN SA hT d1 d2 d3;unfold nT;simp only;have HB:=a_ (au W (.cells #[Wz hb] 139));go_enter func364,ntmps364
  go_wp2_with (go_at_call 366;refine HL.kq ?_;rintro w2 dw;have jB:=a_ dw;clear dw)
  go_ret2
  exact⟨rfl,seq HB jB⟩
def ak.all_ (h:ak hb m rb S T R) (hR:Has R w):WA 88 #[Wz rb] w λe w'=>∃al cap,e= .returned (.slice al S.rs.length cap)/\∃R',Rz 3 1 S.rs.length (ez S.rs) al cap R'/\ag [] R' w w':=by
 obtain⟨en,dX,run,cy,Rr,Rx,hr,hM,rfl⟩:=h;exact ru hr hR.tail.tail.left
abbrev Lz (a b r v:Int):Obj:= .cells #[a,b,r,v] 236 (0,0)
def AY (h:ak hb m rb S T R) (hg:S.Good) (hR:At R w) (hT:ax w) (hN:aD R):
  WR 75 #[Wz hb] w (.tuple #[(S.m.gU.length:Nat),(S.m.aq:Nat)]) λw'=>Below w.heap.size w w':=by
 obtain⟨Q,φ,hr⟩:=hg.rep;have hrun:=hg.aX.run;have sx:=hg.aX.top;have PY:=hg.aX.bG;have Gs:=hg.aX.bG.fX;obtain⟨hc1,Bb⟩:=hr.counts (N:=S.c.mw) (by omega) (by omega);have hw:=hr.whole (N:=S.c.mw) (by omega);have hZ:=look_sees h hg.aX;have hro:=hr.wG;have Cz:S.rs.length<=64:=by rw[hg.yB.1];exact PY.bV.2
 obtain⟨OV,UR, -,bu⟩:=h.cells;have gd:=a_ (λW (hA:Has R W)=>(show W.cell? ⟨hb,8,none⟩=some (.pointer (some ⟨m,0,none⟩))/\W.cell? ⟨hb,9,none⟩=some (.pointer (some ⟨rb,0,none⟩))/\W.cell? ⟨hb,5,none⟩=some (.int .i64 S.c.aL) from⟨(bu W hA).1.c8,(bu W hA).1.c9,(bu W hA).1.c5⟩));have Lr:=a_ (λW (hA:Has R W)=>ev (hb:=hb) W (bu W hA).1.c8);have mo:=a_ (λW (hA:At R W)=>h.words_ (w:=W) hg.aX hA);have HEX:=a_ (λW=>nF S.c.mw W (by omega) (by omega));have Tz:=a_ (λW (hA:Has R W)=>h.all_ hA);have JB:=a_ (λal cap Rw Re ob K W (row:Rz 3 1 S.rs.length (ez S.rs) al cap Rw) (he:dg ob S.c.mw wo Re) (hd:ag R (Re++(R++(Rw++K))) w W)=>(show WA 158 #[.iface 139 (.agg #[Wz hb]),.slice al S.rs.length cap,Wz ob,S.c.aL] W λe w'=>∃r v:Int,e= .returned (.tuple #[.agg #[(S.m.gU.length:Nat),(S.m.aq:Nat),r,v],Wy])/\∃ew,ag R (ew++(R++(Rw++K))) w w' from by
  have hp2:ag R ((Re++(R++Rw))++K) w W:=hd.perm aF;refine (nW (s:=nT hb) hZ hw hro row (by omega) PY.aL.1 PY.aL.2 he hp2.at_.left (hd.tz hT hN) (aD.app.1 (hp2.cK hT hN)).1).mono ?_;rintro e w' ⟨r,v,rfl,ew, -,d⟩;rw[hc1,Bb];exact⟨r,v,rfl,ew,hd.step d⟩))
 have Cd:=a_ hR.1;have D0:=a_ (ag.refl hR);have hn:=Lr w hR.1;obtain⟨c8,c9,c5⟩:=gd w hR.1;have Ce:=a_ (mo w hR);generalize S.m.gU.length=nn at *;generalize S.m.aq=lv at *;clear h hg hR hT hN hr hrun sx PY Gs hc1 Bb hw hZ hro Cz bu mo Lr;go_enter func75,ntmps75
 go_upto_region 4 with (first
  | (go_at_call 48;refine hn.kq ?_;rintro w1 rfl)
  | (go_at_call 157;refine Ce.kq ?_;rintro w2 rfl)
  | (go_at_call 156;refine (HEX _).mono ?_;rintro e w3 ⟨ob,rfl,Re,he,d3⟩;have HE:=a_ he;have D3:=a_ (D0.bh d3);clear he d3))
 clear c8 c9 c5 hn;obtain⟨c8,c9,c5⟩:=gd w3 D3.has.right;clear c8
 go_cut [6,7] from 19 to 36 (λp c wx=>∃B6 r v K,p= .pointer (some ⟨B6,0,none⟩)/\c= .int .i64 0/\ag R ((B6,Lz nn lv r v)::(R++K)) w wx)
 case first=>
  have D4:=a_ D3.drew;clear D3;refine cE (S:=λW=>W.cell? ⟨hb,9,none⟩=some (.pointer (some ⟨rb,0,none⟩))/\W.cell? ⟨hb,5,none⟩=some (.int .i64 S.c.aL)) 14 (by kernel_rfl) ⟨c9,c5⟩ (λhHeld=>?_);generalize w3.drew=w4 at *;refine ef 0 ?_;refine ef 1 ?_;refine ef 2 ?_;refine ef 3 ?_;refine ef 4 ?_;refine ef 5 ?_;refine ef 8 ?_;refine ef 9 ?_;refine ef 10 ?_;refine ef 11 ?_;refine ef 12 ?_;simp only[aI];refine wpAnyK_take2 7 (i:=6) (v:=?_) rfl (by kernel_rfl) (by kernel_rfl) (by kernel_rfl) (by kernel_rfl) (by kernel_rfl) (by kernel_rfl) (by kernel_rfl) (by kernel_rfl) (by kernel_rfl) (λ_ _ _ h=>h) (Or.inl ⟨by kernel_rfl,?_⟩) (by assumption) ?_
  rotate_left
  ·(intro w Gl;(try dsimp only at Gl);go_simp;try with_reducible rfl)
  simp only[aI];refine Jl 13 ?_;simp only[aI];refine tH (i:=7) (j:=18) (by decide+kernel) rfl rfl (λK hK=>?_) (λK hK=>?_)
  ·go_simp
   go_at_call 88
   refine (Tz _ (D4.has.right)).mono ?_;rintro e w5 ⟨al,cap,rfl,Rw,row,d5⟩;have PJ:=a_ row;have D5:=a_ (D4.bh d5);clear row d5;refine hK _ _ (gd w5 (D5.has.right.right)).2 (λhHeld=>?_);clear hK K
   try simp only[aI]
   refine mi (j:=18) (by decide+kernel) rfl rfl (by kernel_rfl) (λK hK=>?_) (λK hK=>?_)
   ·go_simp;refine (JB al cap Rw Re ob [] _ PJ HE (D5.perm aF)).mono ?_;rintro e w7 ⟨r,v,rfl,ew,d7⟩;have D7:=a_ d7;clear d7;refine hK _ _ ?_;clear hK K
    try simp only[aI]
    refine iZ 15 ?_;refine iZ 16 ?_;refine iZ 17 ?_;simp only[aI];refine aY (i:=18) (by decide+kernel) rfl (λK hK=>?_);go_simp;obtain⟨B6,Gi⟩:∃B6,w7.heap.size=B6:=⟨_,rfl⟩
    have D8:=a_ (D7.box #[Wy,Wy,Wy,Wy] 236);rw[Gi] at D8;refine hK _ _ ?_;clear hK K
    try simp only[aI]
    generalize w7.alloc _=w8 at *;have D9:=a_ (D8.perm (R':=(B6,Lz 0 0 0 0)::(ew++(R++Rw))) aF);have q:=D9.has.head;obtain⟨a0,a1,a2,a3, -⟩:=jD q;obtain⟨f0,f1,f2,f3, -⟩:=tU q;clear q;refine aY (i:=19) (by decide+kernel) rfl (λK hK=>?_);go_simp;have DA:=a_ ((((D9.set 0 nn).set 1 lv).set 2 r).set 3 v);refine hK _ _ ?_;clear hK K
    try simp only[aI]
    refine aY (i:=20) (by decide+kernel) rfl (λK hK=>?_);go_simp;refine hK _ _ ?_;clear hK K
    try simp only[aI]
    refine wpAny_done (by kernel_rfl) ?_ _
    try simp only[aI]
    go_wp2_with fail
    go_meet
    case rel=>exact⟨B6,r,v,ew++Rw,rfl,rfl,DA.perm aF⟩
   ·go_simp;obtain⟨B6,Gi⟩:∃B6,w5.heap.size=B6:=⟨_,rfl⟩
    have D6:=a_ (D5.box #[Wy,Wy,Wy,Wy] 236);rw[Gi] at D6;refine hK _ _ (gd _ (D6.has.tail.right.right)).2 (λhHeld=>?_);clear hK K
    try simp only[aI]
    generalize w5.alloc _=w8 at *;refine de (by decide+kernel) rfl (by kernel_rfl) (λK hK=>?_);go_simp;refine (JB al cap Rw Re ob [(B6,Lz 0 0 0 0)] _ PJ HE (D6.perm aF)).mono ?_;rintro e w7 ⟨r,v,rfl,ew,d7⟩;have D7:=a_ d7;clear d7;refine hK _ _ ?_;clear hK K
    try simp only[aI]
    refine iZ 15 ?_;refine iZ 16 ?_;refine iZ 17 ?_;simp only[aI];have D9:=a_ (D7.perm (R':=(B6,Lz 0 0 0 0)::(ew++(R++Rw))) aF);have q:=D9.has.head;obtain⟨a0,a1,a2,a3, -⟩:=jD q;obtain⟨f0,f1,f2,f3, -⟩:=tU q;clear q;refine aY (i:=19) (by decide+kernel) rfl (λK hK=>?_);go_simp;have DA:=a_ ((((D9.set 0 nn).set 1 lv).set 2 r).set 3 v);refine hK _ _ ?_;clear hK K
    try simp only[aI]
    refine aY (i:=20) (by decide+kernel) rfl (λK hK=>?_);go_simp;refine hK _ _ ?_;clear hK K
    try simp only[aI]
    refine wpAny_done (by kernel_rfl) ?_ _
    try simp only[aI]
    go_wp2_with fail
    go_meet
    case rel=>exact⟨B6,r,v,ew++Rw,rfl,rfl,DA.perm aF⟩
  ·go_simp;obtain⟨B6,Gi⟩:∃B6,w4.heap.size=B6:=⟨_,rfl⟩
   have D6:=a_ (D4.box #[Wy,Wy,Wy,Wy] 236);rw[Gi] at D6;refine hK _ _ (gd _ (D6.has.tail.right)).2 (λhHeld=>?_);clear hK K
   try simp only[aI]
   generalize w4.alloc _=w8 at *;refine tG (i:=7) (by decide+kernel) rfl (λK hK=>?_);go_simp
   go_at_call 88
   refine (Tz _ (D6.has.tail.right)).mono ?_;rintro e w5 ⟨al,cap,rfl,Rw,row,d5⟩;have PJ:=a_ row;have D5:=a_ (D6.bh d5);clear row d5;refine hK _ _ (gd w5 (D5.has.right.tail.right)).2 (λhHeld=>?_);clear hK K
   try simp only[aI]
   refine de (by decide+kernel) rfl (by kernel_rfl) (λK hK=>?_);go_simp;refine (JB al cap Rw Re ob [(B6,Lz 0 0 0 0)] _ PJ HE (D5.perm aF)).mono ?_;rintro e w7 ⟨r,v,rfl,ew,d7⟩;have D7:=a_ d7;clear d7;refine hK _ _ ?_;clear hK K
   try simp only[aI]
   refine iZ 15 ?_;refine iZ 16 ?_;refine iZ 17 ?_;simp only[aI];have D9:=a_ (D7.perm (R':=(B6,Lz 0 0 0 0)::(ew++(R++Rw))) aF);have q:=D9.has.head;obtain⟨a0,a1,a2,a3, -⟩:=jD q;obtain⟨f0,f1,f2,f3, -⟩:=tU q;clear q;refine aY (i:=19) (by decide+kernel) rfl (λK hK=>?_);go_simp;have DA:=a_ ((((D9.set 0 nn).set 1 lv).set 2 r).set 3 v);refine hK _ _ ?_;clear hK K
   try simp only[aI]
   refine aY (i:=20) (by decide+kernel) rfl (λK hK=>?_);go_simp;refine hK _ _ ?_;clear hK K
   try simp only[aI]
   refine wpAny_done (by kernel_rfl) ?_ _
   try simp only[aI]
   go_wp2_with fail
   go_meet
   case rel=>exact⟨B6,r,v,ew++Rw,rfl,rfl,DA.perm aF⟩
 case rest=>
  obtain⟨B6,r,v,K,rfl,rfl,d9⟩:=hcut;have D9:=a_ d9;clear d9 D3 c9 c5;have q:=D9.has.head;obtain⟨a0,a1, -⟩:=qN q;clear q;go_wp2
  go_quiet (fail)
  have DB:=a_ (D9.grow (Fr.aA nq _));go_wp2
  go_ret2
  exact⟨rfl,DB.quiet Cd DB.has.tail.left⟩
end
structure LA where
 n:Nat
 d_:Nat
 used:Nat
 mapped:Nat
 aM:Nat
 ae:Nat
 af:Nat
 opn:Bool
 left:Nat
noncomputable def HS.stats (S:HS):LA:=match S.bX with
 | none=>⟨S.m.gU.length,S.m.aq,S.top-S.aa,S.v.used,S.v.aM,S.ae,S.af,false,0⟩
 | some k=>⟨S.m.gU.length,S.m.aq,S.top-S.aa,S.v.used,S.v.aM,S.ae,S.af+aG k.mv k.y.nb,true,k.y.nb-aG k.mv k.y.nb⟩
def LA.cells (s:LA):Array Value:= #[.int .i64 s.n,.int .i64 s.d_,.int .i64 s.used,.int .i64 s.mapped,.int .i64 s.aM,.int .i64 s.ae,.int .i64 s.af,.bool s.opn,.int .i64 s.left]
abbrev S9 (a b c d e f g:Int) (o:Bool) (l:Int):Obj:= .cells #[a,b,c,d,e,f,g,o,l] 54 (0,0)
section
variable {hb m rb T x y:Nat} {S S':HS} {R Rx Rr:BL} {w w':World} {cy:Option Nat} {s f i k:Int}
end
end
end Go.Proofs.YtmdgfpeglgpiiaaGreatDoor

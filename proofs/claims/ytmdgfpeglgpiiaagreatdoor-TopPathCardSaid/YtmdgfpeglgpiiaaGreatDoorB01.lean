import Derived.Test.YtmdgfpeglgpiiaaGreatDoorRows
import Derived.ProofKit
import Derived.WalkLawsBesides
import Derived.WalkSpells
import Derived.Lib.Hide
import Derived.OpenShut
import Derived.Deep.Strs
import Derived.BigQuiet
import Derived.Deep.AppendLies
import Derived.StillTailTactics
import Derived.Deep.RegionHeld3
import Derived.Shelf.Spec.TrailingZeros
import Derived.OrdersIn
import Derived.RangeFuncCalls
set_option linter.all false
set_option maxRecDepth 100000
set_option maxHeartbeats 16000000
namespace Go.Proofs.YtmdgfpeglgpiiaaGreatDoor
open Go.ChangeShapes Go.WideShapes Go.ChangeAt Go.RowKit
open Go.Proofs.Tryz
abbrev BL:=List (Nat×Obj)
def e9{p:Prop}(h:p:=by omega):p:=h
def ol{p:Prop}(h:p:=by kernel_rfl):p:=h
def z9{p:Prop}(h:p:=by decide):p:=h
def qr{p:Prop}(h:p:=by simp):p:=h
def jp{p:Prop}(h:p:=by decide+kernel):p:=h
def yd{p:Prop}(h:p:=by simp;omega):p:=h
def v6{p:Prop}(h:p:=by rw[n_];omega):p:=h
def v9{p:Prop}(h:p:=by constructor<;>omega):p:=h
def kh{p:Prop}(h:p:=by rw[i_ _ (by omega)];omega):p:=h
def kw{α:Sort _}(e:α):∃x,e=x:=⟨_,rfl⟩
def ac:=@List.getD_eq_getElem?_getD
def bi:=@Nat.le_refl
def co:=@List.getElem?_eq_getElem
def dl:=@List.mem_cons_of_mem
def fd:=@List.mem_cons_self
def f_:=@Int.toNat_natCast
def ge:=@List.length_append
def go:=@Nat.dvd_of_mod_eq_zero
def g_:=@decide_eq_false
def h_:=@Nat.le_trans
def ii:=@List.mem_cons
def io:=@List.mem_append_left
def ip:=@Nat.lt_or_ge
def i7:=@List.mem_append_right
def i8:=@List.length_map
def i9:=@And.intro
def i_:=@Go.IntWalk.i64_in
def j_:=@Nat.div_lt_iff_lt_mul
def k_:=@Nat.div_mul_cancel
def lc:=@Nat.zero_le
def ls:=@Go.heap_alloc_new
def lw:=@Bool.and_eq_true
def l_:=@decide_eq_true_eq
def mt:=@List.mem_map
def m_:=@List.cons_append
def nl:=@Go.bodyPost_ret
def n_:=@beq_eq_false_iff_ne
def o_:=@List.getElem?_map
def pl:=@Nat.pow_le_pow_right
def pm:=@Nat.div_le_div_right
def pu:=@List.mem_singleton
def p_:=@List.length_set
def p':=@List.nil_append
def q_:=@List.setIfInBounds_toArray
def rc:=@decide_eq_true
def rf:=@List.getElem?_append_left
def ri:=@List.getElem_mem
def ro:=@Classical.not_not
def rp:=@Go.heap_setCell_same
def rx:=@Nat.div_le_self
def r_:=@Nat.mul_le_mul_right
def r':=@List.length_cons
def sc:=@Nat.add_zero
def sh:=@List.append_nil
def so:=@Int.tdiv_eq_ediv_of_nonneg
def su:=@Classical.em
def s_:=@List.map_congr_left
def tr:=@Go.wpList_step
def t8:=@List.take_of_length_le
def t9:=@List.map_cons
def t_:=@List.append_assoc
def ul:=@List.not_mem_nil
def us:=@List.getElem?_toArray
def ut:=@Nat.add_mul
def u_:=@Go.callsIn_wide
def vB:=@Int.toNat_of_nonneg
def vC:=@Nat.eq_of_testBit_eq
def v_:=@List.all_eq_true
def wi:=@Nat.mod_eq_of_lt
def ww:=@Go.World.size_alloc
def w_:=@Nat.mul_one
def x_:=@Nat.lt_of_lt_of_le
def x':=@Nat.eq_zero_or_pos
def y_:=@List.take_succ_eq_append_getElem
def y':=@List.getElem?_append_right
def z_:=@List.mem_append
def AC:=@Nat.mod_lt
def A_:=@Nat.add_sub_cancel_left
def BT:=@Go.info_parts
def B_:=@List.mem_range
def Cq:=@Nat.le_div_iff_mul_le
def C_:=@Nat.div_mul_le_self
def C':=@Nat.zero_add
def Do:=@decide_eq_false_iff_not
def DG:=@List.getElem?_eq_none
def DH:=@Bool.and_eq_false_iff
def DV:=@List.map_append
def DW:=@Nat.lt_of_le_of_lt
def D_:=@Bool.false_eq_true
def D':=@List.take_succ_cons
def Eq:=@List.drop_succ_cons
def EQ:=@List.getElem?_take_of_lt
def E_:=@List.ext_getElem?
def Fd:=@List.nodup_append
def Fl:=@List.set_cons_zero
def Fm:=@Int.tmod_eq_emod_of_nonneg
def FS:=@Go.getD_set_ne
def F_:=@Go.wpOp_step
def GE:=@List.getElem?_range
def GP:=@Nat.mul_comm
def GS:=@List.mem_filter
def GT:=@Bool.eq_iff_iff
def GW:=@Option.map_some
def G_:=@Nat.le_mul_of_pos_right
def H_:=@Array.replicate_succ
def H':=@Nat.testBit_lt_two_pow
def Id:=@Array.getElem?_eq_none
def If:=@Array.getElem?_setIfInBounds
def lq7:=@List.length_take
def IR:=@List.mem_map_of_mem
def I_:=@List.length_replicate
def I':=@List.getElem?_set
def J_:=@Nat.exists_eq_add_of_le
def J':=@Array.getElem?_eq_some_iff
def Km:=@List.getElem?_take
def KA:=@List.take_zero
def K_:=@List.drop_zero
def Le:=@Array.replicate_zero
def LE:=@Nat.div_eq_of_lt
def LT:=@List.getElem?_eq_some_iff
def L_:=@Classical.byContradiction
def L':=@List.append_toArray
def M_:=@List.size_toArray
def M':=@List.eq_nil_of_length_eq_zero
def Nf:=@of_decide_eq_true
def Nq:=@List.length_singleton
def NE:=@congrArg
def N_:=@or_false
def N':=@Nat.testBit_two_pow_sub_succ
def O_:=@Nat.testBit_and
def O':=@List.length_nil
def Pi:=@List.map_map
def Pr:=@List.set_cons_succ
def Pu:=@List.take_length
def PP:=@List.mem_of_getElem?
def P_:=@Nat.testBit_two_pow_sub_one
def P':=@List.push_toArray
def QQ:=@if_true
def Q_:=@List.filter_sublist
def R_:=@List.foldl_cons
def Sa:=@Option.getD_some
def Sb:=@Array.setIfInBounds_comm
def ST:=@Nat.pow_succ
def SV:=@Bool.true_and
def S_:=@Go.ready_mono
def Tu:=@List.Perm.swap
def TI:=@Nat.mul_le_mul
def T_:=@Nat.lt_trichotomy
def Uq:=@List.getElem_of_mem
def Us:=@Go.wp_region_held_drew
def Uz:=@Nat.min_le_right
def UL:=@Go.u64_and_nat
def UM:=@Int.natCast_nonneg
def UV:=@Go.wp_region_lit
def U_:=@Go.IntKind.wrap_u64
def Vj:=@Go.mem_ready
def VD:=@List.drop_eq_getElem_cons
def V_:=@List.nodup_cons
def V':=@Nat.zero_mul
def WF:=@Nat.add_comm
def WP:=@Nat.one_mul
def W_:=@Go.wpAny_done
def X_:=@Array.toList_inj
def X':=@Int.eq_ofNat_of_zero_le
def Y_:=@Nat.le_add_right
def Y':=@if_false
def Zq:=@List.perm_middle
def Z_:=@Nat.mod_self
def Z':=@List.map_set
def aa0:=@Nat.mul_div_cancel
def aa1:=@of_decide_eq_false
def aa2:=@List.Nodup.sublist
def aa3:=@List.getElem?_drop
def aa4:=@Go.wpQuiet_nil
def aa5:=@Nat.add_assoc
def aa6:=@List.eq_nil_or_concat
def aa7:=@List.concat_eq_append
def aa8:=@Nat.testBit_two_pow_mul_add
def aa9:=@List.foldl_append
def ab0:=@Bool.not_eq_true'
def ab1:=@List.take_add_one
def ab2:=@List.idxOf_append
def ab3:=@List.mem_of_mem_take
def ab4:=@List.nodup_range
def ab5:=@Go.run_underlying
def ab6:=@Go.Region.noSelect_spec
def ab7:=@Go.toList_madeCells_one
def ab8:=@Array.getElem?_eq_getElem
def ab9:=@Go.wpStill_nil
def ac0:=@Bool.false_or
def ac1:=@Int.natCast_pow
def ac2:=@Nat.two_pow_pos
def ac3:=@Nat.div_add_mod
def ac4:=@Nat.and_lt_two_pow
def ac5:=@Nat.add_mod
def ac6:=@List.getElem?_cons_succ
def ac7:=@Ne.symm
def ac8:=@Bool.false_and
def ac9:=@Nat.testBit_eq_decide_div_mod_eq
def ad0:=@Nat.sub_self
def ad1:=@Go.wpAnyH_done
def ad2:=@Nat.add_mul_div_right
def ad3:=@Nat.and_two_pow_sub_one_eq_mod
def ad4:=@List.drop_length
def ad5:=@List.sum_cons
def ad6:=@BitVec.ofInt_natCast
def ad7:=@Nat.mul_add
def ad8:=@Go.WalkArith.wf_i64
def ad9:=@Go.Region.free_spec
def ae0:=@Int.natCast_mul
def ae1:=@Nat.and_le_left
def ae2:=@List.range_succ
def ae3:=@Bool.or_eq_true
def ae4:=@List.map_nil
def ae5:=@Nat.le_of_lt
def ae6:=@Nat.two_pow_add_eq_or_of_lt
def ae7:=@BitVec.toNat_ofNat
def ae8:=@List.filter_append
def ae9:=@Nat.div_eq_iff
def af0:=@Go.run_callFunc_extern
def af1:=@Go.wp_store_row
def af2:=@Go.wpOp_mono
def af3:=@Go.wpIn_wide
def af4:=@List.mem_or_eq_of_mem_set
def af5:=@Decidable.byContradiction
def af6:=@Go.u64_or_nat
def af7:=@List.idxOf_lt_length_iff
def af8:=@List.getElem?_replicate
def af9:=@List.any_eq_true
def ag0:=@Nat.testBit_div_two_pow
def ag1:=@Int.natCast_ediv
def ag2:=@Nat.testBit_mul_two_pow
def ag3:=@Go.wp_region_noPanic
def ag4:=@Go.wp_load_row
def ag5:=@beq_iff_eq
def ag6:=@bne_iff_ne
def ag7:=@Nat.le_total
def ag8:=@List.getElem_cons_succ
def ag9:=@Nat.testBit_xor
def ah0:=@Nat.min_eq_left
def ah1:=@Option.some.inj
def ah2:=@List.idxOf_cons
def ah3:=@Go.results_none
def ah4:=@List.getElem?_append
def ah5:=@Nat.add_mul_div_left
def ah6:=@Bool.and_false
def ah7:=@List.Perm.cons
def ah8:=@Nat.div_lt_of_lt_mul
def ah9:=@Go.Lib.run_eql_slice_nil
def ai0:=@Nat.mul_le_mul_left
def ai1:=@Nat.testBit_two_pow
def ai2:=@Nat.mul_div_cancel'
def ai3:=@Nat.lt_irrefl
def ai4:=@Go.IntWalk.u64_in
def ai5:=@Go.NoPanic.normal
def ai6:=@Nat.add_sub_cancel
def ai7:=@Option.isSome_none
def ai8:=@Go.World.news_of_block
def ai9:=@Go.wp_region_any
def aj0:=@List.count_append
def aj1:=@dif_pos
def aj2:=@Go.wpList_append_lies
def aj3:=@List.ext_getElem
def aj4:=@List.map_toArray
def aj5:=@Nat.zero_testBit
def aj6:=@BitVec.toNat_and
def aj7:=@List.length_drop
def aj8:=@Option.getD_none
def aj9:=@Nat.or_comm
def ak0:=@Go.World.ownsRow_nil
def ak1:=@Go.Sem.run_pure
def ak2:=@Go.Result.andThen_ok
def ak3:=@Nat.pow_add
def ak4:=@List.take_left'
def ak5:=@List.count_cons
def ak6:=@Nat.mul_add_div
def ak7:=@Nat.mul_add_mod
def ak8:=@Option.map_none
def ak9:=@Nat.le_max_left
def al0:=@Nat.pow_dvd_pow
def al1:=@Go.block_lt_of_cell
theorem a_ {p:Prop} (h:p):Hid p:=h
theorem b9 {c:Prop} {h:Decidable c} (hc:c) {α:Sort _} {t e:α}:ite c t e=t:=if_pos hc
theorem b_ {c:Prop} {h:Decidable c} (hc:¬c) {α:Sort _} {t e:α}:ite c t e=e:=if_neg hc
instance (b i:Nat):CoeDep (Nat×Nat) (b,i) Addr:=⟨⟨b,i,none⟩⟩
theorem _root_.Go.Calls.kq {P:Program} {f:FuncId} {args:Array Value} {w:World} {v:Value} {R:World->Prop} {Q:Ending->World->Prop} (h:Calls P f args w λe w'=>e=.returned v/\R w') (k:∀w',R w'->Q (.returned v) w'):Calls P f args w Q:=h.mono λe w' ⟨a,b⟩=>a▸k w' b
theorem _root_.Go.Calls.kg {P:Program} {f:FuncId} {args:Array Value} {w:World} {v:Value} {R S:World->Prop} {Q:Ending->World->Prop} (h:Calls P f args w λe w'=>e=.returned v/\R w') (g:∀{w'},R w'->S w') (k:∀w',Hid (S w')->Q (.returned v) w'):Calls P f args w Q:=h.kq λw' a=>k w' (g a)
theorem _root_.Go.Calls.kh {P:Program} {f:FuncId} {args:Array Value} {w:World} {v:Value} {R:World->Prop} {Q:Ending->World->Prop} (h:Calls P f args w λe w'=>e=.returned v/\R w') (k:∀w',Hid (R w')->Q (.returned v) w'):Calls P f args w Q:=h.kq k
theorem _root_.Go.Calls.ke {P:Program} {f:FuncId} {args:Array Value} {w:World} {v:Value} {α:Sort _} {R S:α->World->Prop} {Q:Ending->World->Prop} (h:Calls P f args w λe w'=>e=.returned v/\∃x,R x w'/\S x w') (k:∀w' x,Hid (R x w')->Hid (S x w')->Q (.returned v) w'):Calls P f args w Q:=h.kq λw' ⟨x,a,b⟩=>k w' x a b
def seq {w a b:World} (h:Below w.heap.size w a) (k:Below a.heap.size a b):Below w.heap.size w b:=h.trans (k.mono h.size)
def au (w:World) (o:Obj):Below w.heap.size w (w.alloc o):=(Below.refl _ _).alloc (bi _) _
def ay (w:World):Below w.heap.size w w.drew:=(Below.refl _ _).drew
def bA {B:Nat} {w w':World} (h:Below B w w') {p:Addr} {v:Value} (hB:w.heap.size<=B) (hc:w.cell? p=some v):w'.cell? p=some v:=by rw[h.cell (x_ (al1 hc) hB)];exact hc
def cQ {B:Nat} {w w':World} (h:Below B w w') {b:Nat} {o:Obj} (hB:w.heap.size<=B) (hc:w.heap[b]?=some o):w'.heap[b]?=some o:=by have hlt:b<w.heap.size:=(J'.1 hc).1;rw[h.block b (x_ hlt hB)];exact hc
def bf {w:World} {b:Nat} {o:Obj} (hc:w.heap[b]?=some o):b<w.heap.size:=(J'.1 hc).1
def an {w:World} {b:Nat} {cs:Array Value} {t:TypeId} {fr:Nat×Nat} (h:w.heap[b]?=some (.cells cs t fr)) (j:Nat) (v:Value) (hv:cs[j]?=some v):w.cell? ⟨b,j,none⟩=some v:=(cell_of_row w b j cs t fr h).trans hv
def br {w:World} {b:Nat} {cs:Array Value} {t:TypeId} (h:w.heap[b]?=some (.cells cs t (0,0))) (j:Nat):w.frozen? ⟨b,j,none⟩=false:=frozen_of_row w b j cs t h
def three {w:World} {b:Nat} {x y z:Value} {t:TypeId} (h:w.heap[b]?=some (.cells #[x,y,z] t (0,0))): (w.cell? ⟨b,0,none⟩=some x/\w.cell? ⟨b,1,none⟩=some y/\w.cell? ⟨b,2,none⟩=some z)/\w.frozen? ⟨b,0,none⟩=false/\w.frozen? ⟨b,1,none⟩=false/\w.frozen? ⟨b,2,none⟩=false:=⟨⟨an h 0 x rfl,an h 1 y rfl,an h 2 z rfl⟩,br h 0,br h 1,br h 2⟩
def vz (b off i:Nat):(⟨b,off,none⟩:Addr).add i=⟨b,off+i,none⟩:=by unfold Addr.add;split<;>simp_all
def qN {w:World} {b:Nat} {x0 x1:Value} {l:List Value} {t:TypeId} {fr:Nat×Nat} (h:w.heap[b]?=some (.cells (x0::x1::l).toArray t fr)):w.cell? ⟨b,0,none⟩=some x0/\w.cell? ⟨b,1,none⟩=some x1/\True:=⟨an h 0 _ rfl,an h 1 _ rfl,trivial⟩
def Nd {w:World} {b:Nat} {cs:Array Value} {t:TypeId} (h:w.heap[b]?=some (.cells cs t (0,0))):w.frozen? ⟨b,0,none⟩=false/\w.frozen? ⟨b,1,none⟩=false/\True:=⟨br h 0,br h 1,trivial⟩
def ft {w:World} {b:Nat} {x0 x1 x2:Value} {l:List Value} {t:TypeId} {fr:Nat×Nat} (h:w.heap[b]?=some (.cells (x0::x1::x2::l).toArray t fr)):w.cell? ⟨b,0,none⟩=some x0/\w.cell? ⟨b,1,none⟩=some x1/\w.cell? ⟨b,2,none⟩=some x2/\True:=⟨an h 0 _ rfl,an h 1 _ rfl,an h 2 _ rfl,trivial⟩
def zN {w:World} {b:Nat} {cs:Array Value} {t:TypeId} (h:w.heap[b]?=some (.cells cs t (0,0))):w.frozen? ⟨b,0,none⟩=false/\w.frozen? ⟨b,1,none⟩=false/\w.frozen? ⟨b,2,none⟩=false/\True:=⟨br h 0,br h 1,br h 2,trivial⟩
def jD {w:World} {b:Nat} {x0 x1 x2 x3:Value} {l:List Value} {t:TypeId} {fr:Nat×Nat} (h:w.heap[b]?=some (.cells (x0::x1::x2::x3::l).toArray t fr)):w.cell? ⟨b,0,none⟩=some x0/\w.cell? ⟨b,1,none⟩=some x1/\w.cell? ⟨b,2,none⟩=some x2/\w.cell? ⟨b,3,none⟩=some x3/\True:=⟨an h 0 _ rfl,an h 1 _ rfl,an h 2 _ rfl,an h 3 _ rfl,trivial⟩
def tU {w:World} {b:Nat} {cs:Array Value} {t:TypeId} (h:w.heap[b]?=some (.cells cs t (0,0))):w.frozen? ⟨b,0,none⟩=false/\w.frozen? ⟨b,1,none⟩=false/\w.frozen? ⟨b,2,none⟩=false/\w.frozen? ⟨b,3,none⟩=false/\True:=⟨br h 0,br h 1,br h 2,br h 3,trivial⟩
def Nc {w:World} {b:Nat} {x0 x1 x2 x3 x4:Value} {l:List Value} {t:TypeId} {fr:Nat×Nat} (h:w.heap[b]?=some (.cells (x0::x1::x2::x3::x4::l).toArray t fr)):w.cell? ⟨b,0,none⟩=some x0/\w.cell? ⟨b,1,none⟩=some x1/\w.cell? ⟨b,2,none⟩=some x2/\w.cell? ⟨b,3,none⟩=some x3/\w.cell? ⟨b,4,none⟩=some x4/\True:=⟨an h 0 _ rfl,an h 1 _ rfl,an h 2 _ rfl,an h 3 _ rfl,an h 4 _ rfl,trivial⟩
def JU {w:World} {b:Nat} {x0 x1 x2 x3 x4 x5:Value} {l:List Value} {t:TypeId} {fr:Nat×Nat} (h:w.heap[b]?=some (.cells (x0::x1::x2::x3::x4::x5::l).toArray t fr)):w.cell? ⟨b,0,none⟩=some x0/\w.cell? ⟨b,1,none⟩=some x1/\w.cell? ⟨b,2,none⟩=some x2/\w.cell? ⟨b,3,none⟩=some x3/\w.cell? ⟨b,4,none⟩=some x4/\w.cell? ⟨b,5,none⟩=some x5/\True:=⟨an h 0 _ rfl,an h 1 _ rfl,an h 2 _ rfl,an h 3 _ rfl,an h 4 _ rfl,an h 5 _ rfl,trivial⟩
def afq6 {w:World} {b:Nat} {cs:Array Value} {t:TypeId} (h:w.heap[b]?=some (.cells cs t (0,0))):w.frozen? ⟨b,0,none⟩=false/\w.frozen? ⟨b,1,none⟩=false/\w.frozen? ⟨b,2,none⟩=false/\w.frozen? ⟨b,3,none⟩=false/\w.frozen? ⟨b,4,none⟩=false/\w.frozen? ⟨b,5,none⟩=false/\True:=⟨br h 0,br h 1,br h 2,br h 3,br h 4,br h 5,trivial⟩
def eX {w:World} {b:Nat} {x0 x1 x2 x3 x4 x5 x6:Value} {l:List Value} {t:TypeId} {fr:Nat×Nat} (h:w.heap[b]?=some (.cells (x0::x1::x2::x3::x4::x5::x6::l).toArray t fr)):w.cell? ⟨b,0,none⟩=some x0/\w.cell? ⟨b,1,none⟩=some x1/\w.cell? ⟨b,2,none⟩=some x2/\w.cell? ⟨b,3,none⟩=some x3/\w.cell? ⟨b,4,none⟩=some x4/\w.cell? ⟨b,5,none⟩=some x5/\w.cell? ⟨b,6,none⟩=some x6/\True:=⟨an h 0 _ rfl,an h 1 _ rfl,an h 2 _ rfl,an h 3 _ rfl,an h 4 _ rfl,an h 5 _ rfl,an h 6 _ rfl,trivial⟩
def tV {w:World} {b:Nat} {cs:Array Value} {t:TypeId} (h:w.heap[b]?=some (.cells cs t (0,0))):w.frozen? ⟨b,0,none⟩=false/\w.frozen? ⟨b,1,none⟩=false/\w.frozen? ⟨b,2,none⟩=false/\w.frozen? ⟨b,3,none⟩=false/\w.frozen? ⟨b,4,none⟩=false/\w.frozen? ⟨b,5,none⟩=false/\w.frozen? ⟨b,6,none⟩=false/\True:=⟨br h 0,br h 1,br h 2,br h 3,br h 4,br h 5,br h 6,trivial⟩
def gD {w:World} {b:Nat} {x0 x1 x2 x3 x4 x5 x6 x7:Value} {l:List Value} {t:TypeId} {fr:Nat×Nat} (h:w.heap[b]?=some (.cells (x0::x1::x2::x3::x4::x5::x6::x7::l).toArray t fr)):w.cell? ⟨b,0,none⟩=some x0/\w.cell? ⟨b,1,none⟩=some x1/\w.cell? ⟨b,2,none⟩=some x2/\w.cell? ⟨b,3,none⟩=some x3/\w.cell? ⟨b,4,none⟩=some x4/\w.cell? ⟨b,5,none⟩=some x5/\w.cell? ⟨b,6,none⟩=some x6/\w.cell? ⟨b,7,none⟩=some x7/\True:=⟨an h 0 _ rfl,an h 1 _ rfl,an h 2 _ rfl,an h 3 _ rfl,an h 4 _ rfl,an h 5 _ rfl,an h 6 _ rfl,an h 7 _ rfl,trivial⟩
def fa {w:World} {b:Nat} {x0 x1 x2 x3 x4 x5 x6 x7 x8:Value} {l:List Value} {t:TypeId} {fr:Nat×Nat} (h:w.heap[b]?=some (.cells (x0::x1::x2::x3::x4::x5::x6::x7::x8::l).toArray t fr)):w.cell? ⟨b,0,none⟩=some x0/\w.cell? ⟨b,1,none⟩=some x1/\w.cell? ⟨b,2,none⟩=some x2/\w.cell? ⟨b,3,none⟩=some x3/\w.cell? ⟨b,4,none⟩=some x4/\w.cell? ⟨b,5,none⟩=some x5/\w.cell? ⟨b,6,none⟩=some x6/\w.cell? ⟨b,7,none⟩=some x7/\w.cell? ⟨b,8,none⟩=some x8/\True:=⟨an h 0 _ rfl,an h 1 _ rfl,an h 2 _ rfl,an h 3 _ rfl,an h 4 _ rfl,an h 5 _ rfl,an h 6 _ rfl,an h 7 _ rfl,an h 8 _ rfl,trivial⟩
def Ii {w:World} {b:Nat} {x0 x1 x2 x3 x4 x5 x6 x7 x8 x9 OZ Pa Pb:Value} {l:List Value} {t:TypeId} {fr:Nat×Nat} (h:w.heap[b]?=some (.cells (x0::x1::x2::x3::x4::x5::x6::x7::x8::x9::OZ::Pa::Pb::l).toArray t fr)):w.cell? ⟨b,0,none⟩=some x0/\w.cell? ⟨b,1,none⟩=some x1/\w.cell? ⟨b,2,none⟩=some x2/\w.cell? ⟨b,3,none⟩=some x3/\w.cell? ⟨b,4,none⟩=some x4/\w.cell? ⟨b,5,none⟩=some x5/\w.cell? ⟨b,6,none⟩=some x6/\w.cell? ⟨b,7,none⟩=some x7/\w.cell? ⟨b,8,none⟩=some x8/\w.cell? ⟨b,9,none⟩=some x9/\w.cell? ⟨b,10,none⟩=some OZ/\w.cell? ⟨b,11,none⟩=some Pa/\w.cell? ⟨b,12,none⟩=some Pb/\True:=⟨an h 0 _ rfl,an h 1 _ rfl,an h 2 _ rfl,an h 3 _ rfl,an h 4 _ rfl,an h 5 _ rfl,an h 6 _ rfl,an h 7 _ rfl,an h 8 _ rfl,an h 9 _ rfl,an h 10 _ rfl,an h 11 _ rfl,an h 12 _ rfl,trivial⟩
def Ij {w:World} {b:Nat} {x0 x1 x2 x3 x4 x5 x6 x7 x8 x9 OZ Pa Pb vo:Value} {l:List Value} {t:TypeId} {fr:Nat×Nat} (h:w.heap[b]?=some (.cells (x0::x1::x2::x3::x4::x5::x6::x7::x8::x9::OZ::Pa::Pb::vo::l).toArray t fr)):w.cell? ⟨b,0,none⟩=some x0/\w.cell? ⟨b,1,none⟩=some x1/\w.cell? ⟨b,2,none⟩=some x2/\w.cell? ⟨b,3,none⟩=some x3/\w.cell? ⟨b,4,none⟩=some x4/\w.cell? ⟨b,5,none⟩=some x5/\w.cell? ⟨b,6,none⟩=some x6/\w.cell? ⟨b,7,none⟩=some x7/\w.cell? ⟨b,8,none⟩=some x8/\w.cell? ⟨b,9,none⟩=some x9/\w.cell? ⟨b,10,none⟩=some OZ/\w.cell? ⟨b,11,none⟩=some Pa/\w.cell? ⟨b,12,none⟩=some Pb/\w.cell? ⟨b,13,none⟩=some vo/\True:=⟨an h 0 _ rfl,an h 1 _ rfl,an h 2 _ rfl,an h 3 _ rfl,an h 4 _ rfl,an h 5 _ rfl,an h 6 _ rfl,an h 7 _ rfl,an h 8 _ rfl,an h 9 _ rfl,an h 10 _ rfl,an h 11 _ rfl,an h 12 _ rfl,an h 13 _ rfl,trivial⟩
def ma:(∀(α:Type) (l:List α) (i:Nat) (x:α),l.toArray.setIfInBounds i x=(l.set i x).toArray)/\(∀(α:Type) (x y:α) (l:List α),(x::l).set 0 y=y::l)/\∀(α:Type) (x y:α) (n:Nat) (l:List α),(x::l).set (n+1) y=x::l.set n y:=⟨λ_ _ _ _=>q_ ..,λ_ _ _ _=>rfl,λ_ _ _ _ _=>rfl⟩
def aI:(∀(a:Act) (d:Option Tmp) (v:Value),a.put d v=match d with|some d=>{a with tmps:=a.tmps.setIfInBounds d v}|none=>a)/\(∀(α:Type) (l:List α) (i:Nat) (x:α),l.toArray.setIfInBounds i x=(l.set i x).toArray)/\(∀(α:Type) (x y:α) (l:List α),(x::l).set 0 y=y::l)/\∀(α:Type) (x y:α) (n:Nat) (l:List α),(x::l).set (n+1) y=x::l.set n y:=⟨λ_ _ _=>rfl,ma⟩
def aO {P0 P1:Prop} (p0:P0) (p1:P1):Hid P0/\Hid P1:=⟨a_ p0,a_ p1⟩
def dF {P0 P1 P2:Prop} (p0:P0) (p1:P1) (p2:P2):Hid P0/\Hid P1/\Hid P2:=⟨a_ p0,a_ p1,a_ p2⟩
def qx {P0 P1 P2 P3:Prop} (p0:P0) (p1:P1) (p2:P2) (p3:P3):Hid P0/\Hid P1/\Hid P2/\Hid P3:=⟨a_ p0,a_ p1,a_ p2,a_ p3⟩
def Es {P0 P1 P2 P3 P4:Prop} (p0:P0) (p1:P1) (p2:P2) (p3:P3) (p4:P4):Hid P0/\Hid P1/\Hid P2/\Hid P3/\Hid P4:=⟨a_ p0,a_ p1,a_ p2,a_ p3,a_ p4⟩
def uB {P0 P1 P2 P3 P4 P5:Prop} (p0:P0) (p1:P1) (p2:P2) (p3:P3) (p4:P4) (p5:P5):Hid P0/\Hid P1/\Hid P2/\Hid P3/\Hid P4/\Hid P5:=⟨a_ p0,a_ p1,a_ p2,a_ p3,a_ p4,a_ p5⟩
def Et {P0 P1 P2 P3 P4 P5 P6:Prop} (p0:P0) (p1:P1) (p2:P2) (p3:P3) (p4:P4) (p5:P5) (p6:P6):Hid P0/\Hid P1/\Hid P2/\Hid P3/\Hid P4/\Hid P5/\Hid P6:=⟨a_ p0,a_ p1,a_ p2,a_ p3,a_ p4,a_ p5,a_ p6⟩
def xZ {P0 P1 P2 P3 P4 P5 P6 P7:Prop} (p0:P0) (p1:P1) (p2:P2) (p3:P3) (p4:P4) (p5:P5) (p6:P6) (p7:P7):Hid P0/\Hid P1/\Hid P2/\Hid P3/\Hid P4/\Hid P5/\Hid P6/\Hid P7:=⟨a_ p0,a_ p1,a_ p2,a_ p3,a_ p4,a_ p5,a_ p6,a_ p7⟩
def eH (x:Int) (h: -9223372036854775808<=x/\x<=9223372036854775807:=by omega):IntKind.i64.wrap x=x:=i_ _ h
abbrev WA:=Calls prog
abbrev WR (f:FuncId) (args:Array Value) (w:World) (v:Value) (P:World->Prop):Prop:=WA f args w λe w'=>e=.returned v/\P w'
def dP {p:Prop} [Decidable p] (h:¬p:=by omega):decide p=false:=g_ h
def kr {p:Prop} [Decidable p] (h:p:=by omega):decide p=true:=rc h
def cG {α:Sort _} {c:Prop} [Decidable c] {a b:α} (h:¬c:=by omega):ite c a b=b:=b_ h
def iY {α:Sort _} {c:Prop} [Decidable c] {a b:α} (h:c:=by omega):ite c a b=a:=b9 h
instance:Coe Int Value:=⟨λn=> .int .i64 n⟩
instance:Coe Nat Value:=⟨λn=> .int .i64 (n:Int)⟩
instance:Coe Bool Value:=⟨.bool⟩
inductive Vq where|Wy:Vq|Wz:Nat->Vq|WB:Nat->Vq
inductive Oq where|WD:Array Value->TypeId->Oq
instance:CoeDep Vq .Wy Value:=⟨.int .i64 0⟩
instance (b:Nat):CoeDep Vq (.Wz b) Value:=⟨.pointer (some ⟨b,0,none⟩)⟩
instance (b:Nat):CoeDep Vq (.WB b) Value:=⟨.int .u64 (b:Int)⟩
instance (cs:Array Value) (t:TypeId):CoeDep Oq (.WD cs t) Obj:=⟨.cells cs t (0,0)⟩
variable {P:Program}{ops:Array Oper}{Q:Exit->Act->World->Prop}{md:Region.Mode}{S:World->Prop}
def iZ (i:Nat) {oi:Oper} {v:Value} {fuel:Nat} {listed:Array Bool} {a:Act} {w:World} (h:wpAny P md ops Q fuel (listed.setIfInBounds i true) (a.put oi.dst v) w) (hi:ops[i]?=some oi:=by rfl) (hs:Region.noSelect ops=true:=by kernel_rfl) (hf:Region.free md ops listed i=true:=by kernel_rfl) (hr:(Region.ready md ops listed).contains i=true:=by kernel_rfl) (hQ:∀c a w,Q (.panic c) (a.put oi.dst v) w->Q (.panic c) a w:=by exact λ_ _ _ h=>h) (hy:Yields P ops oi v a:=by exact Or.inl ⟨ol,by (intro w;go_simp;try with_reducible rfl)⟩):wpAny P md ops Q (fuel+1) listed a w:=wpAny_take hi hs hf hr hQ hy h
def bz (i:Nat) {oi:Oper} {v:Value} {fuel:Nat} {listed:Array Bool} {a:Act} {w:World} (h:wpAnyH P md ops Q S fuel (listed.setIfInBounds i true) (a.put oi.dst v) w) (hi:ops[i]?=some oi:=by rfl) (hs:Region.noSelect ops=true:=by kernel_rfl) (hf:Region.free md ops listed i=true:=by kernel_rfl) (hr:(Region.ready md ops listed).contains i=true:=by kernel_rfl) (hQ:∀c a w,Q (.panic c) (a.put oi.dst v) w->Q (.panic c) a w:=by exact λ_ _ _ h=>h) (hy:YieldsIf P ops S oi v a:=by exact Or.inl ⟨ol,by (intro w Gl;(try dsimp only at Gl);go_simp;try with_reducible rfl)⟩) (hS:S w:=by assumption):wpAnyH P md ops Q S (fuel+1) listed a w:=wpAnyH_take hi hs hf hr hQ hy hS h
def pT (i:Nat) {o:Oper} {fuel:Nat} {listed:Array Bool} {a:Act} {w:World} (h:∀K':Act->World->Prop,Shut (∀a w,S w->(S w->wpAnyH P md ops Q S fuel (listed.setIfInBounds i true) a w)->K' a w)->if Region.wanted o (yielded ops a.tmps)=true then Oper.wp P o a w K' Q else K' (a.put o.dst undef) w) (hr:Region.ready md ops listed=[i]:=by kernel_rfl) (ho:ops[i]?=some o:=by rfl):wpAnyH P md ops Q S (fuel+1) listed a w:=wpAnyH_ready hr qr (AllReadyH.cons ho h AllReadyH.nil)
open Vq Oq
end Go.Proofs.YtmdgfpeglgpiiaaGreatDoor
namespace Go.Proofs.YtmdgfpeglgpiiaaGreatDoor.Hd
open Vq Oq Go.Proofs.Tryz
open Go.ChangeShapes Go.WideShapes Go.ChangeAt Go.RowKit
def Ok (p f o:Int):Prop:=0<=p/\p<=255/\0<=f/\f<=255/\0<=o/\o<=255/\p+f+o<=255
instance (p f o:Int):Decidable (Ok p f o):=by unfold Ok;infer_instance
def code (p f o:Int):Int:=if Ok p f o then 0 else 15
def nx {p f o:Int} (h:Ok p f o):code p f o=0:=b9 h
def fg {p f o:Int} (h:¬Ok p f o):code p f o=15:=b_ h
def hv (p f o:Int):Value:= .agg #[p,f,o]
def Gd (n:Int):Prop:=0<=n/\n<=255
def idx0 (a b c:Value) (w:World):(Instr.index 198 (.agg #[a,b,c]) (.int .i64 0)).run prog w=.ok a w:=ol
def idx1 (a b c:Value) (w:World):(Instr.index 198 (.agg #[a,b,c]) (.int .i64 1)).run prog w=.ok b w:=ol
def idx2 (a b c:Value) (w:World):(Instr.index 198 (.agg #[a,b,c]) (.int .i64 2)).run prog w=.ok c w:=ol
def cM (p f o:Int) (w:World): WR 50 #[hv p f o] w (code p f o:Int) λw'=>Below w.heap.size w w':=by
 unfold hv;have i0:=idx0;have i1:=idx1;have i2:=idx2;have hb:=au w (.cells #[p,f,o] 31);go_enter func50,ntmps50;go_wp2;go_loop [12] (λi=>i=.int .i64 0\/(i=.int .i64 1/\Gd p)\/(i=.int .i64 2/\Gd p/\Gd f)\/(i=.int .i64 3/\Gd p/\Gd f/\Gd o)) (λi=>3-(intOf i).toNat);exact .inl rfl;rcases hrel with rfl|⟨rfl,hp⟩|⟨rfl,hp,hf⟩|⟨rfl,hp,hf,ho⟩
 .by_cases h0:p<0
  .have hc:=fg (p:=p) (f:=f) (o:=o) (λh=>by unfold Ok at h;omega);go_wp2;go_ret;exact⟨rfl,hb⟩
  by_cases h1:256<=p
  .have hc:=fg (p:=p) (f:=f) (o:=o) (λh=>by unfold Ok at h;omega);go_wp2;go_ret;exact⟨rfl,hb⟩
  have hp:Gd p:=⟨e9,e9⟩;go_wp2;go_round;exact .inr (.inl ⟨rfl,hp⟩);simp[intOf]
 .by_cases h0:f<0
  .have hc:=fg (p:=p) (f:=f) (o:=o) (λh=>by unfold Ok at h;omega);go_wp2;go_ret;exact⟨rfl,hb⟩
  by_cases h1:256<=f
  .have hc:=fg (p:=p) (f:=f) (o:=o) (λh=>by unfold Ok at h;omega);go_wp2;go_ret;exact⟨rfl,hb⟩
  have hf:Gd f:=⟨e9,e9⟩;go_wp2;go_round;exact .inr (.inr (.inl ⟨rfl,hp,hf⟩));simp[intOf]
 .by_cases h0:o<0
  .have hc:=fg (p:=p) (f:=f) (o:=o) (λh=>by unfold Ok at h;omega);go_wp2;go_ret;exact⟨rfl,hb⟩
  by_cases h1:256<=o
  .have hc:=fg (p:=p) (f:=f) (o:=o) (λh=>by unfold Ok at h;omega);go_wp2;go_ret;exact⟨rfl,hb⟩
  have ho:Gd o:=⟨e9,e9⟩;go_wp2;go_round;exact .inr (.inr (.inr ⟨rfl,hp,hf,ho⟩));simp[intOf]
 obtain⟨tY,hp1⟩:=hp;obtain⟨Gt,Ks⟩:=hf;obtain⟨ho0,Qp⟩:=ho;by_cases h1:256<=p+f+o
 .have hc:=fg (p:=p) (f:=f) (o:=o) (λh=>by unfold Ok at h;omega);go_wp2;go_ret;exact⟨rfl,hb⟩
 have hc:=nx (p:=p) (f:=f) (o:=o) (by unfold Ok;omega);go_wp2;go_ret;exact⟨rfl,hb⟩
def dH (p f o:Int):Int:=if Ok p f o then 1+p+f+o else 0
def iC (p f o:Int) (w:World): WR 52 #[hv p f o] w (dH p f o:Int) λw'=>Below w.heap.size w w':=by
 have hb:=au w (.cells #[p,f,o] 31);have hcell:∀w',Below (w.alloc (.cells #[p,f,o] 31)).heap.size (w.alloc (.cells #[p,f,o] 31)) w'->w'.cell? ⟨w.heap.size,0,none⟩=some (.int .i64 p)/\w'.cell? ⟨w.heap.size,1,none⟩=some (.int .i64 f)/\w'.cell? ⟨w.heap.size,2,none⟩=some (.int .i64 o):=λw' h=>by refine⟨?_,?_,?_⟩<;>rw[h.cell qr]<;>simp
 by_cases hok:Ok p f o
 .have hc:=nx hok;have hs:dH p f o=1+p+f+o:=b9 hok;have sq:=hok;unfold Ok at sq;obtain⟨a1,a2,a3,a4,a5,a6,a7⟩:=sq;obtain⟨tS,Hc,Hs⟩:=dF hok hc hs;clear hok hc hs;unfold hv;go_enter func52,ntmps52;go_wp2_with (go_at_call 50;refine (cM p f o _).kq λw1 bp=>?_;rw[Hc.out];obtain⟨c0,c1,c2⟩:=hcell _ bp;replace hb:=seq hb bp;clear bp hcell);go_ret;exact⟨by rw[Hs.out];rfl,hb⟩
 have hc:=fg hok;have hs:dH p f o=0:=b_ hok;obtain⟨Hc,Hs⟩:=aO hc hs;clear hok hc hs;unfold hv;go_enter func52,ntmps52;go_wp2_with (go_at_call 50;refine (cM p f o _).kq λw1 bp=>?_;rw[Hc.out];replace hb:=seq hb bp;clear bp hcell);go_ret;exact⟨by rw[Hs.out];rfl,hb⟩
def low (p f o:Nat):Nat:=p+f*256+o*65536+2768240640
def dv (p f o:Nat):Nat:=low p f o+(4294967295-low p f o)*4294967296
def wA {x y:Nat} (i:Nat) (hx:x<2^i) (hy:y%2^i=0):x ||| y=x+y:=by rw[aj9,nat_join i y x hy hx];omega
def put_facts (p f o:Nat) (hp:p<=255) (hf:f<=255) (ho:o<=255):∃A B N M K:Int,bits BinOp.or IntKind.u32 (p:Int) ((f:Int)*256)=A/\bits BinOp.or IntKind.u32 A ((o:Int)*65536)=B/\bits BinOp.or IntKind.u32 B 2768240640=N/\bits BinOp.xor IntKind.u32 IntKind.u32.max N=M/\IntKind.u64.wrap M=M/\IntKind.u64.wrap N=N/\IntKind.u64.wrap (M*4294967296)=K/\bits BinOp.or IntKind.u64 K N=(dv p f o:Nat):=by
 have hl:low p f o<4294967296:=by unfold low;omega
 refine⟨((p+f*256:Nat):Int),((p+f*256+o*65536:Nat):Int),(low p f o:Nat),((4294967295-low p f o:Nat):Int),(((4294967295-low p f o)*4294967296:Nat):Int),?_,?_,?_,?_,?_,?_,?_,?_⟩;rw[show ((f:Int)*256)=((f*256:Nat):Int) from e9,u32_or_nat _ _ e9 e9,wA 8 e9 e9];rw[show ((o:Int)*65536)=((o*65536:Nat):Int) from e9,u32_or_nat _ _ e9 e9,wA 16 e9 e9];rw[show (2768240640:Int)=((2768240640:Nat):Int) from rfl,u32_or_nat _ _ e9 e9,wA 24 e9 e9];rfl;rw[show IntKind.u32.max=((4294967295:Nat):Int) from rfl,u32_xor_nat _ _ e9 hl];refine NE (λn:Nat=>(n:Int)) ?_;generalize low p f o=n at *;have e:2^32-1-n=2^32-(n+1):=e9;rw[show (4294967295:Nat)=2^32-1 from rfl,e];apply vC;intro i;rw[N' hl,ag9,P_];by_cases hi:i<32;simp[hi];have:n.testBit i=false:=H' (x_ hl (pl (n:=2) (i:=32) e9 e9));simp[hi,this];rw[U_];omega;rw[U_];omega;rw[U_];omega;rw[u64_or_nat _ _ e9 e9,aj9,wA 32 hl e9];rfl
def put_yes (p f o:Nat) (w:World) (hok:Ok p f o): WR 129 #[hv p f o] w (.tuple #[WB (dv p f o),Wy]) λw'=>Below w.heap.size w w':=by
 have hb:=au w (.cells #[p,f,o] 31);have hcell:∀w',Below (w.alloc (.cells #[p,f,o] 31)).heap.size (w.alloc (.cells #[p,f,o] 31)) w'->w'.cell? ⟨w.heap.size,0,none⟩=some (.int .i64 p)/\w'.cell? ⟨w.heap.size,1,none⟩=some (.int .i64 f)/\w'.cell? ⟨w.heap.size,2,none⟩=some (.int .i64 o):=λw' h=>by refine⟨?_,?_,?_⟩<;>rw[h.cell qr]<;>simp
 have hc:=nx hok;have sq:=hok;unfold Ok at sq;obtain⟨a1,a2,a3,a4,a5,a6,a7⟩:=sq;obtain⟨A,B,N,M,K,e1,e2,e3,e4,e5,e6,e7,e8⟩:=put_facts p f o e9 e9 e9;have hsg:IntKind.u32.signed=false:=rfl;have Hc:=a_ hc;clear hok hc;unfold hv;go_enter func129,ntmps129;go_wp2_with (go_at_call 50;refine (cM p f o _).kq λw1 bp=>?_;rw[Hc.out];obtain⟨c0,c1,c2⟩:=hcell _ bp;replace hb:=seq hb bp;clear bp hcell);go_ret2;exact⟨rfl,hb⟩
def tp (x:Nat):Nat:=x%256
def tf (x:Nat):Nat:=x/256%256
def to (x:Nat):Nat:=x/65536%256
def Is (x:Nat):Prop:=Ok (tp x) (tf x) (to x)/\dv (tp x) (tf x) (to x)=x
instance (x:Nat):Decidable (Is x):=by unfold Is;infer_instance
def take_facts (x:Nat):∃N:Nat,N<4294967296/\((x:Int)%4294967296=N)/\bits BinOp.and IntKind.u32 (N:Int) 255=(tp x:Nat)/\bits BinOp.and IntKind.u32 ((N:Int)/256) 255=(tf x:Nat)/\bits BinOp.and IntKind.u32 ((N:Int)/65536) 255=(to x:Nat)/\(Is x↔N/16777216=165/\x/4294967296=4294967295-N/\Ok (tp x) (tf x) (to x))/\bits BinOp.xor IntKind.u32 IntKind.u32.max (N:Int)=((4294967295-N:Nat):Int):=by
 refine⟨x%4294967296,e9,e9,?_,?_,?_,?_,?_⟩;have:=u32_and_nat (x%4294967296) 255 e9 z9;rw[nat_mask8] at this;rw[show (255:Int)=((255:Nat):Int) from rfl,this];unfold tp;omega;have:=u32_and_nat (x%4294967296/256) 255 e9 z9;rw[nat_mask8] at this;rw[show (((x%4294967296:Nat):Int)/256)=((x%4294967296/256:Nat):Int) from e9,show (255:Int)=((255:Nat):Int) from rfl,this];unfold tf;omega;have:=u32_and_nat (x%4294967296/65536) 255 e9 z9;rw[nat_mask8] at this;rw[show (((x%4294967296:Nat):Int)/65536)=((x%4294967296/65536:Nat):Int) from e9,show (255:Int)=((255:Nat):Int) from rfl,this];unfold to;omega;have hp:tp x<=255:=by unfold tp;omega
 have hf:tf x<=255:=by unfold tf;omega
 have ho:to x<=255:=by unfold to;omega
 have hs:x%4294967296=tp x+tf x*256+to x*65536+x%4294967296/16777216*16777216:=by unfold tp tf to;omega
 unfold Is dv;have Ex:low (tp x) (tf x) (to x)=tp x+tf x*256+to x*65536+2768240640:=rfl;generalize tp x=p at *;generalize tf x=f at *;generalize to x=o at *;generalize low p f o=l at *;constructor;rintro⟨h1,h2⟩;have hl:l<4294967296:=e9;have h3:x%4294967296=l:=e9;have h4:x/4294967296=4294967295-l:=e9;exact⟨e9,e9,h1⟩;rintro⟨h1,h2,h3⟩;exact⟨h3,e9⟩;have hN:x%4294967296<2^32:=e9;generalize x%4294967296=n at *;rw[show IntKind.u32.max=((4294967295:Nat):Int) from rfl,u32_xor_nat _ _ e9 hN];refine NE (λn:Nat=>(n:Int)) ?_;have e:2^32-1-n=2^32-(n+1):=e9;rw[show (4294967295:Nat)=2^32-1 from rfl,e];apply vC;intro i;rw[N' hN,ag9,P_];by_cases hi:i<32;simp[hi];have:n.testBit i=false:=H' (x_ hN (pl (n:=2) (i:=32) e9 e9));simp[hi,this]
def yJ (x:Nat) (w:World) (hx:x<18446744073709551616): WR 185 #[.int .u64 x] w (.tuple #[if Is x then hv (tp x) (tf x) (to x) else hv 0 0 0,.int .i64 (if Is x then 0 else 16)]) λw'=>Below w.heap.size w w':=by
 obtain⟨N,hN,e0,e1,e2,e3,vL,e4⟩:=take_facts x;have hsg:IntKind.u32.signed=false:=rfl;have hp:tp x<=255:=by unfold tp;omega
 have hf:tf x<=255:=by unfold tf;omega
 have ho:to x<=255:=by unfold to;omega
 obtain⟨U,hU,e5⟩:∃U:Nat,x/4294967296=U/\(x:Int)/4294967296%4294967296=U:=⟨_,rfl,e9⟩;obtain⟨M,hM,e4'⟩:∃M:Nat,4294967295-N=M/\bits BinOp.xor IntKind.u32 IntKind.u32.max (N:Int)=M:=⟨_,rfl,e4⟩;rw[hU,hM] at vL;clear hx hU hM e4;have hc:=@nx (tp x) (tf x) (to x);have Ba:=@fg (tp x) (tf x) (to x);by_cases h1:N/16777216=165
 .have b1:((N:Int)/16777216==165)=true:=(by rw[ag5];omega);have b2:((N:Int)/16777216 !=165)=false:=(by rw[bne_eq_false_iff_eq];omega);by_cases h2:U=M
  .subst h2;by_cases h3:Ok (tp x) (tf x) (to x)
   .have fY:Is x:=vL.2 ⟨h1,rfl,h3⟩;simp only[b9 fY];have hc:=hc h3;clear Ba h3 h1 fY vL;generalize tp x=p at *;generalize tf x=f at *;generalize to x=o at *;obtain⟨W,hW⟩:∃W,W=(w.alloc (.cells #[Wy,Wy,Wy] 31)).alloc (.cells #[p,f,o] 31):=⟨_,rfl⟩;have hb:Below w.heap.size w W:=(by rw[hW];exact seq (au _ _) (au _ _));have hr:W.heap[w.heap.size]?=some (.cells #[Wy,Wy,Wy] 31 (0,0)):=(by rw[hW];exact heap_alloc2_old _ _ _);have hs:W.heap[w.heap.size+1]?=some (.cells #[p,f,o] 31 (0,0)):=(by rw[hW];exact heap_alloc2_new _ _ _);have mG:=cM p f o W;rw[hW] at mG;obtain⟨HW,zG,Hr,Hs⟩:=qx hW mG hr hs;clear hW hr hs mG;have Hc:=a_ hc;clear hc;unfold hv;go_enter func185,ntmps185;go_wp2_with (go_at_call 50;refine (zG).mono ?_;rw[<-HW.out];rintro e w1 ⟨rfl,bp⟩;rw[Hc.out];obtain⟨⟨c0,c1,c2⟩,f0,f1,f2⟩:=three (cQ bp (bi _) Hr);obtain⟨⟨d0,d1,d2⟩,g0,g1,g2⟩:=three (cQ bp (bi _) Hs);replace hb:=seq hb bp;clear bp);refine nl (v:= .tuple #[.agg #[p,f,o],Wy]) (by simp[results,results185,go_sem,c0,c1,c2]) rfl ⟨rfl,((hb.setCell qr _).setCell qr _).setCell qr _⟩
   have fY:¬Is x:=λh=>h3 (vL.1 h).2.2;simp only[b_ fY];have hc:=Ba h3;clear Ba h3 h1 fY vL;generalize tp x=p at *;generalize tf x=f at *;generalize to x=o at *;obtain⟨W,hW⟩:∃W,W=(w.alloc (.cells #[Wy,Wy,Wy] 31)).alloc (.cells #[p,f,o] 31):=⟨_,rfl⟩;have hb:Below w.heap.size w W:=(by rw[hW];exact seq (au _ _) (au _ _));have hr:W.heap[w.heap.size]?=some (.cells #[Wy,Wy,Wy] 31 (0,0)):=(by rw[hW];exact heap_alloc2_old _ _ _);have hs:W.heap[w.heap.size+1]?=some (.cells #[p,f,o] 31 (0,0)):=(by rw[hW];exact heap_alloc2_new _ _ _);have mG:=cM p f o W;rw[hW] at mG;obtain⟨HW,zG,Hr,Hs⟩:=qx hW mG hr hs;clear hW hr hs mG;have Hc:=a_ hc;clear hc;unfold hv;go_enter func185,ntmps185;go_wp2_with (go_at_call 50;refine (zG).mono ?_;rw[<-HW.out];rintro e w1 ⟨rfl,bp⟩;rw[Hc.out];obtain⟨⟨c0,c1,c2⟩,f0,f1,f2⟩:=three (cQ bp (bi _) Hr);obtain⟨⟨d0,d1,d2⟩,g0,g1,g2⟩:=three (cQ bp (bi _) Hs);replace hb:=seq hb bp;clear bp);refine nl (v:= .tuple #[.agg #[Wy,Wy,Wy],(16:Int)]) (by simp[results,results185,go_sem,c0,c1,c2]) rfl ⟨rfl,((hb.setCell qr _).setCell qr _).setCell qr _⟩
  have fY:¬Is x:=λh=>h2 (vL.1 h).2.1;simp only[b_ fY];have b3:((U:Int)==(M:Int))=false:=v6;have b4:((U:Int) !=(M:Int))=true:=(by rw[ag6];omega);clear vL fY hc Ba h2;generalize tp x=p at *;generalize tf x=f at *;generalize to x=o at *;unfold hv;go_enter func185,ntmps185;go_wp2;refine nl (v:= .tuple #[.agg #[Wy,Wy,Wy],(16:Int)]) (by simp[results,results185,go_sem]) rfl ⟨rfl,seq (au _ _) (au _ _)⟩
 have fY:¬Is x:=λh=>h1 (vL.1 h).1;simp only[b_ fY];have b1:((N:Int)/16777216==165)=false:=v6;have b2:((N:Int)/16777216 !=165)=true:=by rw[ag6];omega
 have H1:=a_ h1;clear vL fY h1 hc Ba;generalize tp x=p at *;generalize tf x=f at *;generalize to x=o at *;unfold hv;go_enter func185,ntmps185;go_wp2;refine nl (v:= .tuple #[.agg #[Wy,Wy,Wy],(16:Int)]) (by simp[results,results185,go_sem]) rfl ⟨rfl,seq (au _ _) (au _ _)⟩
def gG (p f o:Int):Obj:= .cells #[p,f,o] 31
def xV (p f o:Int) (w w':World) (hb:Below (w.alloc (gG p f o)).heap.size (w.alloc (gG p f o)) w'): (w'.cell? ⟨w.heap.size,0,none⟩=some (.int .i64 p)/\w'.cell? ⟨w.heap.size,1,none⟩=some (.int .i64 f)/\w'.cell? ⟨w.heap.size,2,none⟩=some (.int .i64 o))/\w'.frozen? ⟨w.heap.size,0,none⟩=false/\w'.frozen? ⟨w.heap.size,1,none⟩=false/\w'.frozen? ⟨w.heap.size,2,none⟩=false:=three (cQ hb (bi _) (ls _ _))
def kindOf (p f o i:Int):Int:=if Ok p f o/\0<=i/\i<p+f+o then (if i<p then 1 else if i<p+f then 2 else 3) else 0
def lA (p f o k:Int):Int:=if Ok p f o then (if k=2 then p else if k=3 then p+f else 0) else 0
def first_any (p f o k:Int) (w:World): WR 68 #[hv p f o,k] w (lA p f o k:Int) λw'=>Below w.heap.size w w':=by
 have hb:=au w (gG p f o);have hk:=xV p f o w;have hc:=cM p f o (w.alloc (gG p f o));unfold gG at hk hb hc;by_cases hok:Ok p f o
 .have hs:lA p f o k=if k=2 then p else if k=3 then p+f else 0:=b9 hok;rw[nx hok] at hc;have sq:=hok;unfold Ok at sq;obtain⟨a1,a2,a3,a4,a5,a6,a7⟩:=sq;obtain⟨Hs,Hc⟩:=aO hs hc;clear hok hs hc;unfold hv at *;by_cases k2:k=2
  .subst k2;go_enter func68,ntmps68;go_wp2_with (go_at_call 50;refine (Hc).kq λw1 bp=>?_;obtain⟨⟨c0,c1,c2⟩,-⟩:=hk _ bp;replace hb:=seq hb bp;clear bp hk);go_ret;exact⟨by rw[Hs.out];rfl,hb⟩
  by_cases k3:k=3
  .subst k3;go_enter func68,ntmps68;go_wp2_with (go_at_call 50;refine (Hc).kq λw1 bp=>?_;obtain⟨⟨c0,c1,c2⟩,-⟩:=hk _ bp;replace hb:=seq hb bp;clear bp hk);go_ret;exact⟨by rw[Hs.out];rfl,hb⟩
  have b2:(k==2)=false:=(by rw[n_];exact k2);have b3:(k==3)=false:=(by rw[n_];exact k3);have hs:lA p f o k=0:=(by rw[Hs.out,b_ k2,b_ k3]);have Gc:=a_ hs;clear hs k2 k3;go_enter func68,ntmps68;go_wp2_with (go_at_call 50;refine (Hc).kq λw1 bp=>?_;obtain⟨⟨c0,c1,c2⟩,-⟩:=hk _ bp;replace hb:=seq hb bp;clear bp hk);go_ret;exact⟨by rw[Gc.out];rfl,hb⟩
 have hs:lA p f o k=0:=b_ hok;rw[fg hok] at hc;obtain⟨Hs,Hc⟩:=aO hs hc;clear hok hs hc;unfold hv at *;go_enter func68,ntmps68;go_wp2_with (go_at_call 50;refine (Hc).kq λw1 bp=>?_;obtain⟨⟨c0,c1,c2⟩,-⟩:=hk _ bp;replace hb:=seq hb bp;clear bp hk);go_ret;exact⟨by rw[Hs.out];rfl,hb⟩
def nR (p f o i:Int) (w:World): WR 180 #[hv p f o,i] w (kindOf p f o i:Int) λw'=>Below w.heap.size w w':=by
 have hb:=au w (gG p f o);have hk:=xV p f o w;have hc:=iC p f o (w.alloc (gG p f o));unfold gG at hk hb hc;by_cases h0:i<0
 .have hs:kindOf p f o i=0:=cG;have Hs:=a_ hs;clear hs hc hk;unfold hv at *;go_enter func180,ntmps180;go_wp2;go_ret;exact⟨by rw[Hs.out];rfl,hb⟩
 by_cases hok:Ok p f o
 .have hz:dH p f o=1+p+f+o:=b9 hok;rw[hz] at hc;have hs:kindOf p f o i=if 0<=i/\i<p+f+o then (if i<p then 1 else if i<p+f then 2 else 3) else 0:=(by unfold kindOf;simp only[hok,true_and]);have sq:=hok;unfold Ok at sq;obtain⟨a1,a2,a3,a4,a5,a6,a7⟩:=sq;obtain⟨Hs,Hc⟩:=aO hs hc;clear hok hs hc hz;unfold hv at *;by_cases h1:i<p+f+o
  .by_cases h2:i<p
   .have hs:kindOf p f o i=1:=(by rw[Hs.out,b9 ⟨e9,e9⟩,b9 h2]);have Gc:=a_ hs;clear hs Hs;go_enter func180,ntmps180;go_wp2_with (go_at_call 52;refine (Hc).kq λw1 bp=>?_;obtain⟨⟨c0,c1,c2⟩,-⟩:=hk _ bp;replace hb:=seq hb bp;clear bp hk);go_ret;exact⟨by rw[Gc.out];rfl,hb⟩
   by_cases h3:i<p+f
   .have hs:kindOf p f o i=2:=(by rw[Hs.out,b9 ⟨e9,e9⟩,b_ h2,b9 h3]);have Gc:=a_ hs;clear hs Hs;go_enter func180,ntmps180;go_wp2_with (go_at_call 52;refine (Hc).kq λw1 bp=>?_;obtain⟨⟨c0,c1,c2⟩,-⟩:=hk _ bp;replace hb:=seq hb bp;clear bp hk);go_ret;exact⟨by rw[Gc.out];rfl,hb⟩
   have hs:kindOf p f o i=3:=(by rw[Hs.out,b9 ⟨e9,e9⟩,b_ h2,b_ h3]);have Gc:=a_ hs;clear hs Hs;go_enter func180,ntmps180;go_wp2_with (go_at_call 52;refine (Hc).kq λw1 bp=>?_;obtain⟨⟨c0,c1,c2⟩,-⟩:=hk _ bp;replace hb:=seq hb bp;clear bp hk);go_ret;exact⟨by rw[Gc.out];rfl,hb⟩
  have hs:kindOf p f o i=0:=(by rw[Hs.out,cG]);have Gc:=a_ hs;clear hs Hs;go_enter func180,ntmps180;go_wp2_with (go_at_call 52;refine (Hc).kq λw1 bp=>?_;obtain⟨⟨c0,c1,c2⟩,-⟩:=hk _ bp;replace hb:=seq hb bp;clear bp hk);go_ret;exact⟨by rw[Gc.out];rfl,hb⟩
 have hz:dH p f o=0:=b_ hok;rw[hz] at hc;have hs:kindOf p f o i=0:=b_ (λh=>hok h.1);obtain⟨Hs,Hc⟩:=aO hs hc;clear hok hs hc hz;unfold hv at *;go_enter func180,ntmps180;go_wp2_with (go_at_call 52;refine (Hc).kq λw1 bp=>?_;obtain⟨⟨c0,c1,c2⟩,-⟩:=hk _ bp;replace hb:=seq hb bp;clear bp hk);go_ret;exact⟨by rw[Hs.out];rfl,hb⟩
end Go.Proofs.YtmdgfpeglgpiiaaGreatDoor.Hd
namespace Go.Proofs.YtmdgfpeglgpiiaaGreatDoor
open Go.ChangeShapes Go.WideShapes Go.ChangeAt Go.RowKit
open Vq Oq Go.Proofs.Tryz
def df (S:Nat->Prop) (w w':World):Prop:=w'.os=w.os/\w'.tape=w.tape/\w'.output=w.output/\w.heap.size<=w'.heap.size/\∀k,k<w.heap.size->¬S k->w'.heap[k]?=w.heap[k]?
def In (S:Nat->Prop) (w:World):Prop:=∀k,S k->k<w.heap.size
def eY (S S':Nat->Prop) (w:World):Prop:=∀k,S' k->S k\/w.heap.size<=k
def lY (S T:Nat->Prop):Prop:=∀k,S k->T k->False
def lY.symm {S T:Nat->Prop} (h:lY S T):lY T S:=λk a b=>h k b a
def eY.refl (S:Nat->Prop) (w:World):eY S S w:=λ_ h=> .inl h
def eY.trans {S S' S2:Nat->Prop} {w w':World} (h:eY S S' w) (k:eY S' S2 w') (hs:w.heap.size<=w'.heap.size):eY S S2 w:=λq hq=>by
 rcases k q hq with a|a;exact h q a;exact .inr e9
def eY.apart {S S' T:Nat->Prop} {w:World} (h:eY S S' w) (a:lY S T) (hT:In T w):lY S' T:=λk hk ht=>by
 rcases h k hk with b|b;exact a k b ht;have:=hT k ht;omega
def In.mono {S:Nat->Prop} {w w':World} (h:In S w) (hs:w.heap.size<=w'.heap.size):In S w':=λk hk=>by have:=h k hk;omega
def df.refl (S:Nat->Prop) (w:World):df S w w:=⟨rfl,rfl,rfl,bi _,λ_ _ _=>rfl⟩
def df.size {S:Nat->Prop} {w w':World} (h:df S w w'):w.heap.size<=w'.heap.size:=h.2.2.2.1
def df.of {S:Nat->Prop} {w w':World} (h:Below w.heap.size w w'):df S w w':=⟨h.os,h.tape,h.output,h.size,λk hk _=>h.block k hk⟩
def df.mono {S T:Nat->Prop} {w w':World} (h:df S w w') (hs:∀k,k<w.heap.size->S k->T k):df T w w':=⟨h.1,h.2.1,h.2.2.1,h.2.2.2.1,λk hk hn=>h.2.2.2.2 k hk (λa=>hn (hs k hk a))⟩
def df.trans {S T:Nat->Prop} {w a b:World} (h:df S w a) (k:df T a b) (hs:∀q,q<w.heap.size->T q->S q):df S w b:=⟨k.1.trans h.1,k.2.1.trans h.2.1,k.2.2.1.trans h.2.2.1,h_ h.size k.size,λq hq hn=>(k.2.2.2.2 q (x_ hq h.size) (λt=>hn (hs q hq t))).trans (h.2.2.2.2 q hq hn)⟩
def df.then {S S':Nat->Prop} {w a b:World} (h:df S w a) (k:df S' a b) (g:eY S S' w):df S w b:=h.trans k λq hq hs=>(g q hs).resolve_right e9
def df.set {S:Nat->Prop} {w a:World} (h:df S w a) {p:Addr} (hb:S p.block\/w.heap.size<=p.block) (v:Value):df S w (a.setCell p v):=⟨h.1,h.2.1,h.2.2.1,by have:=h.size;simpa [World.setCell] using this,λk hk hn=>by rw[Below.heap_setCell a p v k (by rintro rfl;rcases hb with hb|hb;exact hn hb;omega)];exact h.2.2.2.2 k hk hn⟩
def df.alloc {S:Nat->Prop} {w a:World} (h:df S w a) (o:Obj):df S w (a.alloc o):=⟨h.1,h.2.1,h.2.2.1,h_ h.size qr,λk hk hn=>(Below.heap_alloc a o k (x_ hk h.size)).trans (h.2.2.2.2 k hk hn)⟩
def df.drew {S:Nat->Prop} {w a:World} (h:df S w a):df S w a.drew:=⟨h.1,h.2.1,h.2.2.1,h.2.2.2.1,h.2.2.2.2⟩
def df.below {S:Nat->Prop} {w w':World} (h:df S w w') {B:Nat} (hB:∀k,S k->B<=k) (hw:B<=w.heap.size):Below B w w':=⟨h.1,h.2.1,h.2.2.1,h.2.2.2.1,λk hk=>h.2.2.2.2 k e9 (λa=>by have:=hB k a;omega)⟩
def df.keep {S:Nat->Prop} {w w':World} (h:df S w w') {k:Nat} {o:Obj} (hk:w.heap[k]?=some o) (hn:¬S k):w'.heap[k]?=some o:=by rw[h.2.2.2.2 k (bf hk) hn];exact hk
def df.cell {S:Nat->Prop} {w w':World} (h:df S w w') {p:Addr} {v:Value} (hp:w.cell? p=some v) (hn:¬S p.block):w'.cell? p=some v:=(World.cell?_of_block (h.2.2.2.2 p.block (al1 hp) hn)).trans hp
def df.yo {S:Nat->Prop} {w a b:World} (h:df S w a) (k:Below a.heap.size a b):df S w b:=h.trans (T:=λ_=>False) (df.of k) (λ_ _ h=>h.elim)
def Gg {w:World} {p:Addr} {v:Value} {k:Nat} (h:k≠p.block):(w.setCell p v).heap[k]?=w.heap[k]?:=Below.heap_setCell w p v k h
def fh (n:Nat) (f:Nat->Value):List Value:=(List.range n).map f
def cD (n:Nat) (f:Nat->Value):(fh n f).length=n:=by simp[fh]
def dh (n:Nat) (f:Nat->Value) (i:Nat):(fh n f)[i]?=if i<n then some (f i) else none:=by unfold fh;rw[o_];by_cases h:i<n;rw[GE h,b9 h];rfl;rw[DG yd,b_ h];rfl
def rX {n:Nat} {f g:Nat->Value} (h:∀i,i<n->f i=g i):fh n f=fh n g:=by apply E_;intro i;rw[dh,dh];split;rename_i hi;rw[h i hi];rfl
def ftab_set (n:Nat) (f:Nat->Value) (j:Nat) (v:Value):(fh n f).set j v=fh n λi=>if i=j then v else f i:=by apply E_;intro i;rw[I',dh,dh,cD];by_cases h:j=i;subst h;simp;rw[b_ h];split;rw[b_ (λe=>h e.symm)];rfl
def kJ (n m:Nat) (f g:Nat->Value):fh n f++fh m g=fh (n+m) λi=>if i<n then f i else g (i-n):=by apply E_;intro i;rw[ah4,cD,dh,dh,dh];by_cases h:i<n;rw[b9 h,b9 (show i<n+m by omega)];simp[h];rw[b_ h];by_cases h2:i-n<m;rw[b9 h2,iY];simp[h];rw[b_ h2,cG]
def kK (m:Nat) (z:Value):List.replicate m z=fh m λ_=>z:=by apply E_;intro i;rw[dh,af8]
def bL (B:Nat) (e:TypeId) (v:Value) (n:Nat) (f:Nat->Value) (w:World):Prop:=w.ownsRow B e 1 v n (fh n f)
def sR {w w':World} {aa size n:Nat} {e:TypeId} {v:Value} {xs:List Value} (h:w.ownsRow aa e size v n xs) (hh:∀g,v.ownBlock=some g->w'.heap[g]?=w.heap[g]?):w'.ownsRow aa e size v n xs:=by refine⟨h.1,?_⟩;rcases h.2 with e|⟨g,c,cur,e,h1,h2,h3⟩;exact .inl e;exact .inr ⟨g,c,cur,e,h1,(hh g (by rw[e];rfl)).trans h2,h3⟩
def bL.from {B n:Nat} {e:TypeId} {v:Value} {f:Nat->Value} {w w':World} (h:bL B e v n f w) (hh:∀g,v.ownBlock=some g->w'.heap[g]?=w.heap[g]?):bL B e v n f w':=sR h hh
def bL.nil (B:Nat) (e:TypeId) (f:Nat->Value) (w:World):bL B e (.slice none 0 0) 0 f w:=ak0 w B e 1
def bL.congr {B n:Nat} {e:TypeId} {v:Value} {f g:Nat->Value} {w:World} (h:bL B e v n f w) (hh:∀i,i<n->f i=g i):bL B e v n g w:=by unfold bL;rw[<-rX hh];exact h
def bL.lt {B n:Nat} {e:TypeId} {v:Value} {f:Nat->Value} {w:World} (h:bL B e v n f w):∀k,v.ownBlock=some k->B<=k/\k<w.heap.size:=World.ownsRow.lt h
def bL.block {B n:Nat} {e:TypeId} {v:Value} {f:Nat->Value} {w:World} (h:bL B e v n f w):∀k,v.ownBlock=some k->∃cur,w.heap[k]?=some (.cells cur e (0,0)):=by intro k hk;rcases h.2 with⟨rfl,_⟩|⟨g,cap,cur,rfl,hb,hg,_⟩;cases hk;simp[Value.ownBlock] at hk;subst hk;exact⟨cur,hg⟩
def bL.gV {B B' n n':Nat} {e e':TypeId} {v v':Value} {f f':Nat->Value} {w:World} (h:bL B e v n f w) (h':bL B' e' v' n' f' w) (he:e≠e') {k k':Nat} (hk:v.ownBlock=some k) (jj:v'.ownBlock=some k'):k≠k':=by intro e1;obtain⟨c,hc⟩:=h.block k hk;obtain⟨c',Ba⟩:=h'.block k' jj;rw[<-e1,hc] at Ba;simp at Ba;exact he Ba.2
def bL.form {B n len cap:Nat} {e:TypeId} {a:Option Addr} {f:Nat->Value} {w:World} (h:bL B e (.slice a len cap) n f w):len=n/\n<=cap/\cap<=maxLen/\(0<n->∃g,a=some ⟨g,0,none⟩/\B<=g/\g<w.heap.size)/\∀ad,a=some ad->∃g,ad=⟨g,0,none⟩:=by rcases h.2 with⟨e,h0⟩|⟨g,c,cur,e,hb,hg,hc,hm,_⟩;simp at e;obtain⟨rfl,rfl,rfl⟩:=e;exact⟨h0.symm,e9,by unfold maxLen;omega,λh=>e9,λad had=>by cases had⟩;simp at e;obtain⟨rfl,rfl,rfl⟩:=e;exact⟨rfl,hc,hm,λ_=>⟨g,rfl,hb,(J'.1 hg).1⟩,λad had=>⟨g,by simpa using had.symm⟩⟩
def bL.cell {B n cap g:Nat} {e:TypeId} {f:Nat->Value} {w:World} (h:bL B e (.slice (some ⟨g,0,none⟩) n cap) n f w) {i:Nat} (hi:i<n):w.cell? ⟨g,i,none⟩=some (f i):=by rw[World.ownsRow.cellAt h i e9,dh,b9 hi]
def bL.free {B n cap g:Nat} {e:TypeId} {f:Nat->Value} {w:World} (h:bL B e (.slice (some ⟨g,0,none⟩) n cap) n f w) (i:Nat):w.frozen? ⟨g,i,none⟩=false:=World.ownsRow.frozenAt h i
def bL.set {B n cap g:Nat} {e:TypeId} {f:Nat->Value} {w:World} (h:bL B e (.slice (some ⟨g,0,none⟩) n cap) n f w) (j:Nat) (v:Value): bL B e (.slice (some ⟨g,0,none⟩) n cap) n (λi=>if i=j then v else f i) (w.setCell ⟨g,j,none⟩ v):=by have:=(World.ownsRow.stored h j v).1;rw[ftab_set] at this;exact this
def bL.setCells {B n cap g:Nat} {e:TypeId} (z:Value):∀(m:Nat) {f:Nat->Value} {w:World} (h:bL B e (.slice (some ⟨g,0,none⟩) n cap) n f w) (o:Nat),bL B e (.slice (some ⟨g,0,none⟩) n cap) n (λi=>if o<=i/\i<o+m then z else f i) (w.setCells g o (List.replicate m z))
 |0,f,w,h,o=>by refine bL.congr h λi hi=>?_;rw[cG]
 |m+1,f,w,h,o=>by rw[List.replicate_succ,World.setCells];refine (bL.setCells z m (h.set o z) (o+1)).congr λi hi=>?_;show (if o+1<=i/\i<o+1+m then z else if i=o then z else f i)=if o<=i/\i<o+(m+1) then z else f i;by_cases h1:o<=i/\i<o+(m+1);rw[b9 h1];by_cases h2:i=o;rw[cG,b9 h2];rw[iY];rw[b_ h1,cG,cG]
def df.setCells {S:Nat->Prop} {w:World} {g:Nat} (hs:S g\/w.heap.size<=g):∀(vs:List Value) (o:Nat) {a:World},df S w a->df S w (a.setCells g o vs)
 |[],_,_,h=>h
 |v::vs,o,_,h=>df.setCells hs vs (o+1) (h.set (p:=⟨g,o,none⟩) hs v)
def ib {g k:Nat} (hne:k≠g):∀(vs:List Value) (o:Nat) (a:World),(a.setCells g o vs).heap[k]?=a.heap[k]?
 |[],_,_=>rfl
 |v::vs,o,a=>(ib hne vs (o+1) _).trans (Below.heap_setCell a ⟨g,o,none⟩ v k hne)
def mg (g:Nat):∀(vs:List Value) (o:Nat) (a:World),(a.setCells g o vs).heap.size=a.heap.size
 |[],_,_=>rfl
 |v::vs,o,a=>(mg g vs (o+1) _).trans (by simp[World.setCell])
def bL.dE {b n:Nat} {e:TypeId} {v:Value} {f:Nat->Value} {w:World} (h:bL (b+1) e v n f w) (j:Nat) (x:Value):bL (b+1) e v n f (w.setCell ⟨b,j,none⟩ x):=h.from λk hk=>Gg (by have:=(h.lt k hk).1;show k≠b;omega)
def bL.shrink {B n m cap g:Nat} {e:TypeId} {f:Nat->Value} {w:World} (h:bL B e (.slice (some ⟨g,0,none⟩) n cap) n f w) (hm:m<=n):bL B e (.slice (some ⟨g,0,none⟩) m cap) m f w:=by
 refine⟨by rw[cD,w_],?_⟩;rcases h.2 with⟨e1,_⟩|⟨g',c,cur,e1,hb,hg,hc,hcm,hs,ht⟩;cases e1;simp at e1;obtain⟨rfl,rfl⟩:=e1;refine .inr ⟨g,cap,cur,rfl,hb,hg,e9,hcm,hs,?_⟩;rw[w_] at ht ⊢;have:(cur.toList.take n).take m=fh m f:=by rw[ht];apply E_;intro i;rw[Km,dh,dh];by_cases hi:i<m;rw[b9 hi,b9 hi,iY];rw[b_ hi,b_ hi]
 rw[List.take_take,show min m n=m by omega] at this;exact this
def jT {a:Option Addr} {n c g:Nat} (h:(Value.slice a n c).ownBlock=some g):∃ad,a=some ad/\ad.block=g:=by
 cases a with
 |none=>cases h
 |some ad=>exact⟨ad,rfl,by simpa [Value.ownBlock] using h⟩
def ln (z:Value) (m:Nat):(Builtin.zeroCells #[z] m).toList=List.replicate m z:=by simp[Builtin.zeroCells];apply aj3;simp;intro i h1 h2;simp[Nat.mod_one]
def oK (z:Value) (m:Nat):Builtin.zeroCells #[z] m=(List.replicate m z).toArray:=by apply X_.1;rw[ln]
def yl (w:World) (aa:Nat) (e:TypeId) (z:Value) (n m old:Nat) (f:Nat->Value) (Kd:n+m<=maxLen) (hbase:aa<=w.heap.size) (row:Option Nat): bL aa e (.slice (some ⟨w.heap.size,0,none⟩) (n+m) (grownCap w (n+m) old e)) (n+m) (λi=>if i<n then f i else z) (w.drew.alloc (.cells ((fh n f).toArray++(Builtin.zeroCells #[z] m++Builtin.zeroCells #[z] (grownCap w (n+m) old e-(n+m)))) e))/\
   w.grownBy (w.drew.alloc (.cells ((fh n f).toArray++(Builtin.zeroCells #[z] m++Builtin.zeroCells #[z] (grownCap w (n+m) old e-(n+m)))) e)) row:=by
 have hge:=grownCap_ge w (n+m) old e;have hcm:grownCap w (n+m) old e<=maxLen:=grownCap_le_maxLen w (n+m) old e Kd;refine⟨⟨by rw[cD,w_],.inr ⟨w.heap.size,_,_,rfl,hbase,ls w.drew _,hge,hcm,?_,?_⟩⟩,⟨rfl,rfl,rfl,qr,λk hk _=>Below.heap_alloc w.drew _ k hk⟩⟩;simp only[oK,Array.size_append,M_,cD,I_];omega;simp only[oK,Array.toList_append,w_];rw[<-List.append_assoc,kK m z,kJ,ak4 (by simp[cD])]
section
variable {P:Program}(w:World)
def run_append_made (aa:Nat) (t u ty e:TypeId) (k:IntKind) (i:TypeInfo) (z:Value) (bytes:Nat) (ht:P.underlying t=some (.slice e)) (hu:P.underlying u=some (.int k)) (hi:P.info? e=some i) (hz:i.zero=some z) (hsize:i.size=1) (hby:i.bytes=bytes) (Jc:z.cells= #[z]) (h1:z.oneCell'=true) (v:Value) (n:Nat) (f:Nat->Value) (hown:bL aa e v n f w) (m:Nat) (hm:0<m) (Kd:n+m<=maxLen) (hbytes:(n+m)*bytes<=140737488355328) (hbase:aa<=w.heap.size): ∃g cap w',(Builtin.append_ #[t,u] ty #[v,.int .i64 (m:Int)]).run P w=.ok (.slice (some ⟨g,0,none⟩) (n+m) cap) w'/\bL aa e (.slice (some ⟨g,0,none⟩) (n+m) cap) (n+m) (λi=>if i<n then f i else z) w'/\
   w.grownBy w' v.ownBlock/\(v.ownBlock=some g\/g=w.heap.size)/\g<w'.heap.size:=by
 subst hby;have hwrap:IntKind.i64.wrap (m:Int)=m:=by rw[IntKind.wrap_i64];unfold maxLen at Kd;omega
 have hneg:¬(m:Int)<0:=e9;have hmb:m*i.bytes<=140737488355328:=h_ (r_ _ e9) hbytes;have Sl:¬(281474976710656<(m:Int)*(i.bytes:Int)):=by have:((m*i.bytes:Nat):Int)<=140737488355328:=e9;rw[ae0] at this;omega
 have zZ:m≠0:=e9;have hpos:¬(m:Int)<=0:=e9;rcases hown.2 with⟨rfl,rfl⟩|⟨g,cap,cur,rfl,hbg,hg,hnc,hcm,hcs,htake⟩;have Ke:¬(9223372036854775807<(m:Int)):=by unfold maxLen at Kd;omega
 have Kc:¬(281474976710656<Builtin.nextslicecap m 0*i.bytes):=by rw[nextslicecap_zero hm];omega
 have Oa:=yl w aa e z 0 m 0 f Kd hbase none;refine⟨_,_,_,?_,Oa.1,Oa.2,.inr rfl,qr⟩;simp[Builtin.append_,ab5 ht,ab5 hu,sizeOf,typeInfo,zeroValue,hi,hz,hsize,Jc,asInt,asIntOf,hwrap,hneg,Sl,zZ,Ke,Kc,Question.forced,run_firstCells_none,newRow,grownCap,fh];have hlx:=cD n f;rw[w_] at hcs htake;by_cases hroom:n+m<=cap;have hall:∀u∈List.replicate m z,u.oneCell'=true:=λu hu=>by rw[List.eq_of_mem_replicate hu];exact h1
 have hst:=run_storeCells_at P g n e (List.replicate m z) 0 cur w hg yd hall;simp only[sc] at hst;refine⟨g,cap,w.setRow g (cur.toList.take n++List.replicate m z++cur.toList.drop (n+m)).toArray,?_,⟨by rw[cD,w_],.inr ⟨g,cap,_,rfl,hbg,setRow_heap w g cur _ e _ hg,hroom,hcm,?_,?_⟩⟩,⟨rfl,rfl,rfl,qr,λk _ hk=>setRow_other w g k _ (λe=>hk (by simp[Value.ownBlock,e]))⟩,.inl rfl,?_⟩;simp[Builtin.append_,ab5 ht,ab5 hu,sizeOf,typeInfo,zeroValue,hi,hz,hsize,Jc,asInt,asIntOf,hwrap,hneg,Sl,zZ,hroom,ln,Addr.add_lit,hst];simp;omega;rw[w_,htake,kK,kJ];exact ak4 (by simp[cD]);have:=(J'.1 hg).1;simpa using this;have holds:∀j u,(fh n f)[j]?=some u->w.drew.cell? ((⟨g,0,none⟩:Addr).add j)=some u:=World.ownsRow.cells (h:=(show w.drew.ownsRow aa e 1 (.slice (some ⟨g,0,none⟩) n cap) n (fh n f) from sR hown (λ_ _=>rfl))) (g:=g) rfl;have hfo:=run_firstCells_some (P:=P) w.drew 1 n ⟨g,0,none⟩ n cap (fh n f) (by rw[cD,w_]) holds;have Ke:¬(9223372036854775807<((n:Int)+(m:Int))):=by unfold maxLen at Kd;omega
 have Kc:¬(281474976710656<Builtin.nextslicecap (n+m) cap*i.bytes):=by have:=growslice_fits (need:=n+m) (old:=cap) e9 hbytes;omega
 have Oa:=yl w aa e z n m cap f Kd hbase (Value.ownBlock (.slice (some ⟨g,0,none⟩) n cap));refine⟨_,_,_,?_,Oa.1,Oa.2,.inr rfl,qr⟩;simp[Builtin.append_,ab5 ht,ab5 hu,sizeOf,typeInfo,zeroValue,hi,hz,hsize,Jc,asInt,asIntOf,hwrap,hneg,Sl,zZ,hroom,Ke,Kc,Question.forced,hfo,newRow,grownCap]
def km {ops:Array Oper} {o:Oper} {a:Act} {K:Act->World->Prop} {Q:Exit->Act->World->Prop} {E:Prop} (hgd:o.guard=none) (s x:Operand) (t u ty:TypeId) (ho:o.op=.call {callee:= .builtin .append,args:= #[s,x],argTypes:= #[t,u]}) (hty:o.type=ty) (v y:Value) (hs:a.eval s=v) (hx:a.eval x=y) (r:Value) (w':World) (hr:(Builtin.append_ #[t,u] ty #[v,y]).run P w=.ok r w') (h:K (a.put o.dst r) w'): if Region.wanted o (yielded ops a.tmps)=true then Oper.wp P o a w K Q else E:=by
 have hw:Region.wanted o (yielded ops a.tmps)=true:=by simp[Region.wanted,hgd]
 rw[b9 hw];unfold Oper.wp execOp;simp only[ho,hty,resolve,invoke,builtin,Sem.run_bind,ak1,ak2,aj4,t9,ae4,hs,hx,hr];exact h
end
variable {W0 w w':World}{K K':BL}
variable {ty:TypeId}{sz k:Nat}{xs:List Value}{al:Option Addr}{cap:Nat}
def Rw (aa:Nat) (ty:TypeId) (sz k:Nat) (xs:List Value) (al:Option Addr) (cap:Nat) (R:BL):Prop:=(al=none/\k=0/\cap=0/\xs=[]/\R=[])\/∃b cur,al=some ⟨b,0,none⟩/\aa<=b/\k<=cap/\cap<=maxLen/\cur.size=cap*sz/\cur.toList.take (k*sz)=xs/\xs.length=k*sz/\R=[(b,.cells cur ty (0,0))]
variable {R:BL}
def Rw.nil (aa:Nat) (ty:TypeId) (sz:Nat):Rw aa ty sz 0 [] none 0 []:= .inl ⟨rfl,rfl,rfl,rfl,rfl⟩
open Go.Maps
def ra:Keyed prog 3:=int_keyed underlying3
def Ds (f:Int):Prop:= -9223372036854775808<=f/\f<=9223372036854775807
def qZ {f:Int} (h:Ds f):keyOf prog 3 (.int .i64 f)=some (.int .i64 f):=keyOf_int_mk underlying3 (ad8 h)
def EM {f g:Int} (h:g≠f):(Lit.int .i64 g)≠ .int .i64 f:=λe=>h (by injection e)
def oL (w:World):(zeroValue 3).run prog w=.ok (.int .i64 0) w:=ol
def mJ (l:List Int):List Value:=l.map λz=> .int .i64 z
def fP:(prog.info? 3).map (λi=>(i.zero,i.size,i.bytes))=some (some (.int .i64 0),1,8):=ol
variable {p mb:Nat}{A F T:List Int}{o o':Obj}{E X:BL}{a0 a2 a3:Option Addr}{c0 c2 c3:Nat}{R0 R2 R3:BL}
def cP {P:Program} (w:World) {ops:Array Oper} {rest:List Oper} {o:Oper} {a:Act} {Q:Exit->Act->World->Prop} (hgd:o.guard=none) (s x:Operand) (t:TypeId) (ho:o.op=.call {callee:= .builtin .append,args:= #[s,x],argTypes:= #[t,t]}) (v vx v':Value) (w':World) (hs:a.eval s=v) (hx:a.eval x=vx) (hr:(Builtin.append_ #[t,t] o.type #[v,vx]).run P w=.ok v' w') (h:wpList P ops Q rest (a.put o.dst v') w'):wpList P ops Q (o::rest) a w:=wpList_plain hgd λ_ hK=>by unfold Oper.wp execOp;simp only[ho,resolve,invoke,builtin,Sem.run_bind,ak1,ak2,aj4,t9,ae4,hs,hx,hr];exact hK _ _ h
def aU (w:World) (o:Obj):(w.alloc o).heap.size=w.heap.size+1:=qr
variable {P:Program}{ops:Array Oper}{Q:Exit->Act->World->Prop}{md:Region.Mode}{S:World->Prop}
def rl (md:Region.Mode) (ops:Array Oper) (listed:Array Bool) (i:Nat):Bool:=(List.range ops.size).any λk=>k !=i && !(listed.getD k true) && (match ops[k]? with|some o=>o.after.any λe=>Region.binds md e && e.on==i|none=>false)
def Dz (listed:Array Bool):Bool:=listed.toList.all id
def needed_spec {listed:Array Bool} {i:Nat} (h:rl md ops listed i=true): ∃k ok,ops[k]?=some ok/\k≠i/\listed.getD k true=false/\∃e∈ok.after,Region.binds md e=true/\e.on=i:=by
 unfold rl at h;rw[af9] at h;obtain⟨k,-,h⟩:=h;rw[lw,lw] at h;obtain⟨⟨h1,h2⟩,h3⟩:=h;cases ho:ops[k]? with
 |none=>rw[ho] at h3;cases h3
 |some o=>
  rw[ho,Array.any_eq_true] at h3;obtain⟨j,hj,h4⟩:=h3;rw[lw] at h4;exact⟨k,o,ho,by simpa using h1,by simpa using h2,o.after[j],Array.getElem_mem hj,h4.1,by simpa using h4.2⟩
def allB_not {listed:Array Bool} {k:Nat} (h:listed.getD k true=false):Dz listed=false:=by unfold Dz;rw[<-Bool.not_eq_true,v_];intro hall;by_cases hk:k<listed.size;have:=hall listed[k] qr;simp[hk] at h;rw[h] at this;cases this;simp[Id (Nat.le_of_not_lt hk)] at h
def wpAnyL (P:Program) (md:Region.Mode) (ops:Array Oper) (Q:Exit->Act->World->Prop) (S:World->Prop):Nat->Array Bool->Act->World->Prop
 |0,listed,a,w=>Region.ready md ops listed=[]/\Q .normal a w
 |fuel+1,listed,a,w=>(Region.ready md ops listed=[]->Q .normal a w)/\∀i∈Region.ready md ops listed,wpOp P ops Q i (λa' w'=>(S w'\/Dz (listed.setIfInBounds i true)=true)/\wpAnyL P md ops Q S fuel (listed.setIfInBounds i true) a' w') a w
def mS:∀(fuel:Nat) (listed:Array Bool) (a:Act) (w:World),wpAnyL P md ops Q S fuel listed a w->wpAny P md ops Q fuel listed a w
 |0,_,_,_,h=>h
 |fuel+1,_,_,_,h=>⟨h.1,λi hi=>af2 (λa' w' h'=>mS fuel _ a' w' h'.2) (h.2 i hi)⟩
def wpAnyL_first {i:Nat} {oi:Oper} {v:Value} (hi:ops[i]?=some oi) (jL:∀(j:Nat) (o:Oper) cs b,ops[j]?=some o->o.op≠ .select cs b) (hQ:∀c a w,Q (.panic c) (a.put oi.dst v) w->Q (.panic c) a w) {k:Nat} {ok:Oper} (hk:ops[k]?=some ok) (mH:k≠i) (SN:∃e∈ok.after,Region.binds md e=true/\e.on=i): ∀(fuel:Nat) (listed:Array Bool) (a:Act) (w:World),listed.getD k true=false->(∀j oj,ops[j]?=some oj->j≠i->listed.getD j true=false->(∀e∈oj.after,Region.binds md e=true->e.on≠i)->oi.apart ops oj=true)->i∈Region.ready md ops listed->YieldsIf P ops S oi v a->S w->wpAnyL P md ops Q S fuel (listed.setIfInBounds i true) (a.put oi.dst v) w->wpAnyL P md ops Q S (fuel+1) listed a w:=by
 intro fuel;induction fuel with
 |zero=>
  intro listed a w vN _ hr hy hS H;refine⟨λh=>(by rw[h] at hr;cases hr),λj hj=>?_⟩;by_cases hO:j=i;subst hO;exact hy.wpOp hi hS ⟨.inl hS,H⟩;have:=S_ hj hO;rw[H.1] at this;cases this
 |succ fuel ih=>
  intro listed a w vN dm hr hy hS H;refine⟨λh=>(by rw[h] at hr;cases hr),λj hj=>?_⟩;by_cases hO:j=i;subst hO;exact hy.wpOp hi hS ⟨.inl hS,H⟩;have h1:=H.2 j (S_ hj hO);obtain⟨nO,oj,pE,hall⟩:=Vj.1 hj;have lV:∀e∈oj.after,Region.binds md e=true->e.on≠i:=λe he hb heq=>(by have h1:=hall e he hb;have h0:=(Vj.1 hr).1;rw[heq] at h1;rcases ip i listed.size with h'|h';simp[h'] at h0 h1;rw[h0] at h1;cases h1;simp[Id h'] at h1);have qP:j≠k:=λe=>(by subst e;rw[hk] at pE;cases pE;obtain⟨e,he,hb,heq⟩:=SN;exact lV e he hb heq);have Oc:(listed.setIfInBounds j true).getD k true=false:=(by rw[FS true qP];exact vN);have zY:((listed.setIfInBounds i true).setIfInBounds j true).getD k true=false:=(by rw[FS true qP,FS true (ac7 mH)];exact vN);have h2:=wpOp_putIf pE (dm j oj pE hO nO lV) (λcs b=>jL i oi cs b hi) (λcs b=>jL j oj cs b pE) hQ hy h1;have jK:∀k ok,ops[k]?=some ok->k≠i->(listed.setIfInBounds j true).getD k true=false->(∀e∈ok.after,Region.binds md e=true->e.on≠i)->oi.apart ops ok=true:=λk ok hk mH hun hno=>(by refine dm k ok hk mH ?_ hno;by_cases qP:j=k;subst qP;exact nO;rw[FS true qP] at hun;exact hun);refine af2 (λa' w' h3=>?_) h2;have Ei:S w':=(by rcases h3.2.1 with h4|h4;exact h4;rw[allB_not zY] at h4;cases h4);refine⟨.inl Ei,ih (listed.setIfInBounds j true) a' w' Oc jK (S_ hr (ac7 hO)) h3.1 Ei ?_⟩;rw[Sb _ _ hO];exact h3.2.2
def wpAnyL_take {i:Nat} {oi:Oper} {v:Value} {fuel:Nat} {listed:Array Bool} {a:Act} {w:World} (hi:ops[i]?=some oi) (hs:Region.noSelect ops=true) (hf:Region.free md ops listed i=true) (hr:(Region.ready md ops listed).contains i=true) (hn:rl md ops listed i=true) (hQ:∀c a w,Q (.panic c) (a.put oi.dst v) w->Q (.panic c) a w) (hy:YieldsIf P ops S oi v a) (hS:S w) (h:wpAnyL P md ops Q S fuel (listed.setIfInBounds i true) (a.put oi.dst v) w):wpAnyL P md ops Q S (fuel+1) listed a w:=by obtain⟨k,ok,h1,h2,h3,h4⟩:=needed_spec hn;exact wpAnyL_first hi (ab6 hs) hQ h1 h2 h4 fuel listed a w h3 (ad9 hi hf) (by simpa using hr) hy hS h
def wpAnyL_one {i:Nat} {o:Oper} {fuel:Nat} {listed:Array Bool} {a:Act} {w:World} (hr:Region.ready md ops listed=[i]) (ho:ops[i]?=some o) (h:∀K':Act->World->Prop,Shut (∀a w,S w->(S w->wpAnyL P md ops Q S fuel (listed.setIfInBounds i true) a w)->K' a w)->if Region.wanted o (yielded ops a.tmps)=true then Oper.wp P o a w K' Q else K' (a.put o.dst undef) w):
  wpAnyL P md ops Q S (fuel+1) listed a w:=by
 refine⟨λh0=>(by rw[hr] at h0;cases h0),λj hj=>?_⟩;rw[hr,pu] at hj;subst hj;exact F_ ho (λK' hK=>h K' (λa w hS hW=>hK a w ⟨.inl hS,hW hS⟩))
def ke {i j:Nat} {o p:Oper} {fuel:Nat} {listed:Array Bool} {a:Act} {w:World} (hr:Region.ready md ops listed=[i,j]) (ho:ops[i]?=some o) (hp:ops[j]?=some p) (h:∀K':Act->World->Prop,Shut (∀a w,S w->(S w->wpAnyL P md ops Q S fuel (listed.setIfInBounds i true) a w)->K' a w)->if Region.wanted o (yielded ops a.tmps)=true then Oper.wp P o a w K' Q else K' (a.put o.dst undef) w)
  (h':∀K':Act->World->Prop,Shut (∀a w,S w->(S w->wpAnyL P md ops Q S fuel (listed.setIfInBounds j true) a w)->K' a w)->if Region.wanted p (yielded ops a.tmps)=true then Oper.wp P p a w K' Q else K' (a.put p.dst undef) w):
  wpAnyL P md ops Q S (fuel+1) listed a w:=by
 refine⟨λh0=>(by rw[hr] at h0;cases h0),λk hk=>?_⟩;rw[hr] at hk;simp only[ii,ul,N_] at hk;rcases hk with rfl|rfl;exact F_ ho (λK' hK=>h K' (λa w hS hW=>hK a w ⟨.inl hS,hW hS⟩));exact F_ hp (λK' hK=>h' K' (λa w hS hW=>hK a w ⟨.inl hS,hW hS⟩))
def wpAnyL_last {i:Nat} {o:Oper} {fuel:Nat} {listed:Array Bool} {a:Act} {w:World} (hr:Region.ready md ops listed=[i]) (ho:ops[i]?=some o) (hd:Dz (listed.setIfInBounds i true)=true) (he:Region.ready md ops (listed.setIfInBounds i true)=[]) (h:∀K':Act->World->Prop,Shut (∀a w,Q .normal a w->K' a w)->if Region.wanted o (yielded ops a.tmps)=true then Oper.wp P o a w K' Q else K' (a.put o.dst undef) w):
  wpAnyL P md ops Q S (fuel+1) listed a w:=by
 refine⟨λh0=>(by rw[hr] at h0;cases h0),λj hj=>?_⟩;rw[hr,pu] at hj;subst hj;refine F_ ho (λK' hK=>h K' (λa w hW=>hK a w ⟨.inr hd,?_⟩));cases fuel with
 |zero=>exact⟨he,hW⟩
 |succ n=>exact⟨λ_=>hW,by rw[he];simp⟩
def aP {id:Nat} {a:Act} {w:World} (hm:P.follows .mixedOrders=true) (hS:S w.drew) (h:S w.drew->wpAnyL P .any ops Q S ops.size (Array.replicate ops.size false) a w.drew):(Code.region id ops true).wp P Q a w:=ai9 hm (mS _ _ _ _ (h hS))
def aR {P:Program} {ops:Array Oper} {Q:Exit->Act->World->Prop} {md:Region.Mode} {S:World->Prop} (i:Nat) {oi:Oper} {v:Value} {fuel:Nat} {listed:Array Bool} {a:Act} {w:World} (h:wpAnyL P md ops Q S fuel (listed.setIfInBounds i true) (a.put oi.dst v) w) (hi:ops[i]?=some oi:=by rfl) (hs:Region.noSelect ops=true:=by kernel_rfl) (hf:Region.free md ops listed i=true:=by kernel_rfl) (hr:(Region.ready md ops listed).contains i=true:=by kernel_rfl) (hn:rl md ops listed i=true:=by kernel_rfl) (hQ:∀c a w,Q (.panic c) (a.put oi.dst v) w->Q (.panic c) a w:=by exact λ_ _ _ h=>h) (hy:YieldsIf P ops S oi v a:=by exact Or.inl ⟨ol,by (intro w Gl;(try dsimp only at Gl);go_simp;try with_reducible rfl)⟩) (hS:S w:=by assumption):wpAnyL P md ops Q S (fuel+1) listed a w:=wpAnyL_take hi hs hf hr hn hQ hy hS h
def jS {P:Program} {ops:Array Oper} {Q:Exit->Act->World->Prop} {md:Region.Mode} {S:World->Prop} (i:Nat) {o:Oper} {fuel:Nat} {listed:Array Bool} {a:Act} {w:World} (h:∀K':Act->World->Prop,Shut (∀a w,S w->(S w->wpAnyL P md ops Q S fuel (listed.setIfInBounds i true) a w)->K' a w)->if Region.wanted o (yielded ops a.tmps)=true then Oper.wp P o a w K' Q else K' (a.put o.dst undef) w) (hr:Region.ready md ops listed=[i]:=by decide+kernel) (ho:ops[i]?=some o:=by rfl):wpAnyL P md ops Q S (fuel+1) listed a w:=wpAnyL_one hr ho h
def sD {P:Program} {ops:Array Oper} {Q:Exit->Act->World->Prop} {md:Region.Mode} {S:World->Prop} (i:Nat) {o:Oper} {fuel:Nat} {listed:Array Bool} {a:Act} {w:World} (h:∀K':Act->World->Prop,Shut (∀a w,Q .normal a w->K' a w)->if Region.wanted o (yielded ops a.tmps)=true then Oper.wp P o a w K' Q else K' (a.put o.dst undef) w) (hr:Region.ready md ops listed=[i]:=by kernel_rfl) (ho:ops[i]?=some o:=by rfl) (hd:Dz (listed.setIfInBounds i true)=true:=by kernel_rfl) (he:Region.ready md ops (listed.setIfInBounds i true)=[]:=by kernel_rfl):wpAnyL P md ops Q S (fuel+1) listed a w:=wpAnyL_last hr ho hd he h
def vi:(prog.info? 33).map (λi=>(i.zero,i.size,i.bytes))=some (some (.int .u64 0),1,8):=ol
open Classical in
def permC {A B:BL} (h:∀x,A.count x=B.count x):A.Perm B:=List.perm_iff_count.2 h
def run_append_nil {P:Program} (w:World) (t ty e:TypeId) (i:TypeInfo) (al ar:Option Addr) (n cap cr:Nat) (ht:P.underlying t=some (.slice e)) (hi:P.info? e=some i) (hle:n<=cap): (Builtin.append_ #[t,t] ty #[.slice al n cap,.slice ar 0 cr]).run P w=.ok (.slice al n cap) w:=by cases al<;>cases ar<;>simp[Builtin.append_,ab5 ht,sizeOf,typeInfo,hi,Builtin.lenOf,hle,Builtin.firstCells,loadCells,loadCellsFrom,storeCells]
def Rw.le {aa:Nat} (r:Rw aa ty sz k xs al cap R):k<=cap/\cap<=maxLen:=by rcases r with⟨rfl,rfl,rfl,rfl,rfl⟩|⟨b,cur,rfl,h2,h3,h4,h5,h6,h7,rfl⟩;exact⟨bi _,by unfold maxLen;omega⟩;exact⟨h3,h4⟩
def aCq:(∀(α:Type) [BEq α] (a:α) (l m:List α),(l++m).count a=l.count a+m.count a)/\(∀(α:Type) [BEq α] (a b:α) (l:List α),(b::l).count a=l.count a+if b==a then 1 else 0)/\(∀(α:Type) [BEq α] (a:α),([]:List α).count a=0)/\(∀(α:Type) (a b c:List α),a++b++c=a++(b++c))/\(∀(α:Type) (a:α) (b c:List α),(a::b)++c=a::(b++c))/\(∀(α:Type) (b:List α),[]++b=b)/\(∀n:Nat,0+n=n)/\∀n:Nat,n+0=n:=⟨λ_ _ _ _ _=>aj0 ..,λ_ _ _ _ _=>ak5 ..,λ_ _ _=>List.count_nil ..,λ_ _ _ _=>t_ ..,λ_ _ _ _=>rfl,λ_ _=>rfl,C',λ_=>rfl⟩
open Classical in
def aF {A B:BL} (h:∀x,A.count x=B.count x:=by (intro x;(simp only[aCq]);(try ac_rfl))):A.Perm B:=permC h
def Has (R:BL) (w:World):Prop:=∀x∈R,w.heap[x.1]?=some x.2
def At (R:BL) (w:World):Prop:=Has R w/\(R.map (·.1)).Nodup
def Keys (R:BL) (q:Nat):Prop:=∃x∈R,x.1=q
structure ag (R0 R:BL) (w0 w:World):Prop where
 kD:df (Keys R0) w0 w
 at_:At R w
 low:∀x∈R,Keys R0 x.1\/w0.heap.size<=x.1
variable {w0:World}{R' A A':BL}
def Has.sub (h:Has R w) (hs:∀x∈R',x∈R):Has R' w:=λx hx=>h x (hs x hx)
def Has.left (h:Has (A++K) w):Has A w:=λx hx=>h x (io _ hx)
def Has.right (h:Has (A++K) w):Has K w:=λx hx=>h x (i7 _ hx)
def Has.one {X:Nat} {o:Obj} (h:Has R w) (hx:(X,o)∈R):w.heap[X]?=some o:=h (X,o) hx
def Has.head {X:Nat} {o:Obj} (h:Has ((X,o)::R) w):w.heap[X]?=some o:=h (X,o) (fd ..)
def Has.tail {x:Nat×Obj} (h:Has (x::R) w):Has R w:=λy hy=>h y (dl _ hy)
def Has.grow (h:Has R w) (c:Below w.heap.size w w'):Has R w':=λx hx=>cQ c (bi _) (h x hx)
def Has.lt (h:Has R w) {k:Nat} (hk:Keys R k):k<w.heap.size:=by obtain⟨x,hx,rfl⟩:=hk;exact bf (h x hx)
def Has.app (h:Has A w) (k:Has K w):Has (A++K) w:=λx hx=>(z_.1 hx).elim (h x) (k x)
def Has.cons {X:Nat} {o:Obj} (h:Has R w) (ho:w.heap[X]?=some o):Has ((X,o)::R) w:=λx hx=>by
 rcases ii.1 hx with rfl|hx;exact ho;exact h x hx
def Has.nil:Has [] w:=λx hx=>by cases hx
def Keys.app {k:Nat}:Keys (A++K) k↔Keys A k\/Keys K k:=by constructor;rintro⟨x,hx,e⟩;exact (z_.1 hx).imp (λa=>⟨x,a,e⟩) (λa=>⟨x,a,e⟩);rintro (⟨x,hx,e⟩|⟨x,hx,e⟩);exact⟨x,io _ hx,e⟩;exact⟨x,i7 _ hx,e⟩
def Keys.cons {X k:Nat} {o:Obj}:Keys ((X,o)::R) k↔k=X\/Keys R k:=by constructor;rintro⟨x,hx,e⟩;rcases ii.1 hx with rfl|hx;exact .inl e.symm;exact .inr ⟨x,hx,e⟩;rintro (rfl|⟨x,hx,e⟩);exact⟨_,fd ..,rfl⟩;exact⟨x,dl _ hx,e⟩
def Keys.mem {k:Nat}:Keys R k↔k∈R.map (·.1):=by rw[mt];exact Iff.rfl
def Keys.nil {k:Nat}:¬Keys [] k:=fun⟨x,hx,_⟩=>by cases hx
def At.perm (h:At R w) (p:R.Perm R'):At R' w:=⟨λx hx=>h.1 x (p.mem_iff.2 hx),(p.map (·.1)).nodup_iff.1 h.2⟩
def At.right (h:At (A++K) w):At K w:=by refine⟨h.1.right,?_⟩;have:=h.2;rw[DV] at this;exact (Fd.1 this).2.1
def At.left (h:At (A++K) w):At A w:=by refine⟨h.1.left,?_⟩;have:=h.2;rw[DV] at this;exact (Fd.1 this).1
def At.tail {x:Nat×Obj} (h:At (x::K) w):At K w:=At.right (A:= [x]) h
def At.apart (h:At (A++K) w) {k:Nat} (ha:Keys A k) (hk:Keys K k):False:=by have:=h.2;rw[DV,Fd] at this;exact this.2.2 k (Keys.mem.1 ha) k (Keys.mem.1 hk) rfl
def At.grow (h:At R w) (c:Below w.heap.size w w'):At R w':=⟨h.1.grow c,h.2⟩
def At.join (h:At A w) (k:At K w) (hd:∀q,Keys A q->Keys K q->False):At (A++K) w:=by refine⟨h.1.app k.1,?_⟩;rw[DV,Fd];exact⟨h.2,k.2,λa ha b hb e=>hd a (Keys.mem.2 ha) (Keys.mem.2 (e▸hb))⟩
def At.one {X:Nat} {o:Obj} (h:w.heap[X]?=some o):At [(X,o)] w:=⟨Has.nil.cons h,qr⟩
def At.nil:At [] w:=⟨Has.nil,qr⟩
def df.has {S:Nat->Prop} (c:df S w w') (h:Has R w) (hn:∀k,Keys R k->¬S k):Has R w':=λx hx=>c.keep (h x hx) (hn _ ⟨x,hx,rfl⟩)
def ag.refl (h:At R w):ag R R w w:=⟨df.refl _ _,h,λx hx=> .inl ⟨x,hx,rfl⟩⟩
def ag.trans {R2:BL} {w2:World} (h:ag R0 R w0 w) (k:ag R R2 w w2):ag R0 R2 w0 w2:=by refine⟨h.kD.trans k.kD λq hq ⟨x,hx,e⟩=>?_,k.at_,λx hx=>?_⟩;rcases h.low x hx with a|a;exact e▸a;omega;rcases k.low x hx with⟨y,hy,e⟩|a;rw[<-e];exact h.low y hy;exact .inr (h_ h.kD.size a)
def ag.frame (h:At (A++K) w) (d:ag A A' w w'):ag (A++K) (A'++K) w w':=by refine⟨d.kD.mono λk _ a=>Keys.app.2 (.inl a),At.join d.at_ ⟨d.kD.has h.1.right λk hk ha=>h.apart ha hk,h.right.2⟩ λq ha hk=>?_,λx hx=>?_⟩;obtain⟨x,hx,rfl⟩:=ha;rcases d.low x hx with a|a;exact h.apart a hk;have:=h.1.right.lt hk;omega;rcases z_.1 hx with a|a;exact (d.low x a).imp (λb=>Keys.app.2 (.inl b)) id;exact .inl ⟨x,i7 _ a,rfl⟩
def ag.step (h:ag R0 (A++K) w0 w) (d:ag A A' w w'):ag R0 (A'++K) w0 w':=h.trans (ag.frame h.at_ d)
def ag.perm (h:ag R0 R w0 w) (p:R.Perm R'):ag R0 R' w0 w:=⟨h.kD,h.at_.perm p,λx hx=>h.low x (p.mem_iff.2 hx)⟩
def ag.drop (h:ag R0 (A++K) w0 w):ag R0 K w0 w:=⟨h.kD,h.at_.right,λx hx=>h.low x (i7 _ hx)⟩
def ag.bN (h:ag R0 (A++K) w0 w):ag R0 A w0 w:=⟨h.kD,h.at_.left,λx hx=>h.low x (io _ hx)⟩
def ag.tail {x:Nat×Obj} (h:ag R0 (x::K) w0 w):ag R0 K w0 w:=ag.drop (A:= [x]) h
def ag.has (h:ag R0 R w0 w):Has R w:=h.at_.1
def ag.grow (h:ag R0 R w0 w) (c:Below w.heap.size w w'):ag R0 R w0 w':=⟨h.kD.yo c,h.at_.grow c,h.low⟩
def ag.drew (h:ag R0 R w0 w):ag R0 R w0 w.drew:=h.grow (ay w)
def ag.new (c:Below w.heap.size w w') (h:At R w') (hl:∀x∈R,w.heap.size<=x.1):ag [] R w w':=⟨df.of c,h,λx hx=> .inr (hl x hx)⟩
def ag.bh (h:ag R0 K w0 w) (d:ag [] R w w'):ag R0 (R++K) w0 w':=ag.step (A:= []) h d
def ag.obj (h:ag R0 K w0 w) (o:Obj):ag R0 ((w.heap.size,o)::K) w0 (w.alloc o):=h.bh (R:= [(w.heap.size,o)]) (ag.new (au w o) (At.one (ls w o)) λx hx=>by simp only[ii,ul,N_] at hx;subst hx;exact bi _)
def ag.box (h:ag R0 K w0 w) (cs:Array Value) (ty:TypeId):ag R0 ((w.heap.size,.cells cs ty (0,0))::K) w0 (w.alloc (.cells cs ty)):=h.obj _
def ag.turn {X:Nat} {o o':Obj} (h:ag R0 ((X,o)::K) w0 w) (c:df (λq=>q=X) w w') (ho:w'.heap[X]?=some o'):ag R0 ((X,o')::K) w0 w':=ag.step (A:= [(X,o)]) (A':= [(X,o')]) h ⟨c.mono λk _ e=>Keys.cons.2 (.inl e),At.one ho,λx hx=>by simp only[ii,ul,N_] at hx;subst hx;exact .inl (Keys.cons.2 (.inl rfl))⟩
def ag.set {X:Nat} {cs:Array Value} {ty:TypeId} (h:ag R0 ((X,.cells cs ty (0,0))::K) w0 w) (j:Nat) (x:Value):ag R0 ((X,.cells (cs.setIfInBounds j x) ty (0,0))::K) w0 (w.setCell ⟨X,j,none⟩ x):=h.turn ((df.refl (λq=>q=X) w).set (p:=⟨X,j,none⟩) (.inl rfl) _) (rp w X j _ _ _ h.has.head)
def ag.below (h:ag [] R w w'):Below w.heap.size w w':=h.kD.below (λk hk=>(Keys.nil hk).elim) (bi _)
def ag.quiet (h:ag R0 R w0 w) (h0:Has R0 w0) (h1:Has R0 w):Below w0.heap.size w0 w:=⟨h.kD.1,h.kD.2.1,h.kD.2.2.1,h.kD.size,λk hk=>by rcases su (Keys R0 k) with⟨x,hx,rfl⟩|hn;rw[h1 x hx,h0 x hx];exact h.kD.2.2.2.2 k hk hn⟩
abbrev Rz:=Rw 0
def Rw.own (r:Rz ty sz k xs al cap R) (h:Has R w):w.ownsRow 0 ty sz (.slice al k cap) k xs:=by rcases r with⟨rfl,rfl,rfl,rfl,rfl⟩|⟨b,cur,rfl,h2,h3,h4,h5,h6,h7,rfl⟩;exact ak0 _ _ _ _;exact⟨h7,.inr ⟨b,cap,cur,rfl,h2,h.head,h3,h4,h5,h6⟩⟩
def Rw.FC (r:Rz ty sz k xs al cap R) (h:Has R w) {m:Nat} {news:List Value} {g5 tW:Nat} {w5:World} (hown:w5.ownsRow 0 ty sz (.slice (some ⟨g5,0,Option.none⟩) (k+m) tW) (k+m) (xs++news)) (bZ:w.grownBy w5 (Value.slice al k cap).ownBlock) (jI:(Value.slice al k cap).ownBlock=some g5\/g5=w.heap.size): ∃R',Rz ty sz (k+m) (xs++news) (some ⟨g5,0,Option.none⟩) tW R'/\ag R R' w w5:=by have hlen:=hown.1;rcases hown.2 with⟨e,_⟩|⟨gb,c,JY,e,b1,b2,b3,b4,b5,b6⟩;cases e;simp at e;obtain⟨rfl,rfl⟩:=e;refine⟨[(g5,.cells JY ty (0,0))],.inr ⟨g5,JY,rfl,b1,b3,b4,b5,b6,hlen,rfl⟩,⟨⟨bZ.os,bZ.tape,bZ.output,bZ.size,λq hq hn=>bZ.block q hq λe=>?_⟩,At.one b2,λx hx=>?_⟩⟩;rcases r with⟨rfl,rfl,rfl,rfl,rfl⟩|⟨b,cur,rfl,h2,h3,h4,h5,h6,h7,rfl⟩;simp[Value.ownBlock] at e;simp[Value.ownBlock] at e;exact hn (Keys.cons.2 (.inl e));simp only[ii,ul,N_] at hx;subst hx;rcases jI with e|e;rcases r with⟨rfl,rfl,rfl,rfl,rfl⟩|⟨b,cur,rfl,h2,h3,h4,h5,h6,h7,rfl⟩;simp[Value.ownBlock] at e;simp[Value.ownBlock] at e;exact .inl (Keys.cons.2 (.inl e.symm));exact .inr (Nat.le_of_eq e.symm)
def Rw.RY (r:Rz ty sz k xs al cap R) (h:At R w) {i:TypeInfo} {z:Value} {LF:Nat} (hi:prog.info? ty=some i) (hz:i.zero=some z) (hs:i.size=sz) (hby:i.bytes=LF) (hzs:z.cells.size=sz) (hsz:0<sz) {CJ:TypeId} (hu:prog.underlying CJ=some (.slice ty)) {news:List Value} {m:Nat} (hl:news.length=m*sz) {a:Option Addr} (c:Nat) (KO:0<m->∃b off,a=some ⟨b,off,none⟩/\∀j u,news[j]?=some u->w.cell? ⟨b,off+j,none⟩=some u) (h1:∀u∈news,u.oneCell'=true) (hk:k+m<=maxLen) (hb:(k+m)*LF<=140737488355328): ∃Dy iV w' R',(Builtin.append_ #[CJ,CJ] CJ #[.slice al k cap,.slice a m c]).run prog w=.ok (.slice Dy (k+m) iV) w'/\Rz ty sz (k+m) (xs++news) Dy iV R'/\ag R R' w w':=by
 rcases x' m with rfl|hm;obtain rfl:news=[]:=by rw[V'] at hl;exact M' hl
 refine⟨al,cap,w,R,run_append_nil w CJ CJ ty i al a k cap c hu hi r.le.1,?_,ag.refl h⟩;rw[sh];exact r;obtain⟨b,off,rfl,hc⟩:=KO hm;obtain⟨g5,tW,w5,hrun,hown,bZ,jI,-⟩:=run_append_lies (P:=prog) w CJ CJ 0 ty i z sz LF hu hi hz hs hby hzs hsz _ _ _ (r.own h.1) ⟨b,off,none⟩ m c news hl (λj u hu=>by rw[vz];exact hc j u hu) h1 hm hk hb (lc _) _ rfl;obtain⟨R',hr,hd⟩:=r.FC h.1 hown bZ jI;exact⟨_,_,_,R',hrun,hr,hd⟩
def Rw.LD (r:Rz ty sz k xs al cap R) (h:ag R0 (R++K) w0 w) {i:TypeInfo} {z:Value} {LF:Nat} (hi:prog.info? ty=some i) (hz:i.zero=some z) (hs:i.size=sz) (hby:i.bytes=LF) (hzs:z.cells.size=sz) (hsz:0<sz) {CJ:TypeId} (hu:prog.underlying CJ=some (.slice ty)) (vs:Array Value) (hl:vs.size=sz) (h1:∀u∈vs.toList,u.oneCell'=true) (hk:k+1<=maxLen) (hb:(k+1)*LF<=140737488355328): ∃Dy iV w' R',(Builtin.append_ #[CJ,CJ] CJ #[.slice al k cap,.slice (some ⟨w.heap.size,0,none⟩) 1 1]).run prog (w.alloc (.cells vs ty))=.ok (.slice Dy (k+1) iV) w'/\Rz ty sz (k+1) (xs++vs.toList) Dy iV R'/\ag R0 (R'++K) w0 w':=by have hB:=h.box vs ty;have hq:=hB.has.head;obtain⟨Dy,iV,w',R',hrun,hr,hN⟩:=r.RY (w:=w.alloc (.cells vs ty)) (hB.at_.tail.left) hi hz hs hby hzs hsz hu (news:=vs.toList) (m:=1) (by simp[hl]) (a:=some ⟨w.heap.size,0,none⟩) 1 (λ_=>⟨_,_,rfl,λj u hu=>by rw[C'];exact an hq j u (by simpa using hu)⟩) h1 hk hb;exact⟨Dy,iV,w',R',hrun,hr,ag.step hB.tail hN⟩
def Rw.cell (r:Rz ty sz k xs al cap R) (h:Has R w) {j:Nat} {v:Value} (hj:xs[j]?=some v):∃b,al=some ⟨b,0,none⟩/\w.cell? ⟨b,j,none⟩=some v:=by
 rcases r with⟨rfl,rfl,rfl,rfl,rfl⟩|⟨b,cur,rfl,h2,h3,h4,h5,h6,h7,rfl⟩;simp at hj;refine⟨b,rfl,an h.head j v ?_⟩;have hlt:j<k*sz:=by rw[<-h7];exact (LT.1 hj).1
 rw[<-h6,EQ hlt] at hj;simpa using hj
def si (v:Value):Option (DataW Value×List MemPlace):=some (.held v,[])
def VM (n:Nat) (m:Int->Option Value) (o:Obj):Prop:=∃es clock,o=.map es clock/\∀(w:World) (b:Nat),w.heap[b]?=some o->∃D:DataW Value,w.ownsMap prog 3 si b n D/\Tidy D/\∀f,Ds f->Maps.has D (.int .i64 f)=(m f).isSome/\∀z,D.atKey (.int .i64 f) (.held z)=.held ((m f).getD z)
def yQ {w w':World} {b n:Nat} {D:DataW Value} {o:Obj} (h:w.ownsMap prog 3 si b n D) (hb:w.heap[b]?=some o) {b':Nat} (AZ:w'.heap[b']?=some o):w'.ownsMap prog 3 si b' n D:=by obtain⟨es,clock,h1,F,hs,hD⟩:=h;rw[hb] at h1;cases h1;exact⟨es,clock,AZ,F,hs,hD⟩
def VM.made:VM 0 (λ_=>none) (.map #[] 0):=by refine⟨#[],0,rfl,λw b hb=>?_⟩;have hm:=World.ownsMap_made (H:=Value) (P:=prog) (k:=3) (R:=si) (w:=w);exact⟨.map [],yQ hm (ls w (.map #[] 0)) hb,tidy_empty,λf _=>⟨rfl,λz=>rfl⟩⟩
def xW {v:Value} {x:Value} {ps:List MemPlace} (h:si v=some (.held x,ps)):v=x:=by unfold si at h;simp at h;exact h.1
variable {n:Nat}{m:Int->Option Value}{b:Nat}{f:Int}{t e:TypeId}{z:Value}
def VM.look_ok (h:VM n m o) (ht:prog.underlying t=some (.map 3 e)) (hz:(zeroValue e).run prog w=.ok z w) (hb:w.heap[b]?=some o) (hf:Ds f): (Instr.lookup t (.map (some b)) (.int .i64 f) true).run prog w=.ok (.tuple #[(m f).getD z,.bool (m f).isSome]) w:=by obtain⟨es,clock,-,hD⟩:=h;obtain⟨D,ho,ht2,jI⟩:=hD w b hb;obtain⟨h1,h2⟩:=jI f hf;obtain⟨v,ps,hrun,hv⟩:=ho.look_ok ra ht hz (zd:= .held z) (zp:= []) rfl (qZ hf);rw[h2] at hv;rw[hrun,h1,xW hv]
def VM.look (h:VM n m o) (ht:prog.underlying t=some (.map 3 e)) (hz:(zeroValue e).run prog w=.ok z w) (hb:w.heap[b]?=some o) (hf:Ds f): (Instr.lookup t (.map (some b)) (.int .i64 f) false).run prog w=.ok ((m f).getD z) w:=by obtain⟨es,clock,-,hD⟩:=h;obtain⟨D,ho,ht2,jI⟩:=hD w b hb;obtain⟨h1,h2⟩:=jI f hf;obtain⟨v,ps,hrun,hv⟩:=ho.lookup ra ht hz (zd:= .held z) (zp:= []) rfl (qZ hf);rw[h2] at hv;rw[hrun,xW hv]
def VM.put (h:VM n m o) (hn:n<maxLen) (ht:prog.underlying t=some (.map 3 e)) (hb:w.heap[b]?=some o) (hf:Ds f) (x:Value): ∃w' o',(Instr.mapUpdate t (.map (some b)) (.int .i64 f) x).run prog w=.ok () w'/\w'.heap[b]?=some o'/\VM (n+1) (λg=>if g=f then some x else m g) o'/\df (· =b) w w':=by obtain⟨es,clock,-,hD⟩:=h;obtain⟨D,ho,ht2,jI⟩:=hD w b hb;obtain⟨w',hrun,VN,hg⟩:=ho.update ra ht hn (qZ hf) (show si x=some (.held x,[]) from rfl);have hk:WideAt.IsKeyLit (.int .i64 f):=ra.key (qZ hf);obtain⟨UU,DM,AZ,F',Qu,hD'⟩:=id VN;refine⟨w',.map UU DM,hrun,AZ,⟨UU,DM,rfl,λw2 b2 dw=>⟨_,yQ VN AZ dw,ht2.put hk _,λg wY=>?_⟩⟩,⟨hg.os,hg.tape,hg.output,hg.size,λk hk hne=>hg.block k hk (λe=>hne (by simpa using e))⟩⟩;show _=(if g=f then some x else m g).isSome/\∀z,_=DataW.held ((if g=f then some x else m g).getD z);by_cases e:g=f;subst e;exact⟨by rw[has_put_same ht2.isMap hk];simp,λz=>by rw[atKey_put_same ht2.isMap hk];simp⟩;refine⟨?_,λz=>?_⟩;rw[has_put_other (EM e),b_ e];exact (jI g wY).1;rw[atKey_put_other (EM e),b_ e];exact (jI g wY).2 z
def VM.uc {R0 K:BL} {w0:World} (h:VM n m o) (hn:n<maxLen) (ht:prog.underlying t=some (.map 3 e)) (d:ag R0 ((b,o)::K) w0 w) (hf:Ds f) (x:Value): ∃w' o',(Instr.mapUpdate t (.map (some b)) (.int .i64 f) x).run prog w=.ok () w'/\VM (n+1) (λg=>if g=f then some x else m g) o'/\ag R0 ((b,o')::K) w0 w':=by obtain⟨w',o',h1,h2,h3,h4⟩:=h.put hn ht d.has.head hf x;exact⟨w',o',h1,h3,d.turn h4 h2⟩
def ub (g:Nat->Bool):Nat->Nat
 |0=>0
 |k+1=>ub g k+if g k then 2^k else 0
def aG (g:Nat->Bool):Nat->Nat
 |0=>0
 |k+1=>aG g k+if g k then 1 else 0
def wu (g:Nat->Bool):∀k,ub g k<2^k
 |0=>by simp[ub]
 |k+1=>by have:=wu g k;rw[show ub g (k+1)=ub g k+if g k then 2^k else 0 from rfl,ST];split<;>omega
def kU (g:Nat->Bool) (i:Nat):∀k,(ub g k).testBit i=(decide (i<k) && g i)
 |0=>by simp[ub]
 |k+1=>by have hk:=wu g k;have e:ub g (k+1)=2^k*(if g k then 1 else 0)+ub g k:=(by rw[show ub g (k+1)=ub g k+if g k then 2^k else 0 from rfl];split<;>simp<;>omega);rw[e,aa8 _ hk];by_cases h:i<k;rw[b9 h,kU g i k];simp[h,Nat.lt_succ_of_lt h];rw[b_ h];by_cases h2:i=k;subst h2;simp;cases g i<;>simp;have h3:¬i<k+1:=e9;have h4:i-k≠0:=e9;simp only[h3,decide_false,ac8];split;obtain⟨d,hd⟩:=Nat.exists_eq_succ_of_ne_zero h4;rw[hd,Nat.testBit_succ];simp;simp
def uQ {g f:Nat->Bool} {k:Nat} (h:∀i,i<k->g i=f i):ub g k=ub f k:=by
 induction k with
 |zero=>rfl
 |succ k ih=>
  rw[show ub g (k+1)=ub g k+if g k then 2^k else 0 from rfl,show ub f (k+1)=ub f k+if f k then 2^k else 0 from rfl,ih λi hi=>h i e9,h k e9]
def nof_of {x k:Nat} (h:x<2^k):ub x.testBit k=x:=by apply vC;intro i;rw[kU];by_cases hi:i<k;simp[hi];have:x.testBit i=false:=H' (x_ h (pl e9 e9));simp[hi,this]
def nof_eq {x k:Nat} {g:Nat->Bool} (h:x<2^k) (hh:∀i,i<k->x.testBit i=g i):x=ub g k:=by rw[<-nof_of h];exact uQ hh
def cB {g f:Nat->Bool} {k:Nat} (h:∀i,i<k->g i=f i):aG g k=aG f k:=by
 induction k with
 |zero=>rfl
 |succ k ih=>
  rw[show aG g (k+1)=aG g k+if g k then 1 else 0 from rfl,show aG f (k+1)=aG f k+if f k then 1 else 0 from rfl,ih λi hi=>h i e9,h k e9]
def fN (g:Nat->Bool) (a:Nat):∀b,aG g (a+b)=aG g a+aG (λi=>g (a+i)) b
 |0=>by simp[aG]
 |b+1=>by show (aG g (a+b)+if g (a+b) then 1 else 0)=aG g a+(aG (λi=>g (a+i)) b+if g (a+b) then 1 else 0);rw[fN g a b];omega
def bE (g:Nat->Bool):∀k,aG g k<=k
 |0=>bi _
 |k+1=>by have:=bE g k;rw[show aG g (k+1)=aG g k+if g k then 1 else 0 from rfl];split<;>omega
def cT (g:Nat->Bool) {a b:Nat} (h:a<=b):aG g a<=aG g b:=by obtain⟨c,rfl⟩:=J_ h;rw[fN];omega
def val:List Nat->Nat
 |[]=>0
 |a::l=>a+256*val l
def kC (a b m n:Nat) (ha:a<256) (hm:m<256):(a+256*b) &&& (m+256*n)=(a &&& m)+256*(b &&& n):=by apply vC;intro i;have e1:a+256*b=2^8*b+a:=e9;have e2:m+256*n=2^8*n+m:=e9;have e3:(a &&& m)+256*(b &&& n)=2^8*(b &&& n)+(a &&& m):=e9;have h3:a &&& m<2^8:=ac4 _ hm;rw[O_,e1,e2,e3,aa8 _ (show a<2^8 from ha),aa8 _ (show m<2^8 from hm),aa8 _ h3];split;rw[O_];rw[O_]
def me (a:Nat):Nat:=(a/2 &&& 85)+(a &&& 85)
def BA (a:Nat):Nat:=(a/4 &&& 51)+(a &&& 51)
def oc_byte:∀a,a<256->me a<256/\BA (me a)/16<=4/\BA (me a)%16<=4/\BA (me a)/16+BA (me a)%16=aG a.testBit 8:=by decide+kernel
def mask85:∀y,y<256->∀t,t<2->(y/2+128*t) &&& 85=y/2 &&& 85:=jp
def mask51:∀y,y<256->∀t,t<4->(y/4+64*t) &&& 51=y/4 &&& 51:=jp
def rep (m:Nat):Nat->Nat
 |0=>0
 |n+1=>m+256*rep m n
def Bz:∀l:List Nat,(∀a∈l,a<256)->(val l/2 &&& rep 85 l.length)+(val l &&& rep 85 l.length)=val (l.map me)
 |[],_=>by simp[val,rep]
 |a::l,h=>by have ha:=h a (fd ..);have ih:=Bz l λb hb=>h b (dl _ hb);have e:(a+256*val l)/2=(a/2+128*(val l%2))+256*(val l/2):=e9;simp only[val,rep,r',t9];rw[e,kC _ _ _ _ e9 e9,kC _ _ _ _ ha e9,mask85 a ha _ (AC _ e9),<-ih];unfold me;omega
def BB:∀l:List Nat,(∀a∈l,a<256)->(val l/4 &&& rep 51 l.length)+(val l &&& rep 51 l.length)=val (l.map BA)
 |[],_=>by simp[val,rep]
 |a::l,h=>by have ha:=h a (fd ..);have ih:=BB l λb hb=>h b (dl _ hb);have e:(a+256*val l)/4=(a/4+64*(val l%4))+256*(val l/4):=e9;simp only[val,rep,r',t9];rw[e,kC _ _ _ _ e9 e9,kC _ _ _ _ ha e9,mask51 a ha _ (AC _ e9),<-ih];unfold BA;omega
def and_val (m:Nat) (hm:m<256):∀l:List Nat,(∀a∈l,a<256)->val l &&& rep m l.length=val (l.map λa=>a &&& m)
 |[],_=>by simp[val,rep]
 |a::l,h=>by have ha:=h a (fd ..);have ih:=and_val m hm l λb hb=>h b (dl _ hb);simp only[val,rep,r',t9];rw[kC _ _ _ _ ha hm,ih]
def and15 (z:Nat):z &&& 15=z%16:=ad3 z 4
def val_div2 (a b:Nat) (l:List Nat) (ha:a<256) (hb:b<256):val (a::b::l)/65536=val l:=by simp only[val];omega
def val_div4 (a b c d:Nat) (l:List Nat) (ha:a<256) (hb:b<256) (hc:c<256) (hd:d<256):val (a::b::c::d::l)/4294967296=val l:=by simp only[val];omega
def ones_sum (c0 c1 c2 c3 c4 c5 c6 c7:Nat) (w0:c0<=8) (w1:c1<=8) (w2:c2<=8) (w3:c3<=8) (w4:c4<=8) (w5:c5<=8) (w6:c6<=8) (w7:c7<=8): (((val [c0,c1,c2,c3,c4,c5,c6,c7]+val [c0,c1,c2,c3,c4,c5,c6,c7]/256)%18446744073709551616+(val [c0,c1,c2,c3,c4,c5,c6,c7]+val [c0,c1,c2,c3,c4,c5,c6,c7]/256)%18446744073709551616/65536)%18446744073709551616+((val [c0,c1,c2,c3,c4,c5,c6,c7]+val [c0,c1,c2,c3,c4,c5,c6,c7]/256)%18446744073709551616+(val [c0,c1,c2,c3,c4,c5,c6,c7]+val [c0,c1,c2,c3,c4,c5,c6,c7]/256)%18446744073709551616/65536)%18446744073709551616/4294967296)%18446744073709551616%128=c0+(c1+(c2+(c3+(c4+(c5+(c6+(c7+0))))))):=by
 have d:(val [c0,c1,c2,c3,c4,c5,c6,c7]+val [c0,c1,c2,c3,c4,c5,c6,c7]/256)%18446744073709551616=val [c0+c1,c1+c2,c2+c3,c3+c4,c4+c5,c5+c6,c6+c7,c7]:=by simp only[val];omega
 rw[d,val_div2 _ _ _ e9 e9];have e:(val [c0+c1,c1+c2,c2+c3,c3+c4,c4+c5,c5+c6,c6+c7,c7]+val [c2+c3,c3+c4,c4+c5,c5+c6,c6+c7,c7])%18446744073709551616=val [c0+c1+(c2+c3),c1+c2+(c3+c4),c2+c3+(c4+c5),c3+c4+(c5+c6),c4+c5+(c6+c7),c5+c6+c7,c6+c7,c7]:=by rw[wi (by simp only[val];omega)];simp only[val];omega
 rw[e,val_div4 _ _ _ _ _ e9 e9 e9 e9];have f:(val [c0+c1+(c2+c3),c1+c2+(c3+c4),c2+c3+(c4+c5),c3+c4+(c5+c6),c4+c5+(c6+c7),c5+c6+c7,c6+c7,c7]+val [c4+c5+(c6+c7),c5+c6+c7,c6+c7,c7])%18446744073709551616=val [c0+c1+(c2+c3),c1+c2+(c3+c4),c2+c3+(c4+c5),c3+c4+(c5+c6),c4+c5+(c6+c7),c5+c6+c7,c6+c7,c7]+val [c4+c5+(c6+c7),c5+c6+c7,c6+c7,c7]:=wi (by simp only[val];omega);rw[f];simp only[val];clear d e f;omega
def bytesOf:Nat->Nat->List Nat
 |0,_=> []
 |n+1,x=>x%256::bytesOf n (x/256)
def rI:∀n x,∀a∈bytesOf n x,a<256
 |0,_,a,h=>by cases h
 |n+1,x,a,h=>by unfold bytesOf at h;rcases ii.1 h with rfl|h;exact AC _ e9;exact rI n _ a h
def qk:∀n x,x<256^n->val (bytesOf n x)=x
 |0,x,h=>by simp at h;simp[bytesOf,val,h]
 |n+1,x,h=>by have:x/256<256^n:=(by rw[ST] at h;omega);simp only[bytesOf,val,qk n _ this];omega
def qj:∀n x,aG x.testBit (8*n)=((bytesOf n x).map λa=>aG a.testBit 8).sum
 |0,_=>rfl
 |n+1,x=>by rw[show 8*(n+1)=8+8*n by omega,fN];simp only[bytesOf,t9,ad5];congr 1;refine cB λi hi=>?_;rw[show (256:Nat)=2^8 from rfl,Nat.testBit_mod_two_pow];simp[hi];rw[<-qj n (x/256)];refine cB λi hi=>?_;rw[show (256:Nat)=2^8 from rfl,ag0,WF]
def OS (x:Nat):Nat:=
 let a:=((x/2 &&& 6148914691236517205)+(x &&& 6148914691236517205))%18446744073709551616
 let b:=((a/4 &&& 3689348814741910323)+(a &&& 3689348814741910323))%18446744073709551616
 let c:=(b/16+b)%18446744073709551616 &&& 1085102592571150095
 let d:=(c+c/256)%18446744073709551616
 let e:=(d+d/65536)%18446744073709551616
 let f:=(e+e/4294967296)%18446744073709551616
 f%128
def ones_cnt (x:Nat) (hx:x<18446744073709551616):OS x=aG x.testBit 64:=by
 obtain⟨x0,x1,x2,x3,x4,x5,x6,x7,hl⟩:∃x0 x1 x2 x3 x4 x5 x6 x7,bytesOf 8 x=[x0,x1,x2,x3,x4,x5,x6,x7]:=⟨_,_,_,_,_,_,_,_,rfl⟩;have hv:val [x0,x1,x2,x3,x4,x5,x6,x7]=x:=by rw[<-hl];exact qk 8 x hx
 have hb:∀a∈ [x0,x1,x2,x3,x4,x5,x6,x7],a<256:=by rw[<-hl];exact rI 8 x
 have hc:=qj 8 x;rw[hl] at hc;have H:=λa ha=>oc_byte a (hb a ha);simp only[ii,ul,N_,forall_eq_or_imp,forall_eq] at H;obtain⟨⟨p0,h0,l0,s0⟩,⟨p1,h1,l1,s1⟩,⟨p2,h2,l2,s2⟩,⟨p3,h3,l3,s3⟩,⟨p4,h4,l4,s4⟩,⟨p5,h5,l5,s5⟩,⟨p6,h6,l6,s6⟩,⟨p7,h7,l7,s7⟩⟩:=H;have e1:=Bz _ hb;have e2:=BB ([x0,x1,x2,x3,x4,x5,x6,x7].map me) yd;rw[hv] at e1;have m1:rep 85 8=6148914691236517205:=z9;have m2:rep 51 8=3689348814741910323:=z9;simp only[r',O',Nat.reduceAdd,t9,ae4,m1,m2] at e1 e2;rw[hc];simp only[t9,ae4,ad5,List.sum_nil,<-s0,<-s1,<-s2,<-s3,<-s4,<-s5,<-s6,<-s7];generalize BA (me x0)=y0 at *;generalize BA (me x1)=y1 at *;generalize BA (me x2)=y2 at *;generalize BA (me x3)=y3 at *;generalize BA (me x4)=y4 at *;generalize BA (me x5)=y5 at *;generalize BA (me x6)=y6 at *;generalize BA (me x7)=y7 at *;have hA:val [me x0,me x1,me x2,me x3,me x4,me x5,me x6,me x7]<18446744073709551616:=by simp only[val];omega
 generalize val [me x0,me x1,me x2,me x3,me x4,me x5,me x6,me x7]=A at *;have hB:val [y0,y1,y2,y3,y4,y5,y6,y7]<18446744073709551616:=by simp only[val];omega
 have hC:val [y0,y1,y2,y3,y4,y5,y6,y7]/16+val [y0,y1,y2,y3,y4,y5,y6,y7]=val [y0/16+16*(y1%16)+y0,y1/16+16*(y2%16)+y1,y2/16+16*(y3%16)+y2,y3/16+16*(y4%16)+y3,y4/16+16*(y5%16)+y4,y5/16+16*(y6%16)+y5,y6/16+16*(y7%16)+y6,y7/16+y7]:=by simp only[val];omega
 have Gj:val [y0,y1,y2,y3,y4,y5,y6,y7]/16+val [y0,y1,y2,y3,y4,y5,y6,y7]<18446744073709551616:=by simp only[val];omega
 have e3:=and_val 15 e9 [y0/16+16*(y1%16)+y0,y1/16+16*(y2%16)+y1,y2/16+16*(y3%16)+y2,y3/16+16*(y4%16)+y3,y4/16+16*(y5%16)+y4,y5/16+16*(y6%16)+y5,y6/16+16*(y7%16)+y6,y7/16+y7] yd;have m3:rep 15 8=1085102592571150095:=z9;simp only[r',O',Nat.reduceAdd,t9,ae4,m3,and15] at e3;rw[<-hC] at e3;generalize val [y0,y1,y2,y3,y4,y5,y6,y7]=B at *;have q0:(y0/16+16*(y1%16)+y0)%16=y0/16+y0%16:=e9;have q1:(y1/16+16*(y2%16)+y1)%16=y1/16+y1%16:=e9;have q2:(y2/16+16*(y3%16)+y2)%16=y2/16+y2%16:=e9;have q3:(y3/16+16*(y4%16)+y3)%16=y3/16+y3%16:=e9;have q4:(y4/16+16*(y5%16)+y4)%16=y4/16+y4%16:=e9;have q5:(y5/16+16*(y6%16)+y5)%16=y5/16+y5%16:=e9;have q6:(y6/16+16*(y7%16)+y6)%16=y6/16+y6%16:=e9;have q7:(y7/16+y7)%16=y7/16+y7%16:=e9;rw[q0,q1,q2,q3,q4,q5,q6,q7] at e3;unfold OS;simp only[e1,wi hA,e2,wi hB,wi Gj,e3];clear e1 e2 e3 hC q0 q1 q2 q3 q4 q5 q6 q7 hA hB Gj hc hb hl hv;have w0:y0/16+y0%16<=8:=e9;have w1:y1/16+y1%16<=8:=e9;have w2:y2/16+y2%16<=8:=e9;have w3:y3/16+y3%16<=8:=e9;have w4:y4/16+y4%16<=8:=e9;have w5:y5/16+y5%16<=8:=e9;have w6:y6/16+y6%16<=8:=e9;have w7:y7/16+y7%16<=8:=e9;generalize y0/16+y0%16=c0 at *;generalize y1/16+y1%16=c1 at *;generalize y2/16+y2%16=c2 at *;generalize y3/16+y3%16=c3 at *;generalize y4/16+y4%16=c4 at *;generalize y5/16+y5%16=c5 at *;generalize y6/16+y6%16=c6 at *;generalize y7/16+y7%16=c7 at *;clear s0 s1 s2 s3 s4 s5 s6 s7 p0 p1 p2 p3 p4 p5 p6 p7 h0 h1 h2 h3 h4 h5 h6 h7 l0 l1 l2 l3 l4 l5 l6 l7;exact ones_sum c0 c1 c2 c3 c4 c5 c6 c7 w0 w1 w2 w3 w4 w5 w6 w7
def da (z:Int):Nat:=(min (max z 0) 64).toNat
def nm (z:Int):da z<=64:=by unfold da;omega
def clipN_of {n:Nat} (h:n<=64):da n=n:=by unfold da;omega
def xw (z:Int) (w:World):WR 342 #[z] w (da z:Int) λw'=>w=w':=by go_enter func342,ntmps342;go_wp2;all_goals (go_ret;refine⟨NE (λq=>Ending.returned (.int .i64 q)) (show _=((da z:Nat):Int) from ?_),rfl⟩;unfold da;omega)
def DC (n m:Nat) (M:Int) (hM:M=m) (hn:n<18446744073709551616) (hm:m<18446744073709551616):bits BinOp.and IntKind.u64 (n:Int) M=((n &&& m:Nat):Int):=by rw[hM];exact UL n m hn hm
def qc (n:Nat):IntKind.u64.wrap (n:Int)=((n%18446744073709551616:Nat):Int):=by rw[U_];omega
def DU (n k:Nat) (K:Int) (hK:K=k):(n:Int)/K=((n/k:Nat):Int):=by rw[hK];exact (ag1 n k).symm
def xQ (x c k:Nat) (C K:Int) (hC:C=c) (hK:K=k) (hx:x<18446744073709551616) (hc:c<18446744073709551616): IntKind.u64.wrap (bits BinOp.and IntKind.u64 ((x:Int)/K) C+bits BinOp.and IntKind.u64 (x:Int) C)=((((x/k &&& c)+(x &&& c))%18446744073709551616:Nat):Int):=by rw[DU x k K hK,DC _ c C hC (DW (rx _ _) hx) hc,DC _ c C hC hx hc,<-Int.natCast_add,qc]
def An (x k:Nat) (K:Int) (hK:K=k):IntKind.u64.wrap ((x:Int)+(x:Int)/K)=(((x+x/k)%18446744073709551616:Nat):Int):=by rw[DU x k K hK,<-Int.natCast_add,qc]
def plus_z' (x k:Nat) (K:Int) (hK:K=k):IntKind.u64.wrap ((x:Int)/K+(x:Int))=(((x/k+x)%18446744073709551616:Nat):Int):=by rw[DU x k K hK,<-Int.natCast_add,qc]
def last_z (f:Nat) (h:f<18446744073709551616):bits BinOp.and IntKind.i64 (wrap64 f) 127=((f%128:Nat):Int):=by rw[i64_and127];unfold wrap64;omega
def ones_any (x:Nat) (hx:x<18446744073709551616) (w:World):WR 337 #[.int .u64 x] w (aG x.testBit 64:Int) λw'=>w=w':=by rw[<-ones_cnt x hx];go_enter func337,ntmps337;go_wp2;generalize hA:IntKind.u64.wrap (bits BinOp.and IntKind.u64 (↑x/2) 6148914691236517205+bits BinOp.and IntKind.u64 (↑x) 6148914691236517205)=A;generalize hB:IntKind.u64.wrap (bits BinOp.and IntKind.u64 (A/4) 3689348814741910323+bits BinOp.and IntKind.u64 A 3689348814741910323)=B;generalize hC:bits BinOp.and IntKind.u64 (IntKind.u64.wrap (B/16+B)) 1085102592571150095=C;generalize hD:IntKind.u64.wrap (C+C/256)=D;generalize hE:IntKind.u64.wrap (D+D/65536)=E;generalize hF:IntKind.u64.wrap (E+E/4294967296)=F;go_ret;refine⟨?_,rfl⟩;show Ending.returned (Value.int IntKind.i64 (bits BinOp.and IntKind.i64 (wrap64 F) 127))=_;rw[xQ x 6148914691236517205 2 6148914691236517205 2 rfl rfl hx z9] at hA;subst hA;rw[xQ _ 3689348814741910323 4 3689348814741910323 4 rfl rfl (AC _ z9) z9] at hB;subst hB;rw[plus_z' _ 16 16 rfl,DC _ 1085102592571150095 1085102592571150095 rfl (AC _ z9) z9] at hC;subst hC;rw[An _ 256 256 rfl] at hD;subst hD;rw[An _ 65536 65536 rfl] at hE;subst hE;rw[An _ 4294967296 4294967296 rfl] at hF;subst hF;rw[last_z _ (AC _ z9)];rfl
def runN (a b:Nat):Nat:=ub (λj=>decide (a<=j) && decide (j<b)) 64
def runN_none {a b:Nat} (h:b<=a):runN a b=0:=by apply vC;intro i;unfold runN;rw[kU,aj5];by_cases h1:a<=i;simp[show ¬i<b by omega];simp[h1]
def runN_z {x y:Nat} (h:x<y) (hy:y<=64):IntKind.u64.wrap (18446744073709551615/2^(64-y+x)*2^x)=(runN x y:Int):=by
 have e:((18446744073709551615:Int)/2^(64-y+x)*2^x)=((18446744073709551615/2^(64-y+x)*2^x:Nat):Int):=by rw[ae0,ag1,ac1,ac1];rfl
 rw[e,qc];congr 1;unfold runN;refine nof_eq (AC _ z9) λj hj=>?_;rw[show (18446744073709551616:Nat)=2^64 from rfl,Nat.testBit_mod_two_pow,ag2,ag0,show (18446744073709551615:Nat)=2^64-1 from rfl,P_];by_cases h1:x<=j;have:(j-x+(64-y+x)<64)↔j<y:=e9;simp[hj,h1,this];simp[h1]
def rz (a b:Int) (w:World):WR 336 #[a,b] w (.int .u64 (runN (da a) (da b))) λw'=>w=w':=by
 have H1:=xw a w;have H2:=xw b w;have ha:=nm a;have hb:=nm b;generalize da a=x at *;generalize da b=y at *;go_enter func336,ntmps336;go_wp2_with (first|(go_at_call 342;refine H1.mono ?_;clear H1;rintro e w1 ⟨rfl,rfl⟩)|(go_at_call 342;refine H2.kq ?_;rintro w1 rfl))
 .go_ret;exact⟨by rw[runN_none (by assumption)];rfl,rfl⟩
 go_ret;refine⟨?_,rfl⟩;rw[<-runN_z (show x<y by omega) hb];rfl
def ry (a b:Nat):runN a b<18446744073709551616:=wu _ 64
def lI (a b j:Nat):(runN a b).testBit j=(decide (j<64) && (decide (a<=j) && decide (j<b))):=kU _ _ _
def Ck (x a b:Nat):Nat:=aG (λj=>x.testBit j && (decide (a<=j) && decide (j<b))) 64
def pv (x:Nat) (hx:x<18446744073709551616) (a b:Int) (w:World):WR 319 #[.int .u64 x,a,b] w (Ck x (da a) (da b):Int) λw'=>w=w':=by
 have H1:=rz a b w;generalize da a=p at *;generalize da b=q at *;have e:Ck x p q=aG (x &&& runN p q).testBit 64:=cB λj hj=>by rw[O_,lI];simp[hj]
 have hr:=ry p q;rw[e];generalize runN p q=r at *;have hz:=UL x r hx hr;have hlt:x &&& r<18446744073709551616:=ac4 (n:=64) _ hr;have H2:=ones_any (x &&& r) hlt w;go_enter func319,ntmps319;go_wp2_with (first|(go_at_call 336;refine H1.kq ?_;rintro w1 rfl)|(go_at_call 337;(try rw[hz]);refine H2.kq ?_;rintro w1 rfl));go_ret;exact⟨rfl,rfl⟩
def js (n:Int):Bool:=decide (0<n) && (bits BinOp.and IntKind.i64 n (n-1)==0)
def gj (n:Int) (hb: -9223372036854775808<=n/\n<9223372036854775808) (w:World):WR 263 #[n] w (.bool (js n)) λw'=>w=w':=by
 unfold js;by_cases h:0<n
 .have s1:IntKind.i64.wrap (n-1)=n-1:=i_ _ e9;rw[show decide (0<n)=true by simp[h],SV];generalize hv:(bits BinOp.and IntKind.i64 n (n-1)==0)=v;go_enter func263,ntmps263;go_wp2;go_ret;exact⟨qr,rfl⟩
 rw[show decide (0<n)=false by simp[h],ac8];go_enter func263,ntmps263;go_wp2;go_ret;exact⟨rfl,rfl⟩
def and_i64 (a b:Nat) (ha:a<9223372036854775808) (hb:b<9223372036854775808):bits BinOp.and IntKind.i64 (a:Int) (b:Int)=((a &&& b:Nat):Int):=by
 have hx:a &&& b<2^63:=ac4 _ hb;have h1:(BitVec.ofInt 64 (a:Int)).toNat=a:=by rw[ad6,ae7];exact wi e9
 have h2:(BitVec.ofInt 64 (b:Int)).toNat=b:=by rw[ad6,ae7];exact wi e9
 show IntKind.i64.wrap ((BitVec.ofInt 64 (a:Int) &&& BitVec.ofInt 64 (b:Int)).toNat:Int)=_;rw[aj6,h1,h2];exact i_ _ e9
def sX (k:Nat) (hk:k<=62):js ((2^k:Nat):Int)=true:=by have hp:0<2^k:=ac2 k;have hl:2^k<=2^62:=pl e9 hk;have e:((2^k:Nat):Int)-1=((2^k-1:Nat):Int):=e9;unfold js;rw[e,and_i64 _ _ e9 e9,ad3,Z_,show decide ((0:Int)<((2^k:Nat):Int))=true from kr];rfl
def fits_two (n k:Nat) (hn:n<=1152921504606846976) (hk:k<=30) (w:World):WR 313 #[n,(2^k:Nat)] w true λw'=>w=w':=by have hl:2^k<=2^30:=pl e9 hk;have hp:=sX k e9;generalize 2^k=u at *;have H1:=gj (u:Int) e9 w;rw[hp] at H1;have hd:decide ((n:Int)<=1152921504606846976)=true:=kr;go_enter func313,ntmps313;go_wp2_with (go_at_call 263;refine H1.kq ?_;rintro w1 rfl);go_ret;exact⟨rfl,rfl⟩
def up_bitsP (a k:Nat) (ha:a<9223372036854775808) (hk:k<=30):bits BinOp.andNot IntKind.i64 (a:Int) ((2^k-1:Nat):Int)=((a/2^k*2^k:Nat):Int):=by
 have hl:2^k<=2^30:=pl e9 hk;have hp:0<2^k:=ac2 k;have h1:(BitVec.ofInt 64 (a:Int)).toNat=a:=by rw[ad6,ae7];exact wi e9
 have h2:(BitVec.ofInt 64 ((2^k-1:Nat):Int)).toNat=2^k-1:=by rw[ad6,ae7];exact wi e9
 have e:a &&& (2^64-1-(2^k-1))=a/2^k*2^k:=by apply vC;intro i;rw[O_,ag2,ag0,show 2^64-1-(2^k-1)=2^64-((2^k-1)+1) by omega,N' e9,P_];by_cases h:k<=i;have e2:i-k+k=i:=e9;by_cases PO:i<64;simp[h,PO,e2,show ¬i<k by omega];have:a.testBit i=false:=H' (x_ ha (h_ z9 (pl (show 0<2 by omega) (show 63<=i by omega))));simp[h,e2,this];simp[h,show i<k by omega]
 show IntKind.i64.wrap ((BitVec.ofInt 64 (a:Int) &&& ~~~ BitVec.ofInt 64 ((2^k-1:Nat):Int)).toNat:Int)=_;rw[aj6,BitVec.toNat_not,h1,h2,e];have:=C_ a (2^k);exact i_ _ e9
def up_two (n k:Nat) (hn:n<=1152921504606846976) (hk:k<=30) (w:World):WR 276 #[n,(2^k:Nat)] w ((n+2^k-1)/2^k*2^k:Nat) λw'=>w=w':=by have hl:2^k<=2^30:=pl e9 hk;have hp:0<2^k:=ac2 k;have H1:=fits_two n k hn hk w;have hb:=up_bitsP (n+2^k-1) k e9 hk;generalize 2^k=u at *;have e1:((n+u-1:Nat):Int)=(n:Int)+u-1:=e9;have e2:((u-1:Nat):Int)=(u:Int)-1:=e9;rw[e1,e2] at hb;generalize ((n+u-1)/u*u:Nat)=r at *;have s1:=eH ((n:Int)+u);have s2:=eH ((n:Int)+u-1);have s3:=eH ((u:Int)-1);go_enter func276,ntmps276;go_wp2_with (go_at_call 313;refine H1.kq ?_;rintro w1 rfl);go_ret;exact⟨qr,rfl⟩
def ax (w:World):Prop:=TabAt 1 Lib.deBruijn64tab w
def tz_zero (w:World):WR 339 #[.int .u64 0] w (64:Int) λw'=>w=w':=by go_enter func339,ntmps339;go_wp2;go_ret;exact⟨rfl,rfl⟩
def tz_core (x k idx:Nat) (w:World) (KW:((x:Int)==0)=false) (key:IntKind.u64.wrap (bits BinOp.and IntKind.u64 (x:Int) (IntKind.u64.wrap (-(x:Int)))*285870213051353865)/288230376151711744=(idx:Int)) (hi:idx<64) (hk:k<64) (hcell:w.cell? ⟨1,idx,none⟩=some (.int .u8 k)): WR 339 #[.int .u64 x] w k λw'=>w=w':=by go_enter func339,ntmps339;go_wp2_with (simp only[key]);go_ret;exact⟨rfl,rfl⟩
def tz_any (x:Nat) (hx:x<18446744073709551616) (w:World) (hT:ax w): WR 339 #[.int .u64 x] w (Lib.ctz 64 x:Int) λw'=>w=w':=by by_cases KW:x=0;subst KW;exact tz_zero w;obtain⟨Ex,hk⟩:=Lib.lowest_bit 64 x KW hx;obtain⟨hi,htab⟩:=Lib.deBruijn64_at _ hk;have hcell:=hT _ hi;rw[htab] at hcell;exact tz_core x _ _ w yd (tz64_key x _ hx KW Ex) hi hk hcell
def dV (g:Nat->Bool):Nat->Nat->Nat
 |a,0=>a
 |a,k+1=>if g a then a else dV g (a+1) k
def jR (g:Nat->Bool):∀(k a r:Nat),a<=r->r<=a+k->(∀j,a<=j->j<r->g j=false)->(r=a+k\/g r=true)->dV g a k=r
 |0,a,r,h1,h2,h3,h4=>by unfold dV;omega
 |k+1,a,r,h1,h2,h3,h4=>by unfold dV;by_cases h:a=r;subst h;rcases h4 with h4|h4;omega;rw[b9 h4];rw[h3 a (bi _) e9,b_ qr];exact jR g k (a+1) r e9 e9 (λj hj=>h3 j e9) (h4.imp e9 id)
def dM (g:Nat->Bool):∀(k a:Nat),a<=dV g a k/\dV g a k<=a+k/\(∀j,a<=j->j<dV g a k->g j=false)/\(dV g a k<a+k->g (dV g a k)=true)
 |0,a=>by unfold dV;exact⟨bi _,bi _,λj _ _=>e9,λh=>e9⟩
 |k+1,a=>by unfold dV;by_cases h:g a=true;rw[b9 h];exact⟨bi _,e9,λj _ _=>e9,λ_=>h⟩;rw[b_ h];obtain⟨h1,h2,h3,h4⟩:=dM g k (a+1);refine⟨e9,e9,λj hj LS=>?_,λhh=>h4 e9⟩;by_cases e:j=a;subst e;simpa using h;exact h3 j e9 LS
def ctz_spec (y:Nat) (hy:y<18446744073709551616):Lib.ctz 64 y<=64/\(∀j,j<Lib.ctz 64 y->y.testBit j=false)/\(Lib.ctz 64 y=64\/y.testBit (Lib.ctz 64 y)=true):=by
 by_cases h0:y=0;subst h0;exact⟨z9,λj _=>aj5 j,.inl rfl⟩;obtain⟨m,hm,hk⟩:=Lib.ctzFrom_spec 64 y e9 hy;have e:Lib.ctz 64 y=Lib.ctzFrom 64 y:=by unfold Lib.ctz;rw[b_ h0]
 rw[e];generalize Lib.ctzFrom 64 y=k at *;have ht:∀j,y.testBit j=(decide (k<=j) && (2*m+1).testBit (j-k)):=λj=>by rw[hm,GP,ag2]
 refine⟨e9,λj hj=>?_,.inr ?_⟩;rw[ht];simp[show ¬k<=j by omega];rw[ht];simp
def next_any (x:Nat) (hx:x<18446744073709551616) (a:Int) (w:World) (hT:ax w):WR 327 #[.int .u64 x,a] w (dV x.testBit (da a) (64-da a):Int) λw'=>w=w':=by
 have H1:=rz a 64 w;have hc:=nm a;rw[show da 64=64 from rfl] at H1;generalize da a=p at *;have hr:=ry p 64;have hz:=UL x _ hx hr;have hlt:x &&& runN p 64<18446744073709551616:=ac4 (n:=64) _ hr;have e:dV x.testBit p (64-p)=Lib.ctz 64 (x &&& runN p 64):=by obtain⟨h1,h2,h3⟩:=ctz_spec _ hlt;have ht:∀j,(x &&& runN p 64).testBit j=(x.testBit j && (decide (j<64) && (decide (p<=j) && decide (j<64)))):=λj=>(by rw[O_,lI]);generalize Lib.ctz 64 (x &&& runN p 64)=r at *;have hp:p<=r:=(by rcases h3 with h3|h3;omega;rw[ht] at h3;simp at h3;omega);refine jR _ _ _ _ hp e9 (λj hj LS=>?_) ?_;have:=h2 j LS;rw[ht] at this;simpa [hj,show j<64 by omega] using this;rcases h3 with h3|h3;exact .inl e9;rw[ht] at h3;simp at h3;exact .inr h3.1
 rw[e];have H2:=tz_any _ hlt w hT;generalize runN p 64=r at *;clear e;go_enter func327,ntmps327;go_wp2_with (first|(go_at_call 336;refine H1.kq ?_;rintro w1 rfl)|(go_at_call 339;(try rw[hz]);refine H2.kq ?_;rintro w1 rfl));go_ret;exact⟨rfl,rfl⟩
end Go.Proofs.YtmdgfpeglgpiiaaGreatDoor
namespace Go.Proofs.YtmdgfpeglgpiiaaGreatDoor.Rt
open Vq Oq Go.Proofs.Tryz
open Go.ChangeShapes Go.WideShapes Go.ChangeAt Go.RowKit
def fP:(prog.info? 3).map (λi=>(i.zero,i.size,i.bytes))=some (some (.int .i64 0),1,8):=ol
def gS (zs:List Int):List Value:=zs.map (.int .i64)
def jb (g:Nat) (zs:List Int) (w:World):Prop:=w.heap[g]?=some (.cells (gS zs).toArray 3 (0,0))
def jb.cell {g:Nat} {zs:List Int} {w:World} (h:jb g zs w) {j:Nat} (hj:j<zs.length):w.cell? ⟨g,j,none⟩=some (.int .i64 (zs.getD j 0)):=an h j _ (by simp[gS,hj])
def jb.free {g:Nat} {zs:List Int} {w:World} (h:jb g zs w) (j:Nat):w.frozen? ⟨g,j,none⟩=false:=br h j
def jb.set {g:Nat} {zs:List Int} {w:World} (h:jb g zs w) (j:Nat) (v:Int):jb g (zs.set j v) (w.setCell ⟨g,j,none⟩ (.int .i64 v)):=by have:=rp w g j _ _ (.int .i64 v) h;unfold jb;rw[this];simp[gS,Z']
structure qh (g b:Nat) (zs:List Int) (w:World):Prop where
 row:jb g zs w
 head:w.heap[b]?=some (.cells #[.slice (some ⟨g,0,none⟩) zs.length zs.length] 197 (0,0))
 uq:zs.length<=64
def qh.ne {g b:Nat} {zs:List Int} {w:World} (h:qh g b zs w):g≠b:=by intro e;have h1:=h.row;have h2:=h.head;unfold jb at h1;rw[e,h2] at h1;simp at h1
def tT (b:Nat) (w w':World):Prop:=w'.os=w.os/\w'.tape=w.tape/\w'.output=w.output/\w.heap.size<=w'.heap.size/\∀k,k<w.heap.size->k≠b->w'.heap[k]?=w.heap[k]?
def tT.set {b:Nat} {w w1:World} (h:Below w.heap.size w w1) (i:Nat) (v:Value):tT b w (w1.setCell ⟨b,i,none⟩ v):=⟨h.os,h.tape,h.output,by have:=h.size;simpa [World.setCell] using this,λk hk hb=>by rw[Below.heap_setCell w1 ⟨b,i,none⟩ v k hb];exact h.block k hk⟩
def qh.grow {g b:Nat} {zs:List Int} {w w':World} (h:qh g b zs w) (hb:Below w.heap.size w w'):qh g b zs w':=⟨cQ hb (bi _) h.row,cQ hb (bi _) h.head,h.uq⟩
def qh.set {g b:Nat} {zs:List Int} {w:World} (h:qh g b zs w) (j:Nat) (v:Int):qh g b (zs.set j v) (w.setCell ⟨g,j,none⟩ (.int .i64 v)):=⟨h.row.set j v,by rw[Below.heap_setCell w ⟨g,j,none⟩ _ b (λe=>h.ne e.symm),p_];exact h.head,by rw[p_];exact h.uq⟩
def made_ints (n:Nat):madeCells (Value.int .i64 0).cells (n*1)=(gS (List.replicate n 0)).toArray:=by apply X_.1;rw[w_];show (madeCells #[Value.int .i64 0] n).toList=_;rw[ab7];simp[gS]
def iQ (n:Nat) (w:World) (h1:1<=n) (h2:n<=64): WR 109 #[n] w (.tuple #[.pointer (some ⟨w.heap.size+1,0,none⟩),Wy]) λw'=>qh w.heap.size (w.heap.size+1) (List.replicate n 0) w'/\Below w.heap.size w w':=by
 obtain⟨i0,hi,hz0,vR,Ae⟩:=BT fP;have nP:∀W:World,(Instr.makeSlice 58 (.int .i64 (n:Int)) (.int .i64 (n:Int))).run prog W=.ok (.slice (some ⟨W.heap.size,0,none⟩) n n) (W.alloc (.cells (gS (List.replicate n 0)).toArray 3)):=λW=>by have h:=run_make (P:=prog) W 58 3 i0 (.int .i64 0) underlying58 hi hz0 .i64 .i64 (n:Int) (n:Int) e9 e9 (by rw[Ae];omega) e9;rw[vR,f_,made_ints] at h;exact h
 have bp:=au w (.cells (gS (List.replicate n 0)).toArray 3);have hg1:=ls w (.cells (gS (List.replicate n 0)).toArray 3);have hsz:(w.alloc (.cells (gS (List.replicate n 0)).toArray 3)).heap.size=w.heap.size+1:=qr;obtain⟨RL,RN,MU⟩:=dF bp hg1 hsz;clear bp hg1 hsz;go_enter func109,ntmps109;go_wp2;go_ret2;have dw:=au (w.alloc (.cells (gS (List.replicate n 0)).toArray 3)) (.cells #[.slice (some ⟨w.heap.size,0,none⟩) n n] 197);have wY:=ls (w.alloc (.cells (gS (List.replicate n 0)).toArray 3)) (.cells #[.slice (some ⟨w.heap.size,0,none⟩) n n] 197);rw[MU.out] at wY;refine⟨by first|rfl|(rw[<-MU.out];rfl),⟨cQ dw (bi _) RN,?_,yd⟩,seq RL dw⟩;rw[I_];exact wY
def DL (n:Nat) (xs:List Int):Int:=if ∀j,j<xs.length->0<=xs.getD j 0/\xs.getD j 0<n then 0 else 17
def cM (g b l:Nat) (zs xs:List Int) (w:World) (hT:qh g b zs w) (hx:∀j,j<xs.length->w.cell? ⟨l,j,none⟩=some (.int .i64 (xs.getD j 0))) (hl:xs.length<=64): WR 126 #[Wz b,.slice (some ⟨l,0,none⟩) xs.length xs.length] w (DL zs.length xs:Int) λw'=>w=w':=by
 have c0:=an hT.head 0 _ rfl;have Hx:=a_ hx;have qO:=hT.uq;obtain⟨r,hr⟩:=kw (DL zs.length xs);rw[hr];have Hr:=a_ hr;clear hx hT hr;go_enter func126,ntmps126;go_wp2;go_loopw [11] (λi wr=>∃(m:Nat),i=.int .i64 m/\m<=xs.length/\(∀j,j<m->0<=xs.getD j 0/\xs.getD j 0<zs.length)/\wr=w) (λi _=>xs.length-(intOf i).toNat);exact⟨0,rfl,e9,e9,rfl⟩;obtain⟨m,rfl,hm,hall,rfl⟩:=hrel;have Dm:=a_ hall;clear hall;by_cases hlt:m<xs.length
 .have cm:=Hx m hlt;obtain⟨x,FK⟩:=kw (xs.getD m 0);rw[FK] at cm;have JK:=a_ FK;clear FK;by_cases hbad:x<0\/(zs.length:Int)<=x
  .have hc:DL zs.length xs=17:=(by unfold DL;rw[b_];intro h;have:=h m hlt;rw[JK.out] at this;omega);obtain rfl:r=17:=Hr.symm.trans hc;clear hc Hr;rcases hbad with h1|h1
   .go_wp2;go_ret;exact⟨rfl,rfl⟩
   have h0:¬x<0:=e9;go_wp2;go_ret;exact⟨rfl,rfl⟩
  have h0:¬x<0:=e9;have h1:¬(zs.length:Int)<=x:=e9;go_wp2;go_roundw;exact⟨m+1,by go_num,e9,λj hj=>by by_cases e:j=m;rw[e,JK.out];omega;exact Dm j e9,trivial⟩;simp[intOf];omega
 obtain rfl:xs.length=m:=e9;have hc:DL zs.length xs=0:=b9 Dm;obtain rfl:r=0:=Hr.symm.trans hc;clear hc Hr;go_wp2;go_ret;exact⟨rfl,rfl⟩
def qh.drew {g b:Nat} {zs:List Int} {w:World} (h:qh g b zs w):qh g b zs w.drew:=⟨h.row,h.head,h.uq⟩
def tT.drew {b:Nat} {w w':World} (h:tT b w w'):tT b w w'.drew:=h
def qm {n k:Nat} (h:k<n):DL n [(k:Int)]=0:=b9 (by
 intro j hj;obtain rfl:j=0:=by simp at hj;omega
 simp;omega)
def rK {n:Nat} {i:Int} (h:i<0\/(n:Int)<=i):DL n [i]=17:=b_ (by
 intro hh;have:=hh 0 qr;simp at this;omega)
def chk_two_yes {n k j:Nat} (h:k<n) (h2:j<n):DL n [(k:Int),(j:Int)]=0:=b9 (by
 intro q hq;obtain rfl|rfl:q=0\/q=1:=by simp at hq;omega
 simp;omega;simp;omega)
def chk_two_no {n:Nat} {i j:Int} (h:(i<0\/(n:Int)<=i)\/(j<0\/(n:Int)<=j)):DL n [i,j]=17:=b_ (by
 intro hh;have h0:=hh 0 qr;have h1:=hh 1 qr;simp at h0 h1;omega)
def lx (g b:Nat) (zs:List Int) (i r:Int) (w:World) (hT:qh g b zs w) (hr:DL zs.length [i]=r): WA 126 #[Wz b,.slice (some ⟨w.heap.size,0,none⟩) 1 1] (w.alloc (.cells #[i] 3)) λe w'=>e=.returned r/\w.alloc (.cells #[i] 3)=w':=by have:=cM g b w.heap.size zs [i] _ (hT.grow (au w (.cells #[i] 3))) (λj hj=>by obtain rfl:j=0:=(by simp at hj;omega);exact an (ls w _) 0 _ rfl) qr;rw[hr] at this;exact this
def ui (g b:Nat) (zs:List Int) (i j r:Int) (w:World) (hT:qh g b zs w) (hr:DL zs.length [i,j]=r): WA 126 #[Wz b,.slice (some ⟨w.heap.size,0,none⟩) 2 2] (w.alloc (.cells #[i,j] 3)) λe w'=>e=.returned r/\w.alloc (.cells #[i,j] 3)=w':=by have:=cM g b w.heap.size zs [i,j] _ (hT.grow (au w (.cells #[i,j] 3))) (λq hq=>by obtain rfl|rfl:q=0\/q=1:=(by simp at hq;omega);exact an (ls w _) 0 _ rfl;exact an (ls w _) 1 _ rfl) qr;rw[hr] at this;exact this
def get_yes (g b:Nat) (zs:List Int) (k:Nat) (w:World) (hT:qh g b zs w) (hk:k<zs.length): WR 49 #[Wz b,k] w (.tuple #[(zs.getD k 0:Int),Wy]) λw'=>Below w.heap.size w w':=by have hc:=lx g b zs k 0 w hT (qm hk);have hb:=au w (.cells #[(k:Int)] 3);have lT:=hT.grow hb;have qO:=hT.uq;have c0:=an lT.head 0 _ rfl;have c1:=lT.row.cell hk;have Hc:=a_ hc;clear hc hT lT;generalize zs.getD k 0=x at *;go_enter func49,ntmps49;go_wp2_with (go_at_call 126;refine Hc.kq ?_;rintro w1 rfl;clear Hc);go_ret2;exact⟨rfl,hb⟩
def get_no (g b:Nat) (zs:List Int) (i:Int) (w:World) (hT:qh g b zs w) (hi:i<0\/(zs.length:Int)<=i): WR 49 #[Wz b,i] w (.tuple #[Wy,(17:Int)]) λw'=>Below w.heap.size w w':=by have hc:=lx g b zs i 17 w hT (rK hi);have hb:=au w (.cells #[i] 3);have Hc:=a_ hc;clear hc hT;go_enter func49,ntmps49;go_wp2_with (go_at_call 126;refine Hc.kq ?_;rintro w1 rfl;clear Hc);go_ret2;exact⟨rfl,hb⟩
def set_yes (g b:Nat) (zs:List Int) (k:Nat) (v:Int) (w:World) (hT:qh g b zs w) (hk:k<zs.length) (hv:0<=v): WR 54 #[Wz b,k,v] w Wy λw'=>qh g b (zs.set k v) w'/\tT g w w':=by have hc:=lx g b zs k 0 w hT (qm hk);have hb:=au w (.cells #[(k:Int)] 3);have lT:=hT.grow hb;have qO:=hT.uq;have c0:=an lT.head 0 _ rfl;have c1:=lT.row.cell hk;have f1:=lT.row.free k;obtain⟨Hc,HT⟩:=aO hc lT;clear hc hT lT;go_enter func54,ntmps54;go_wp2_with (go_at_call 126;refine Hc.kq ?_;rintro w1 rfl;clear Hc);go_ret;exact⟨rfl,HT.set k v,tT.set hb _ _⟩
def set_no (g b:Nat) (zs:List Int) (i v:Int) (w:World) (hT:qh g b zs w) (hi:i<0\/(zs.length:Int)<=i): WR 54 #[Wz b,i,v] w (17:Int) λw'=>Below w.heap.size w w':=by have hc:=lx g b zs i 17 w hT (rK hi);have hb:=au w (.cells #[i] 3);have Hc:=a_ hc;clear hc hT;go_enter func54,ntmps54;go_wp2_with (go_at_call 126;refine Hc.kq ?_;rintro w1 rfl;clear Hc);go_ret;exact⟨rfl,hb⟩
def copy_no (g b:Nat) (zs:List Int) (i j:Int) (w:World) (hT:qh g b zs w) (hi:(i<0\/(zs.length:Int)<=i)\/(j<0\/(zs.length:Int)<=j)): WR 96 #[Wz b,i,j] w (17:Int) λw'=>Below w.heap.size w w':=by have hc:=ui g b zs i j 17 w hT (chk_two_no hi);have hb:=au w (.cells #[i,j] 3);have Hc:=a_ hc;clear hc hT;go_enter func96,ntmps96;go_wp2_with (go_at_call 126;refine Hc.kq ?_;rintro w1 rfl;clear Hc);go_ret;exact⟨rfl,hb⟩
def copy_yes (g b:Nat) (zs:List Int) (k j:Nat) (w:World) (hT:qh g b zs w) (hk:k<zs.length) (hj:j<zs.length): WR 96 #[Wz b,k,j] w Wy λw'=>qh g b (zs.set k (zs.getD j 0)) w'/\tT g w w':=by have hc:=ui g b zs k j 0 w hT (chk_two_yes hk hj);have hb:=au w (.cells #[(k:Int),(j:Int)] 3);have lT:=hT.grow hb;have qO:=hT.uq;have Hc:=a_ hc;obtain⟨W,hW⟩:=kw (w.alloc (.cells #[(k:Int),(j:Int)] 3));rw[hW] at hb lT Hc;have HW:=a_ hW;have c0:=an lT.head 0 _ rfl;have c1:=lT.row.cell hj;have f1:=lT.row.free k;have c2:=lT.row.cell hk;have HT:=a_ lT;clear hc hT lT hW;generalize zs.getD j 0=x at *;go_enter func96,ntmps96;go_wp2_with (go_at_call 126;rw[HW.out];refine Hc.kq ?_;rintro w1 rfl;clear Hc);go_region;all_goals go_wp2;go_ret;exact⟨rfl,(HT.set k _).drew,(tT.set hb _ _).drew⟩
def len_any (g b:Nat) (zs:List Int) (w:World) (hT:qh g b zs w): WR 213 #[Wz b] w zs.length λw'=>w=w':=by have c0:=an hT.head 0 _ rfl;have qO:=hT.uq;clear hT;go_enter func213,ntmps213;go_wp2;go_ret;exact⟨rfl,rfl⟩
end Go.Proofs.YtmdgfpeglgpiiaaGreatDoor.Rt
namespace Go.Proofs.YtmdgfpeglgpiiaaGreatDoor
open Go.ChangeShapes Go.WideShapes Go.ChangeAt Go.RowKit Go.Maps
open Vq Oq Go.Proofs.Tryz
def dx (x:Nat) (i k:Int):Int:=if Hd.kindOf (Hd.tp x) (Hd.tf x) (Hd.to x) i=k then 0 else if Hd.kindOf (Hd.tp x) (Hd.tf x) (Hd.to x) i=0 then 19 else 20
def uH {p f o i:Int} (h:Hd.kindOf p f o i≠0):0<=i/\i<p+f+o/\p+f+o<=255:=by
 unfold Hd.kindOf at h;split at h
 .next q=>
  obtain⟨⟨h1,h2,h3,h4,h5,h6,h7⟩,h8,h9⟩:=q;omega
 exact absurd rfl h
def pC {x:Nat} {i k:Int} (hk:k≠0) (h:dx x i k=0):0<=i/\i<Hd.tp x+Hd.tf x+Hd.to x/\i<255:=by
 unfold dx at h;split at h
 .next q=>
  have:=uH (p:=Hd.tp x) (f:=Hd.tf x) (o:=Hd.to x) (i:=i) (by rw[q];exact hk);omega
 split at h<;>omega
variable {P:Program}{ops:Array Oper}{Q:Exit->Act->World->Prop}{md:Region.Mode}
def nB (md:Region.Mode) (ops:Array Oper) (i:Nat):List Nat:=match ops[i]? with
 |none=> []
 |some o=>(o.after.toList.filter λe=>Region.binds md e).map λe=>e.on
def GN (f:Nat->Bool) (i:Nat):Nat->Bool:=λj=>if j=i then true else f j
def iG (f:Nat->Bool) (i:Nat):GN f i i=true:=b9 rfl
def ao {f:Nat->Bool} {i j:Nat} (h:j≠i):GN f i j=f j:=b_ h
def deps_ready {listed:Array Bool} {i:Nat} (h:i∈Region.ready md ops listed):∀d∈nB md ops i,listed.getD d false=true:=λd hd=>by
 obtain⟨-,o,ho,hall⟩:=Vj.1 h;unfold nB at hd;rw[ho] at hd;obtain⟨e,he,rfl⟩:=mt.1 hd;rw[GS] at he;exact hall e (by simpa using he.1) he.2
def ready_of {listed:Array Bool} {i:Nat} (hi:i<ops.size) (hu:listed.getD i true=false) (h:∀d∈nB md ops i,listed.getD d false=true):i∈Region.ready md ops listed:=by refine Vj.2 ⟨hu,ops[i],ab8 hi,λe he hb=>h _ ?_⟩;unfold nB;rw[ab8 hi];exact mt.2 ⟨e,GS.2 ⟨by simpa using he,hb⟩,rfl⟩
def CK (md:Region.Mode) (ops:Array Oper):Bool:=(List.range ops.size).all λi=>(nB md ops i).all λd=>decide (d<i)
def vf (h:CK md ops=true) {i d:Nat} (hi:i<ops.size) (hd:d∈nB md ops i):d<i:=by unfold CK at h;rw[v_] at h;have:=h i (B_.2 hi);rw[v_] at this;exact Nf (this d hd)
def rD (ht:CK md ops=true) {listed:Array Bool} (hs:listed.size=ops.size) (h:Region.ready md ops listed=[]):∀n,∀j,j<n->j<ops.size->listed.getD j false=true:=by
 intro n;induction n with
 |zero=>intro j hj;omega
 |succ n ih=>
  intro j hj SM;cases hq:listed.getD j false with
  |true=>rfl
  |false=>
   have hu:listed.getD j true=false:=(by have h1:j<listed.size:=e9;simp[h1] at hq ⊢;exact hq);have hr:=ready_of (md:=md) (ops:=ops) SM hu (λd hd=>ih d (by have:=vf ht SM hd;omega) (by have:=vf ht SM hd;omega));rw[h] at hr;cases hr
def vn {J:(Nat->Bool)->Act->World->Prop} (ht:CK md ops=true) (hend:∀f a w,J f a w->(∀j,j<ops.size->f j=true)->Q .normal a w) (uE:∀i o f a w,ops[i]?=some o->J f a w->f i=false->(∀d∈nB md ops i,f d=true)->wpOp P ops Q i (J (GN f i)) a w): ∀(fuel:Nat) (listed:Array Bool) (a:Act) (w:World) (U:List Nat),listed.size=ops.size->U.length<=fuel->(∀j,j<ops.size->listed.getD j true=false->j∈U)->J (λj=>listed.getD j false) a w->wpAny P md ops Q fuel listed a w
 |0,listed,a,w,U,hs,hU,hm,hJ=>by obtain rfl:U=[]:=M' e9;have hr:Region.ready md ops listed=[]:=(by rw[List.eq_nil_iff_forall_not_mem];intro j hj;obtain⟨h1,o,ho,-⟩:=Vj.1 hj;have:=hm j (J'.1 ho).1 h1;cases this);exact⟨hr,hend _ _ _ hJ λj hj=>rD ht hs hr (j+1) j e9 hj⟩
 |fuel+1,listed,a,w,U,hs,hU,hm,hJ=>by refine⟨λhr=>hend _ _ _ hJ λj hj=>rD ht hs hr (j+1) j e9 hj,λi hi=>?_⟩;obtain⟨h1,o,ho,-⟩:=Vj.1 hi;have fY:i<ops.size:=(J'.1 ho).1;have hf:(λj=>listed.getD j false) i=false:=(by have:i<listed.size:=e9;simp[this] at h1 ⊢;exact h1);refine af2 (λa' w' NB=>?_) (uE i o _ a w ho hJ hf (deps_ready hi));have e:(λj=>(listed.setIfInBounds i true).getD j false)=GN (λj=>listed.getD j false) i:=(by funext j;by_cases q:j=i;subst q;rw[iG];have:j<listed.size:=e9;simp[this];rw[ao q];exact FS false (λz=>q z.symm));refine vn ht hend uE fuel _ a' w' (U.erase i) (by simpa using hs) ?_ (λj hj hu=>?_) (by rw[e];exact NB);rw[List.length_erase_of_mem (hm i fY h1)];omega;by_cases q:j=i;subst q;have:j<listed.size:=e9;simp[this] at hu;rw[FS true (λz=>q z.symm)] at hu;exact (List.mem_erase_of_ne q).2 (hm j hj hu)
def wp_region_inv {id:Nat} {a:Act} {w:World} (J:(Nat->Bool)->Act->World->Prop) (hm:P.follows .mixedOrders=true) (ht:CK .any ops=true) (h0:J (λ_=>false) a w.drew) (uE:∀i o f a w,ops[i]?=some o->J f a w->f i=false->(∀d∈nB .any ops i,f d=true)->wpOp P ops Q i (J (GN f i)) a w) (hend:∀f a w,J f a w->(∀j,j<ops.size->f j=true)->Q .normal a w):(Code.region id ops true).wp P Q a w:=by
 refine ai9 hm (vn ht hend uE ops.size _ a _ (List.range ops.size) qr qr (λj hj _=>B_.2 hj) ?_);have e:(λj=>(Array.replicate ops.size false).getD j false)=λ_=>false:=by funext j;simp[Array.getD]
 rw[e];exact h0
def wp_region_invA {id:Nat} {a:Act} {w:World} (J:Act->(Nat->Bool)->Act->World->Prop) (hm:P.follows .mixedOrders=true) (ht:CK .any ops=true) (h0:J a (λ_=>false) a w.drew) (uE:∀i f a' w,i<ops.size->J a f a' w->f i=false->(∀d∈nB .any ops i,f d=true)->wpOp P ops Q i (J a (GN f i)) a' w) (hend:∀f a' w,J a f a' w->(∀j,j<ops.size->f j=true)->Q .normal a' w):(Code.region id ops true).wp P Q a w:=wp_region_inv (J a) hm ht h0 (λi o f a' w ho hj hf hd=>uE i f a' w (J'.1 ho).1 hj hf hd) hend
def aB {f:Nat->Bool} {p:Prop} {i k:Nat} (h:f k=true->p) (hne:k≠i:=by decide):GN f i k=true->p:=λq=>h (by rw[ao hne] at q;exact q)
def WC {f:Nat->Bool} (j i:Nat) (h:j≠i:=by decide):GN f i j=f j:=ao h
variable {l n:Nat}
def lD (ops:Array Oper):Bool:=ops.toList.all λo=>match o.op with
 |.defer _=>false
 |_=>true
def noDefer_spec (h:lD ops=true) {i:Nat} {o:Oper} (ho:ops[i]?=some o) (c:_):o.op≠ .defer c:=λe=>by
 unfold lD at h;rw[v_] at h;have:=h o (by simpa using Array.mem_of_getElem? ho);rw[e] at this;cases this
def wpOpIn_of_wide (hno:¬LetsOut Q) (hd:lD ops=true) {i:Nat} {K K':Act->World->Prop} {a:Act} {w:World} (hK:∀a w,K a w->K' a w) (h:wpOp P ops Q i K a w):wpOpIn (Fence.wide.inRound l) n P ops Q i K' a w:=by
 unfold wpOp at h;unfold wpOpIn;cases ho:ops[i]? with
 |none=>
  rw[ho] at h;exact hK _ _ h
 |some o=>
  rw[ho] at h;simp only at h ⊢;split
  .next hw=>
   rw[b9 hw] at h;have h:=h.resolve_right λq=>hno q.2;refine⟨λ_ _=>trivial,?_⟩;rw[show (Fence.wide.inRound l).round=some l from rfl,Oper.semAt_some l a.eval o (noDefer_spec hd ho)];unfold Oper.wp at h;generalize (execOp a.eval o).run P w=r at *;cases r with
   |ok x w'=>
    cases x with
    |value v=>exact hK _ _ h
    |skip=>exact hK _ _ h
    |defer d=>exact hK _ _ h
    |enter f args=>
     refine⟨(λq=>Bool.noConfusion (show false=true from q)),CallsIn.inRound l (u_.2 (Calls.mono h ?_))⟩;intro e Mi he;cases e with
     |returned v=>exact hK _ _ he
     |panicked ch=>exact he
     |outgrown=>exact he
    |row r args=>
     refine⟨(λq=>Bool.noConfusion (show false=true from q)),λc cs _=>?_⟩;obtain⟨v,w',r,s⟩:=h c cs;exact⟨v,w',hK _ _ r,stepsIn_wide.2 s⟩
    |_=>exact (show False from h).elim
   |halt x w'=>cases x<;>simp only[Oper.upon,Oper.uponIn] at h ⊢ <;>exact h
  next hw=>
  rw[b_ hw] at h;exact⟨λ_ _=>trivial,hK _ _ h⟩
def gW (hno:¬LetsOut Q) (hd:lD ops=true):∀(fuel:Nat) (listed:Array Bool) (a:Act) (w:World),wpAny P md ops Q fuel listed a w->wpAnyIn (Fence.wide.inRound l) n P md ops Q fuel listed a w
 |0,_,_,_,h=>h
 |fuel+1,_,_,_,h=>⟨h.1,λi hi=>wpOpIn_of_wide hno hd (λa w=>gW hno hd fuel _ a w) (h.2 i hi)⟩
def wpIn_region_heldL {S:World->Prop} {id:Nat} {a:Act} {w:World} (hm:P.follows .mixedOrders=true) (hno:¬LetsOut Q) (hd:lD ops=true) (hS:S w.drew) (h:S w.drew->wpAnyL P .any ops Q S ops.size (Array.replicate ops.size false) a w.drew):(Code.region id ops true).wpIn (Fence.wide.inRound l) n P Q a w:=wpIn_region_any hm (gW hno hd _ _ _ _ (mS _ _ _ _ (h hS)))
def wpIn_region_heldH {S:World->Prop} {id:Nat} {a:Act} {w:World} (hm:P.follows .mixedOrders=true) (hno:¬LetsOut Q) (hd:lD ops=true) (hS:S w.drew) (h:S w.drew->wpAnyH P .any ops Q S ops.size (Array.replicate ops.size false) a w.drew):(Code.region id ops true).wpIn (Fence.wide.inRound l) n P Q a w:=wpIn_region_any hm (gW hno hd _ _ _ _ (wpAny_of_held _ _ _ _ (h hS)))
def bD:Nat:=18446744073709551616
def gN:bD=18446744073709551616:=rfl
def fJ:0<bD:=by rw[gN];omega
def limb (N i:Nat):Nat:=N/bD^i%bD
def mC (N V i:Nat):Nat:=(N%bD^i+V%bD^i)/bD^i
variable {N V M i j at_:Nat}
def eD (N i:Nat):limb N i<bD:=AC _ fJ
def cz (i:Nat):0<bD^i:=Nat.pow_pos fJ
def ny (N V:Nat):mC N V 0=0:=by unfold mC;rw[Nat.pow_zero,Nat.mod_one,Nat.mod_one]
def px (N V i:Nat):mC N V i<=1:=by
 unfold mC;have h1:=AC N (cz i);have h2:=AC V (cz i);have:(N%bD^i+V%bD^i)/bD^i<2:=by rw[j_ (cz i)];omega
 omega
def nZ (N i:Nat):N%bD^(i+1)=N%bD^i+bD^i*limb N i:=by unfold limb;rw[ST,Nat.mod_mul]
def gI (N V i:Nat):limb (N+V) i=(limb N i+limb V i+mC N V i)%bD:=by
 have e:(N+V)/bD^i=N/bD^i+V/bD^i+mC N V i:=by
  unfold mC;rw[Nat.add_div (cz i)];congr 1;have h1:=AC N (cz i);have h2:=AC V (cz i);split
  .next h=>
   have h3:(N%bD^i+V%bD^i)/bD^i<2:=(by rw[j_ (cz i)];omega);have h4:1<=(N%bD^i+V%bD^i)/bD^i:=(by rw[Cq (cz i)];omega);omega
  next h=>
  rw[LE e9]
 unfold limb;rw[e];generalize N/bD^i=a;generalize V/bD^i=b;generalize mC N V i=c;rw[gN];omega
def jf (N V i:Nat):mC N V (i+1)=(limb N i+limb V i+mC N V i)/bD:=by
 unfold mC;rw[nZ,nZ,ST,<-Nat.div_div_eq_div_mul];congr 1;have e:N%bD^i+bD^i*limb N i+(V%bD^i+bD^i*limb V i)=(N%bD^i+V%bD^i)+bD^i*(limb N i+limb V i):=by rw[ad7];omega
 rw[e,ah5 _ _ (cz i),WF]
def sH (N:Nat) {i n:Nat} (h:i<n):limb (N%bD^n) i=limb N i:=by
 unfold limb;obtain⟨d,rfl⟩:∃d,n=i+1+d:=⟨n-i-1,e9⟩;have e:bD^(i+1+d)=bD^i*(bD*bD^d):=by rw[ak3,ST,Nat.mul_assoc]
 rw[e,Nat.mod_mul_right_div_self,Nat.mod_mul_right_mod]
def pH {N i:Nat} (h:N<bD^i):limb N i=0:=by unfold limb;rw[LE h,Nat.zero_mod]
def kx (at_ lo hi:Nat):Nat:=(lo+bD*hi)*bD^at_
def lr {lo hi:Nat} (h:i<at_):limb (kx at_ lo hi) i=0:=by
 unfold limb kx;obtain⟨d,rfl⟩:∃d,at_=i+1+d:=⟨at_-i-1,e9⟩;have e:(lo+bD*hi)*bD^(i+1+d)=bD^i*(bD*((lo+bD*hi)*bD^d)):=by rw[ak3,ST];simp only[GP,Nat.mul_left_comm,Nat.mul_assoc]
 rw[e,Nat.mul_div_cancel_left _ (cz i),Nat.mul_mod_right]
def DE {lo hi:Nat} (hl:lo<bD):limb (kx at_ lo hi) at_=lo:=by unfold limb kx;rw[aa0 _ (cz at_),Nat.add_mul_mod_self_left,wi hl]
def xq {lo hi:Nat} (hl:lo<bD) (hh:hi<bD):limb (kx at_ lo hi) (at_+1)=hi:=by unfold limb kx;rw[ST,<-Nat.div_div_eq_div_mul,aa0 _ (cz at_),ah5 _ _ fJ,LE hl,C',wi hh]
def nj {lo hi:Nat} (hl:lo<bD) (hh:hi<bD) (h:at_+2<=i):limb (kx at_ lo hi) i=0:=by
 refine pH ?_;unfold kx;have h1:lo+bD*hi<bD^2:=by have e:bD^2=bD*bD:=(by rw[ST,Nat.pow_one]);have h3:bD*hi+bD<=bD*bD:=(by rw[<-Nat.mul_succ];exact ai0 _ hh);omega
 have h2:bD^(at_+2)<=bD^i:=pl z9 h;rw[ak3,GP] at h2;exact x_ (Nat.mul_lt_mul_of_pos_right h1 (cz at_)) h2
def kF (h:∀j,j<i->limb V j=0):∀k,k<=i->mC N V k=0
 |0,_=>ny N V
 |k+1,hk=>by rw[jf,h k e9,kF h k e9,sc];exact LE (eD N k)
def limb_rest (hc:mC N V i=0) (h:∀j,i<=j->limb V j=0):∀d,mC N V (i+d)=0:=λd=>by
 induction d with
 |zero=>rw[sc];exact hc
 |succ d ih=>
  rw[<-Nat.add_assoc,jf,h (i+d) e9,ih,sc];exact LE (eD _ _)
def sI (hc:mC N V i=0) (h:∀j,i<=j->limb V j=0) (d:Nat):limb (N+V) (i+d)=limb N (i+d):=by rw[gI,h (i+d) e9,limb_rest hc h d,sc];exact wi (eD _ _)
def sub_word {x y c n:Nat} (hx:x<bD) (hy:y<bD) (hc:c<=1) (hn:(x+y+c)%bD=n):x=(n+bD-y-c)%bD/\(x+y+c)/bD=if n<y+c then 1 else 0:=by rw[gN] at *;constructor;omega;split<;>omega
end Go.Proofs.YtmdgfpeglgpiiaaGreatDoor

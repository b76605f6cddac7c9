/- Part 1 of the proof of FlowWhy: its plain laws and the walks of its functions. -/
import Derived.WalkKit
import Derived.ProofKit
import Derived.Deep.Quiet
import Derived.Laws.AppendOwn
import Derived.Laws.CopyRow
import Derived.Laws.Tables
import Derived.Deep.MidRow
import Derived.Great.BuildSlice
import Derived.OrdersHeld
import Derived.Laws.CopyOwn
import Derived.WalkLawsBesides
import Derived.Laws.StructEq
import Derived.Laws.Rows
import Derived.Laws.Strings
import Derived.Laws.Concat
import Derived.Lib.AppendStr
import Derived.Laws.BytesArg
import Derived.Laws.MakeOwn
import Derived.MapKept
import Derived.Laws.IdiomRangeMap
import Derived.Scope
import Derived.ArgAppend
import Derived.OpenShut
import Derived.ChangeSlices
import Derived.WideShapes
import Derived.Carry
import Derived.Deep.Strs
import Derived.Test.YtlhjdflgjbkpmaaGreatDoorProg
import Derived.Tactics
import Derived.Tactics2
import Derived.Defers
import Derived.Laws.Pointers
import Derived.Laws.LoneSync
import Derived.RegionTactic
import Derived.RegionCalls
import Derived.ChangeAlike
import Derived.Ground.NamesProg
import Derived.Shelf.Slices.In.SortNone
import Derived.Sort.EveryDepth
import Derived.Sort.OwnSortedInts
import Derived.Test.YtlhjdflgjbkpmaaGreatDoorCards
import Derived.Test.YtlhjdflgjbkpmaaGreatDoorTie
import Derived.Deep.DeepHandedRow
import Derived.Lib.LaidTab
set_option linter.all false
namespace Go.Proofs.YtlhjdflgjbkpmaaGreatDoor
section
open Go Go.RowKit Go.Proofs.Tryz
def bH:=@List.mem_append_right
def aK:=@congrArg
def bx:=@underlying3
def bD:=@underlying99
def bS:=@underlying86
def aW:=@if_neg
def eV:=@List.getD_eq_getElem?_getD
def aY:=@if_pos
def ed:=@List.length_append
def dH:=@List.append_assoc
def aP:=@sizeOf3
def bI:=@underlying37
def bU:=@underlying46
def cL:=@Bool.and_eq_true
def dI:=@List.mem_append_left
def eF:=@List.getElem?_eq_getElem
def ct:=@underlying111
def ey:=@List.length_singleton
def ef:=@List.length_take
def eG:=@List.length_cons
def c8:=@List.mem_cons
def dg:=@underlying100
def gA:=@List.length_map
def gd:=@List.mem_cons_of_mem
def eC:=@Int.toNat_natCast
def eD:=@decide_eq_true_eq
def dh:=@underlying31
def di:=@underlying54
def dw:=@underlying56
def dx:=@underlying88
def gm:=@Int.toNat_of_nonneg
def eR:=@List.nil_append
def gG:=@List.mem_singleton
def dO:=@underlying35
def fh:=@List.mem_append
def jg:=@List.take_of_length_le
def gB:=@List.cons_append
def dZ:=@underlying83
def ec:=@underlying90
def cQ:=@sizeOf35
def gP:=@List.map_append
def hG:=@decide_eq_false
def eu:=@Nat.le_refl
def jd:=@List.set_cons_zero
def fU:=@underlying222
def gX:=@Bool.eq_iff_iff
def n5:=@List.setIfInBounds_toArray
def fw:=@underlying44
def iQ:=@List.all_eq_true
def n7:=@List.getElem?_eq_some_iff
def gQ:=@Nat.zero_add
def fN:=@List.mem_map
def gY:=@decide_eq_true
def dJ:=@sizeOf99
def lX:=@List.mem_of_getElem?
def ia:=@underlying103
def gH:=@underlying25
def lf:=@List.set_cons_succ
def iy:=@underlying109
def ic:=@underlying34
def lY:=@List.pairwise_cons
def ot:=@List.getElem?_eq_none
def jh:=@underlying128
def iz:=@underlying9
def qB:=@Nat.min_eq_left
def je:=@underlying22
def kP:=@run_underlying
def fl:=@sizeOf37
def mG:=@List.append_nil
def kf:=@Nat.le_trans
def kg:=@underlying26
def xe:=@Array.getD_eq_getD_getElem?
def xf:=@List.perm_append_comm_assoc
def n8:=@List.length_set
def xg:=@decide_eq_false_iff_not
def sr:=@Nat.mul_le_mul_right
def kQ:=@underlying39
def kR:=@underlying28
def lZ:=@List.map_cons
def Gn:=@List.flatMap_append
def qC:=@List.getElem?_map
def mH:=@underlying105
def m7:=@underlying220
def l6:=@underlying23
def ou:=@List.mem_range
def qD:=@List.getElem_mem
def uK:=@List.mem_of_mem_take
def vp:=@List.Perm.append_left
def jB:=@sizeOf100
def m8:=@underlying40
def ov:=@underlying102
def uL:=@Bool.false_eq_true
def EA:=@Array.getElem?_setIfInBounds
def pN:=@underlying101
def uM:=@List.flatMap_cons
def yK:=@List.length_drop
def jC:=@sizeOf54
def vx:=@List.getElem?_take
def o8:=@underlying63
def o9:=@underlying98
def zK:=@List.eq_nil_of_length_eq_zero
def l7:=@Bool.true_and
def sF:=@List.mem_of_mem_drop
def l8:=@underlying193
def qh:=@List.getElem?_set
def vz:=@List.size_toArray
def ow:=@List.nodup_cons
def rh:=@BitVec.getLsbD_and
def rj:=@List.mem_cons_self
def uq:=@List.perm_append_comm
def pq:=@List.foldl_cons
def nP:=@underlying212
def lF:=@Nat.add_mul
def xP:=@List.filter_cons_of_pos
def ur:=@List.getElem_of_mem
def mN:=@underlying93
def qj:=@Bool.or_eq_true
def zL:=@List.getElem?_append_left
def E7:=@List.take_succ_eq_append_getElem
def vA:=@List.mem_iff_getElem
def l9:=@Nat.mul_one
def mc:=@Int.le_refl
def iV:=@sizeOf86
def rp:=@Option.map_some
def Ca:=@Array.getElem?_eq_some_iff
def ji:=@sizeOf46
def zM:=@List.filter_cons_of_neg
def kB:=@sizeOf103
def uu:=@List.ext_getElem?
def nQ:=@Nat.zero_le
def rq:=@Bool.false_and
def sG:=@List.mem_filter
def jZ:=@Eq.trans
def E8:=@Array.length_toList
def E9:=@List.getElem?_append_right
def xQ:=@List.take_zero
def jj:=@call150
def ru:=@underlying117
def ry:=@underlying154
def qk:=@underlying42
def kV:=@sizeOf39
def zN:=@List.getElem?_range
def HM:=@List.take_succ_cons
def xR:=@Result.andThen_ok
def xS:=@List.take_add_one
def xT:=@List.foldl_append
def uv:=@DataW.trod_int
def vB:=@List.range_succ
def kC:=@sizeOf9
def sH:=@underlying84
def sI:=@underlying58
def vC:=@List.take_left
def xU:=@List.length_nil
def HN:=@List.mem_take_iff_getElem
def Fa:=@BitVec.eq_of_toNat_eq
def Lk:=@List.take_append_of_le_length
def Ll:=@List.drop_append_of_le_length
def uw:=@Sem.run_bind
def zO:=@List.getElem_set
def Cb:=@List.getElem?_drop
def Lm:=@Bool.false_ne_true
def ux:=@underlying91
def pu:=@sizeOf109
def Fb:=@List.contains_eq_mem
def Fe:=@List.pairwise_append
def xV:=@Nat.mul_le_mul
def Cc:=@Bool.not_eq_true'
def ox:=@sizeOf22
def qm:=@sizeOf220
def xW:=@Nat.add_assoc
def Cd:=@List.filter_cons
def pw:=@sizeOf83
def px:=@sizeOf90
def HO:=@List.getElem?_toArray
def HP:=@List.take_append_drop
def Ln:=@Bool.and_false
def nR:=@call149
def Lo:=@Classical.byContradiction
def Lp:=@Decidable.byContradiction
def Lq:=@BitVec.toNat_ushiftRight
def Rp:=@List.eq_nil_iff_forall_not_mem
def HQ:=@Decidable.of_not_not
def qn:=@sizeOf88
def qo:=@sizeOf26
def oy:=@sizeOf4
def zP:=@underlying107
def zQ:=@underlying156
def HR:=@List.map_congr_left
def Ff:=@List.any_eq_true
def Ce:=@List.take_take
def Fg:=@List.perm_middle
def Cf:=@Int.le_add_one
def xX:=@cell_of_row
def Lr:=@List.drop_of_length_le
def xY:=@underlying4
def zR:=@Code.wp_mono
def zS:=@underlying59
def Ls:=@List.sizeOf_lt_of_mem
def Fh:=@List.count_cons
def Cg:=@List.map_take
def Ch:=@underlying119
def HS:=@List.pairwise_map
def Rq:=@List.pairwise_iff_getElem
def Rr:=@List.drop_eq_getElem_cons
def XL:=@List.set_eq_take_append_cons_drop
def vD:=@sizeOf107
def Fi:=@List.drop_left
def HT:=@List.take_length
def HU:=@List.mem_nil_iff
def Ci:=@List.map_nil
def uy:=@sizeOf84
def uz:=@sizeOf23
def uA:=@sizeOf98
def Lt:=@List.drop_succ_cons
def Lu:=@Int.sub_lt_sub_left
def Fj:=@List.sum_cons
def Fk:=@underlying233
def Lv:=@BitVec.toNat_ofInt
def Lw:=@BitVec.getLsbD_not
def Lx:=@List.map_singleton
def Lz:=@List.filter_append
def xZ:=@sizeOf102
def LA:=@Int.toNat_lt_toNat
def Rs:=@BitVec.toNat_shiftLeft
def Rt:=@List.length_pos_of_mem
def vE:=@sizeOf56
def vF:=@sizeOf40
def LB:=@of_decide_eq_true
def LC:=@DataW.trod_string
def Ru:=@Decidable.not_not
def LD:=@Int.sub_pos_of_lt
def uB:=@if_true
def Rv:=@List.length_replicate
def Fl:=@underlying72
def uC:=@call159
def XM:=@List.take_length_add_append
def zT:=@false_iff
def zU:=@sizeOf105
def zV:=@sizeOf101
def Rw:=@Nat.pow_le_pow_right
def Rx:=@BitVec.getLsbD_ofNat
def x7:=@if_false
def Cj:=@beq_iff_eq
def LF:=@List.mem_toArray
def x8:=@sizeOf58
def x9:=@sizeOf34
def HV:=@underlying143
def Ry:=@BitVec.getLsbD_zero
def RA:=@List.Sublist.append
def XN:=@Nat.shiftRight_eq_div_pow
def XO:=@List.sublist_append_right
def LG:=@List.cons.injEq
def RB:=@Nat.lt_of_lt_of_le
def HW:=@Addr.add_mid
def XP:=@List.length_erase_of_mem
def RC:=@Nat.eq_zero_or_pos
def XQ:=@Array.size_setIfInBounds
def zX:=@sizeOf25
def LH:=@List.drop_zero
def XR:=@List.getElem?_replicate
def XS:=@BitVec.eq_of_getLsbD_eq
def RD:=@List.length_range
def XT:=@Array.getElem?_eq_none
def XU:=@List.pairwise_lt_range
def XV:=@List.range_succ_eq_map
def XW:=@Nat.testBit_lt_two_pow
def LI:=@underlying210
def LJ:=@underlying115
def LK:=@underlying159
def RE:=@Option.bind_some
def RF:=@BitVec.toNat_sub
def RG:=@Nat.shiftLeft_eq
def RH:=@decide_eq_decide
def afD:=@Nat.testBit_eq_decide_div_mod_eq
def Ck:=@or_false
def RI:=@Option.getD_some
def Cl:=@sizeOf91
def XX:=@List.mem_iff_getElem?
def RJ:=@run_equalIn_int
def LL:=@Nat.add_zero
def afE:=@Array.eq_empty_of_size_eq_zero
def LM:=@Int.le_trans
def LN:=@underlying65
def XY:=@Array.getElem?_push
def RK:=@List.drop_drop
def RM:=@List.Perm.refl
def Cm:=@Iff.rfl
def Co:=@call154
def Fm:=@sizeOf63
def LO:=@Int.lt_succ
def XZ:=@BitVec.toNat_ofNat
def X0:=@Nat.lt_or_gt_of_ne
def afF:=@Nat.testBit_two_pow_sub_one
def afG:=@Nat.testBit_two_pow_mul_add
def X3:=@Array.ext_getElem?
def X4:=@List.append_of_mem
def HX:=@sizeOf143
def HY:=@sizeOf154
def zY:=@call44
def X5:=@Int.toNat_le_toNat
def afH:=@Int.tdiv_eq_ediv_of_nonneg
def afI:=@BitVec.getLsbD_ushiftRight
def RN:=@underlying162
def RO:=@underlying135
def RP:=@underlying114
def X6:=@Option.some.injEq
def X7:=@run_storeCells_at
def X8:=@BitVec.getLsbD_or
def X9:=@not_false_eq_true
def Ya:=@Int.lt_trichotomy
def Yb:=@List.any_eq_false
def Yc:=@List.count_append
def afJ:=@Array.getElem?_eq_getElem
def Fp:=@Ne.symm
def Fq:=@call128
def afK:=@Array.getElem?_replicate
def Yd:=@BitVec.toNat_inj
def Ye:=@Nat.min_eq_right
def RQ:=@Nat.sub_self
def RR:=@Nat.zero_mul
def RT:=@List.map_map
def Yf:=@List.flatMap_map
def Yg:=@List.ext_getElem
def afL:=@List.Pairwise.imp_of_mem
def afM:=@BitVec.getLsbD_shiftLeft
def afN:=@List.sublist_append_left
def HZ:=@sizeOf42
def H6:=@sizeOf44
def Yh:=@Nat.div_add_mod
def Yi:=@run_eqGuard_agg
def Yj:=@and_congr_right
def Yk:=@Int.min_eq_left
def Yl:=@List.headD_cons
def LP:=@sizeOf233
def LQ:=@sizeOf128
def RU:=@Nat.one_mul
def RV:=@wpAnyH_take
def Ym:=@List.range_add
def H7:=@call179
def H8:=@call199
def H9:=@call144
def RW:=@Array.ext'
def Yn:=@wp_region_any
def Yo:=@wpAny_of_held
def Yp:=@Bool.and_true
def Yq:=@List.map_drop
def Yr:=@Prod.mk.injEq
def Ys:=@run_call_load
def Yt:=@underlying199
def Yu:=@underlying139
def O:=@rfl
theorem J{p:Prop}(h:p:=by omega):p:=h
theorem aX{p:Prop}(h:p:=by (try dsimp only);omega):p:=h
theorem aQ{p:Prop}(h:p:=by kernel_rfl):p:=h
theorem az{p:Prop}(h:p:=by decide):p:=h
theorem bz{p:Prop}(h:p:=by conv=>lhs;whnf):p:=h
theorem xh{p:Prop}(h:p:=by have:=(fW hr h0 ‹k<_› EB ‹¬(List.getD l k.toNat bG).op=1› ‹¬(List.getD l k.toNat bG).op=2›);omega):p:=h
theorem aM{p:Prop}(h:p:=by rfl):p:=h
theorem aJ{p:Prop}(h:p:=by simp):p:=h
theorem iA{p:Prop}(h:p:=by simp only[maxLen];omega):p:=h
theorem Uu{p:Prop}(h:p:=by have afO:=PJ ‹mJ s.sh=true› h0 (show k<s.sh.a6.length by omega);rw[iE]at afO;have:=(pO afO).1;have:(s.a6.getD k.toNat iB).fc.names=(s.a6.getD k.toNat iB).names:=rfl;omega):p:=h
theorem gZ{p:Prop}(h:p:=by simp[Value.oneCell']):p:=h
theorem Cp{p:Prop}(h:p:=by simp only[maxLen];((show 0+((st.length:Int)-(l.getD k.toNat bG).n).toNat+1<=_;omega))):p:=h
theorem Cq{p:Prop}(h:p:=by show(0+((st.length:Int)-(l.getD k.toNat bG).n).toNat+1)*_<=_;omega):p:=h
theorem fT{p:Prop}(h:p:=by simp[maxLen]):p:=h
theorem py{p:Prop}(h:p:=by simp only[gA,maxLen];omega):p:=h
theorem jJ{p:Prop}(h:p:=by rw[Gp];rfl):p:=h
theorem iW{p:Prop}(h:p:=by simp;omega):p:=h
theorem Ia{p:Prop}(h:p:=by rw[DI cY,ed,ef,qB J,Gn,gQ];rfl):p:=h
theorem jK{p:Prop}(h:p:=by assumption):p:=h
theorem LR{p:Prop}(h:p:=by show _<(lS _ _ _ _ _).toArray.size;rw[vz,afP];decide):p:=h
theorem RX{p:Prop}(h:p:=by show((st.length:Int)-(l.getD k.toNat bG).n).toNat+1<=_;simp only[maxLen];omega):p:=h
theorem pz{p:Prop}(h:p:=by simpa using hu):p:=h
theorem Cr{p:Prop}(h:p:=by rw[afQ i0 hi];simp;omega):p:=h
theorem ya{p:Prop}(h:p:=by simp only[eG];omega):p:=h
theorem RY{p:Prop}(h:p:=by show(((st.length:Int)-(l.getD k.toNat bG).n).toNat+1)*_<=_;omega):p:=h
theorem Cs{p:Prop}(h:p:=by rw[Yv v0];simp[*]):p:=h
theorem Cu{p:Prop}(h:p:=by rw[Yw v0];simp[*]):p:=h
theorem uD{p:Prop}(h:p:=by first|rfl|omega):p:=h
theorem RZ{p:Prop}(h:p:=by rw[Gp];have hln:=(n9 ‹mJ s.sh=true›).1;omega):p:=h
theorem yb{p:Prop}(h:p:=by rw[Gp];omega):p:=h
theorem R2{p:Prop}(h:p:=by rw[DI cY,ed,ef,qB J,Gn];rfl):p:=h
theorem R3{p:Prop}(h:p:=by first|rfl|(simp only[dH];done)|(simp only[dH];rfl)):p:=h
theorem Fs{p:Prop}(h:p:=by rw[adb k0];simp_all):p:=h
theorem R4{p:Prop}(h:p:=by have:=(hpl.at h0 ‹k<_› ‹Ft _=true›).1;omega):p:=h
theorem Ib{p:Prop}(h:p:=by simp only[oT,eG];omega):p:=h
theorem Cv{p:Prop}(h:p:=by show min _ _=_;omega):p:=h
theorem R5{p:Prop}(h:p:=by have hln:=(n9 ‹mJ s.sh=true›).1;omega):p:=h
theorem Ic{p:Prop}(h:p:=by rw[iE];exact nt ‹_›):p:=h
theorem R6{p:Prop}(h:p:=by simp only[dH,HM,xQ,gB,eR];done):p:=h
theorem LS{p:Prop}(h:p:=by simpa using‹(!cS _ _)=true›):p:=h
theorem R7{p:Prop}(h:p:=by show ls.length+1<=_;simp only[maxLen];omega):p:=h
theorem R8{p:Prop}(h:p:=by show gr.length+1<=_;simp only[maxLen];omega):p:=h
theorem Fu{p:Prop}(h:p:=by simp only[ed];omega):p:=h
theorem yc{p:Prop}(h:p:=by simpa using h):p:=h
theorem afR{p:Prop}(h:p:=by first|(rw[Ie j0 ‹j<_›,aY hqq];done)|(rw[Ie j0 ‹j<_›,aW hqq];done)|(rw[Ie j0 ‹j<_›,aW hqq];rfl)):p:=h
theorem R9{p:Prop}(h:p:=by have:=Uv hr hk ‹¬k<_› EB;omega):p:=h
theorem LU{p:Prop}(h:p:=by rw[hr];exact amb ‹_›):p:=h
theorem LV{p:Prop}(h:p:=by rw[LW,hG J,Ln]):p:=h
theorem LX{p:Prop}(h:p:=by simp[O8,Value.oneCell']):p:=h
theorem Ig{p:Prop}(h:p:=by rw[Ih];omega):p:=h
theorem Sa{p:Prop}(h:p:=by rw[Uw h0,gP,ed];rfl):p:=h
theorem Ii{p:Prop}(h:p:=by have:=hlc.dep;omega):p:=h
theorem zZ{p:Prop}(h:p:=by simp[undef]):p:=h
theorem rz{p:Prop}(h:p:=by simp[hx]):p:=h
theorem kD{p:Prop}(h:p:=by simp_all):p:=h
theorem z6{p:Prop}(h:p:=by simpa using hi):p:=h
theorem Ij{p:Prop}(h:p:=by rw[z7];omega):p:=h
theorem afS{p:Prop}(h:p:=by have hlc:=nt ‹(!jD (sJ s k))=true›;rw[jD,xg]at hlc;rw[uN,xg];omega):p:=h
theorem Sb{p:Prop}(h:p:=by show(ls.length+1)*_<=_;omega):p:=h
theorem Sd{p:Prop}(h:p:=by show(gr.length+1)*_<=_;omega):p:=h
theorem Se{p:Prop}(h:p:=by show(st.length+1)*_<=_;omega):p:=h
theorem Yx{p:Prop}(h:p:=by show gs.length+1<=_;simp only[maxLen];omega):p:=h
theorem Cw{p:Prop}(h:p:=by rw[hbt];rfl):p:=h
theorem Yy{p:Prop}(h:p:=by rw[half,show(k+1).toNat=k.toNat+1 by omega]):p:=h
theorem afT{p:Prop}(h:p:=by have:=(pP hf (i:=i.toNat) J).1;have:=(pP hf (i:=j.toNat) J).1;omega):p:=h
theorem mO{p:Prop}(h:p:=by cases h):p:=h
theorem Yz{p:Prop}(h:p:=by simp only[ed,ef,iF];omega):p:=h
theorem YA{p:Prop}(h:p:=by rw[KG h0 ‹k<_›,<-dH];done):p:=h
theorem Sf{p:Prop}(h:p:=by rw[PK J];rfl):p:=h
theorem afU{p:Prop}(h:p:=by rw[iE];intro q;have q2:(s.a6.getD k.toNat iB).kind=4:=q.2;omega):p:=h
theorem LY{p:Prop}(h:p:=by rw[yK];omega):p:=h
theorem Sg{p:Prop}(h:p:=by rw[h.llo];exact hp.1):p:=h
theorem Si{p:Prop}(h:p:=by rw[EC];exact Lm):p:=h
theorem Fv{p:Prop}(h:p:=by simpa using h1):p:=h
theorem YB{p:Prop}(h:p:=by rw[aws J];simp[HJ];done):p:=h
theorem afW{p:Prop}(h:p:=by rw[DI cY,ed,ef,qB J,Gn,gQ];done):p:=h
theorem YC{p:Prop}(h:p:=by show(gs.length+1)*_<=_;omega):p:=h
theorem YD{p:Prop}(h:p:=by unfold J9;((simp_all;done))):p:=h
theorem LZ{p:Prop}(h:p:=by simpa using c):p:=h
theorem YE{p:Prop}(h:p:=by simp only[gA,ef];omega):p:=h
theorem L3{p:Prop}(h:p:=by (simp;omega)):p:=h
theorem afX{p:Prop}(h:p:=by show¬(1<=f.names.length/\f.names.length<=64);omega):p:=h
theorem Ik{p:Prop}(h:p:=by simp;done):p:=h
theorem afY{p:Prop}(h:p:=by have:=afZ r _ _ ‹(jf r _ _).2=true›;omega):p:=h
theorem Sj{p:Prop}(h:p:=by rw[E8];omega):p:=h
theorem Sk{p:Prop}(h:p:=by rw[e0];exact zF):p:=h
theorem YF{p:Prop}(h:p:=by rw[qF];exact JH):p:=h
theorem Sm{p:Prop}(h:p:=by show 0<2;decide):p:=h
theorem Sn{p:Prop}(h:p:=by show 1<2;decide):p:=h
theorem af0{p:Prop}(h:p:=by simp only[maxLen];((show st.length+1<=_;omega))):p:=h
theorem af1{p:Prop}(h:p:=by have:=hui _ (dy (d:=0) h0 ‹k<_›);omega):p:=h
theorem af2{p:Prop}(h:p:=by rw[uO,nt ‹(!(rA r i j).2)=true›];simp):p:=h
theorem af3{p:Prop}(h:p:=by exact .inr (nf ‹(!rB s _ 1 x.bf)=false›)):p:=h
theorem af4{p:Prop}(h:p:=by have:leads (bB (cl::Be))=leads cl:=rfl;omega):p:=h
theorem af5{p:Prop}(h:p:=by rw[amc,show(i+1).toNat=i.toNat+1 by omega]):p:=h
theorem af6{p:Prop}(h:p:=by rw[uO,nt ‹(!(jf r i j).2)=true›];rfl):p:=h
theorem af7{p:Prop}(h:p:=by exact .inl ‹¬(List.getD x.code _ _).op=1›):p:=h
theorem YG{p:Prop}(h:p:=by simp only[gA];omega):p:=h
theorem af8{p:Prop}(h:p:=by show st.length+1<=_;simp only[maxLen];omega):p:=h
theorem af9{p:Prop}(h:p:=by rw[gA];(try rw[n8]);rw[Cx];omega):p:=h
theorem aa6{p:Prop}(h:p:=by have hb:=hbytes;simp only[gQ]at hb;omega):p:=h
theorem Sp{p:Prop}(h:p:=by rw[ha.eval];exact hc):p:=h
theorem aa7{p:Prop}(h:p:=by rw[Ux h0];exact Nat.le_add_right _ _):p:=h
theorem aa8{p:Prop}(h:p:=by exact .inl ‹¬(List.getD l _ _).op=1›):p:=h
theorem KH{p:Prop}(h:p:=by rw[hg];omega):p:=h
theorem aa9{p:Prop}(h:p:=by simp;rcases yd x y with e|e<;>omega):p:=h
theorem aba{p:Prop}(h:p:=by exact .inr (Ru.1 ‹¬¬(_/\_)›)):p:=h
theorem aR{p:Prop}(h:p:=by assumption):p:=h
end
end Go.Proofs.YtlhjdflgjbkpmaaGreatDoor
namespace Go.Proofs.YtlhjdflgjbkpmaaGreatDoor.E
section
open Go Go.RowKit
abbrev Env:=Nat->Value
def me(σ:Env)(d:Nat)(v:Value):Env:=fun i=>if i=d then v else σ i
def ev(σ:Env):Operand->Value
 | .tmp t=>σ t
 | .const v=>v
 | .global g=> .pointer (some ⟨g,0,none⟩)
 | .func f=> .func (.func f) #[] #[]
theorem arM(σ:Env)(d:Nat)(v:Value):me σ d v d=v:=by simp[me]
theorem YH(σ:Env){d i:Nat}(v:Value)(h:i≠d):me σ d v i=σ i:=by simp[me,h]
abbrev I(n:Int):Value:= .int .i64 n
abbrev U(x:BitVec 64):Value:= .int .u64 (x.toNat:Int)
abbrev B(b:Bool):Value:= .bool b
structure Is(n:Nat)(σ:Env)(a:Act):Prop where
 size:a.tmps.size=n
 get:∀t,a.tmps.getD t undef=σ t
 defers:a.defers=[]
section basics
variable{n:Nat}{σ:Env}{a:Act}
theorem Is.eval(h:Is n σ a):a.eval=ev σ:=by
 funext x
 cases x with
 |tmp t=>exact h.get t
 |const v=>rfl
 |global g=>rfl
 |func f=>rfl
theorem Is.put(h:Is n σ a){d:Nat}(hd:Nat.blt d n=true)(v:Value):Is n (me σ d v) (a.put (some d) v):=by
 have hd':d<n:=by simpa[Nat.blt_eq]using hd
 refine⟨(by simp[Act.put,h.size]),fun t=> ?_,(by simp[Act.put,h.defers])⟩
 have:=h.get t
 simp only[Act.put,me,xe]at*
 rw[EA]
 by_cases ht:d=t
 .subst ht;simp[h.size,hd']
 rw[aW ht,aW (fun e=>ht e.symm)];exact this
theorem Is.look(h:Is n σ a){t:Nat}{v:Value}(hv:σ t=v)(hne:v≠undef):a.tmps[t]?=some v:=by
 have:=h.get t
 rw[hv,xe]at this
 cases hx:a.tmps[t]? with
 |none=>simp[hx]at this;exact absurd this.symm hne
 |some u=>simp[hx]at this;rw[this]
end basics
abbrev K:=Env->World->Prop
def post(n:Nat)(k:K)(xs:List (Nat×K))(r:K):Exit->Act->World->Prop
 | .normal,a,w=>∃σ,Is n σ a/\k σ w
 | .exit id,a,w=>∃σ,Is n σ a/\∃q,xs.lookup id=some q/\q σ w
 | .ret,a,w=>∃σ,Is n σ a/\r σ w
 |_,_,_=>False
def CW(P:Program)(n:Nat)(c:Code)(k:K)(xs:List (Nat×K))(r:K)(σ:Env)(w:World):Prop:=
 ∀a,Is n σ a->c.wp P (post n k xs r) a w
def sw(n:Nat)(k:K):Exit->Act->World->Prop
 | .normal,a,w=>∃σ,Is n σ a/\k σ w
 |_,_,_=>False
def RL(P:Program)(n:Nat)(ops:Array Oper)(k:K)(l:List Oper)(σ:Env)(w:World):Prop:=
 ∀a,Is n σ a->wpList P ops (sw n k) l a w
section code
variable{P:Program}{n:Nat}{k:K}{xs:List (Nat×K)}{r:K}{σ:Env}{w:World}
theorem CW.mono{c:Code}{k':K}(h:CW P n c k xs r σ w)(hk:∀σ w,k σ w->k' σ w):CW P n c k' xs r σ w:=by
 intro a ha
 refine zR (fun e a' w' hq=> ?_) (h a ha)
 cases e with
 |normal=>obtain⟨σ',h1,h2⟩:=hq;exact⟨σ',h1,hk _ _ h2⟩
 |exit id=>exact hq
 |ret=>exact hq
 |goto l=>exact hq
 |panic c=>exact hq
 |outgrown=>exact hq
theorem an(h:k σ w):CW P n .skip k xs r σ w:=fun a ha=>wp_skip ⟨σ,ha,h⟩
theorem aj(h:r σ w):CW P n .ret k xs r σ w:=fun a ha=>wp_ret ⟨σ,ha,h⟩
theorem a8{id:Nat}{q:K}(hq:xs.lookup id=some q)(h:q σ w):CW P n (.exit id) k xs r σ w:=
 fun a ha=>wp_exit ⟨σ,ha,q,hq,h⟩
theorem ai{x y:Code}(h:CW P n x (fun σ w=>CW P n y k xs r σ w) xs r σ w):CW P n (.seq x y) k xs r σ w:=by
 intro a ha
 refine wp_seq (zR (fun e a' w' hq=> ?_) (h a ha))
 cases e with
 |normal=>obtain⟨σ',h1,h2⟩:=hq;exact h2 _ h1
 |exit id=>exact hq
 |ret=>exact hq
 |goto l=>exact hq
 |panic c=>exact hq
 |outgrown=>exact hq
theorem aga{x y:Code}(m:K)(h:CW P n x m xs r σ w)(h':∀σ w,m σ w->CW P n y k xs r σ w):CW P n (.seq x y) k xs r σ w:=
 ai (h.mono h')
theorem bX{c:Operand}{x y:Code}{t:Bool}(hc:ev σ c= .bool t)(ht:t=true->CW P n x k xs r σ w)
  (hf:t=false->CW P n y k xs r σ w):CW P n (.cond c x y) k xs r σ w:=
 fun a ha=>wp_cond_split Sp (fun h=>ht h a ha) (fun h=>hf h a ha)
theorem cz{c:Operand}{x y:Code}(hc:ev σ c= .bool true)(ht:CW P n x k xs r σ w):CW P n (.cond c x y) k xs r σ w:=
 fun a ha=>wp_cond_true Sp (ht a ha)
theorem cT{c:Operand}{x y:Code}(hc:ev σ c= .bool false)(hf:CW P n y k xs r σ w):CW P n (.cond c x y) k xs r σ w:=
 fun a ha=>wp_cond_false Sp (hf a ha)
theorem aG{c:Operand}{x y:Code}{p:Prop}[inst:Decidable p](hc:ev σ c= .bool (decide p))(ht:p->CW P n x k xs r σ w)
 (hf:¬p->CW P n y k xs r σ w):CW P n (.cond c x y) k xs r σ w:=by grind[bX]
theorem aA{id:Nat}{c:Code}(h:CW P n c k ((id,k)::xs) r σ w):CW P n (.block id c) k xs r σ w:=by
 intro a ha
 refine wp_block (zR (fun e a' w' hq=> ?_) (h a ha))
 cases e with
 |normal=>exact hq
 |exit id'=>
  obtain⟨σ',h1,q,h2,h3⟩:=hq
  simp only[Exit.inBlock]
  by_cases hid:id'=id
  .rw[aY hid];subst hid
   simp only[List.lookup_cons,beq_self_eq_true,X6]at h2
   subst h2;exact⟨σ',h1,h3⟩
  rw[aW hid]
  have hb:(id'==id)=false:=by simpa using hid
  simp only[List.lookup_cons,hb]at h2
  exact⟨σ',h1,q,h2,h3⟩
 |ret=>exact hq
 |goto l=>exact hq
 |panic c=>exact hq
 |outgrown=>exact hq
theorem bt{c:Code}{G:Type}(inv:G->K)(mu:G->Nat)(g0:G)(h0:inv g0 σ w)
  (round:∀g σ w,inv g σ w->CW P n c (fun σ' w'=>∃g',mu g'<mu g/\inv g' σ' w') xs r σ w):CW P n (.loop c) k xs r σ w:=by
 intro a ha b kk cs
 have key:∀m g σ w a,mu g=m->inv g σ w->Is n σ a->
   ∃e a' w',post n k xs r e a' w'/\Arrives P (lone (b.at a (.code c:: .inLoop c::kk)) cs w) b kk cs e a' w':=by
  intro m
  induction m using Nat.strongRecOn with
  |_ m ih=>
   intro g σ w a hm hi ha
   obtain⟨e,a',w',hq,agb⟩:=round g σ w hi a ha b (.inLoop c::kk) cs
   cases e with
   |normal=>
    obtain⟨σ',h1,g',hlt,hi'⟩:=hq
    obtain⟨e2,a2,w2,hq2,awt⟩:=ih (mu g') (hm▸hlt) g' σ' w' a' O hi' h1
    exact⟨e2,a2,w2,hq2,.of_steps (Steps.trans agb (.one step_inLoop)) awt⟩
   |exit id=>exact⟨.exit id,a',w',hq,.pass (x:= .inLoop c) O (fun _ _=> .inl aJ) agb⟩
   |ret=>exact⟨.ret,a',w',hq,.pass (x:= .inLoop c) O (fun _ _=> .inl aJ) agb⟩
   |goto l=>exact hq.elim
   |panic c=>exact hq.elim
   |outgrown=>exact hq.elim
 obtain⟨e,a',w',hq,agb⟩:=key _ g0 σ w a O h0 ha
 exact⟨e,a',w',hq,.of_steps (.one step_loop) agb⟩
theorem au{id:Nat}{l:List Oper}(h:RL P n l.toArray k l σ w):CW P n (.region id l.toArray false) k xs r σ w:=by
 intro a ha
 refine zR (fun e a' w' hq=> ?_) (wp_region_lit (id:=id) (h a ha))
 cases e with
 |normal=>exact hq
 |exit id=>exact hq.elim
 |ret=>exact hq.elim
 |goto l=>exact hq.elim
 |panic c=>exact hq.elim
 |outgrown=>exact hq.elim
end code
def j3(q:Value->World->Prop):Ending->World->Prop
 | .returned v,w=>q v w
 |_,_=>False
theorem j3.mono{q q':Value->World->Prop}(h:∀v w,q v w->q' v w){e:Ending}{w:World}(hr:j3 q e w):j3 q' e w:=by
 cases e with
 |returned v=>exact h v w hr
 |panicked c=>exact hr
 |outgrown=>exact hr
theorem j3.calls{P:Program}{f:FuncId}{args:Array Value}{w:World}{q q':Value->World->Prop}(hc:Calls P f args w (j3 q))(h:∀v w,q v w->q' v w):Calls P f args w (j3 q'):=hc.mono fun _ _ hr=>hr.mono h
def entry(args:Array Value):Env:=fun i=>args.getD i undef
theorem agc(args:Array Value)(n:Nat)(h:args.size<=n):Is n (entry args) {tmps:=args++Array.replicate (n-args.size) undef,defers:=[]}:=by
 refine⟨by simp;omega,fun t=> ?_,rfl⟩
 simp only[entry,xe,Array.getElem?_append,afK]
 split
 .rfl
 rename_i ht
 rw[XT J]
 split<;>rfl
section entry
variable{P:Program}{n:Nat}{w:World}
def Out(P:Program)(fn:Func)(q:Value->World->Prop):K:=fun σ w=>
 ∀n a,Is n σ a->∃v,(results fn a.tmps).run P w= .ok v w/\q v w
theorem enter{f:FuncId}{fn:Func}{c:Code}{args:Array Value}{q:Value->World->Prop}(hf:P.funcs[f]?=some fn)(hb:fn.body=some c)
  (hn:fn.ntmps=n) (ha:Nat.ble args.size n=true) (h:CW P n c (Out P fn q) [] (Out P fn q) (entry args) w):Calls P f args w (j3 q):=by
 refine calls_of_wp hf hb ?_
 rw[hn]
 refine zR (fun e a' w' hq=> ?_) (h _ (agc args n (by simpa using ha)))
 cases e with
 |normal=>obtain⟨σ,h1,h2⟩:=hq;obtain⟨v,h3,h4⟩:=h2 _ _ h1;exact⟨h1.defers,v,h3,h4⟩
 |ret=>obtain⟨σ,h1,h2⟩:=hq;obtain⟨v,h3,h4⟩:=h2 _ _ h1;exact⟨h1.defers,v,h3,h4⟩
 |exit id=>obtain⟨σ,h1,q,h2,h3⟩:=hq;simp at h2
 |goto l=>exact hq.elim
 |panic c=>exact hq.elim
 |outgrown=>exact hq.elim
variable{fn:Func}{q:Value->World->Prop}{σ:Env}
theorem rC(h:fn.results=#[])(hq:q (.tuple #[]) w):Out P fn q σ w:=fun _ _ _=>⟨_,results_none h _ _ _,hq⟩
theorem jx{t:Nat}{v:Value}(h:fn.results=#[.tmp t])(hv:σ t=v)(hq:q v w):Out P fn q σ w:=
 fun _ a ha=>⟨v,by rw[results_tmp h,ha.get,hv],hq⟩
theorem agd{t u:Nat}{x y:Value}(h:fn.results=#[.tmp t,.tmp u])(hx:σ t=x)(hy:σ u=y)(hq:q (.tuple #[x,y]) w):Out P fn q σ w:=
 fun _ a ha=>⟨_,by rw[results_tmp2 h,ha.get,ha.get,hx,hy],hq⟩
end entry
section ops
variable{P:Program}{n:Nat}{ops:Array Oper}{k:K}{rest:List Oper}{σ:Env}{w w':World}{op:Op}{ty:TypeId}{pos:String}{bO:Array Edge}{d:Nat}
theorem aa(h:k σ w):RL P n ops k [] σ w:=fun a ha=>wpList_nil ⟨σ,ha,h⟩
theorem pA{v:Value}(hd:Nat.blt d n=true)(hr:(execOp (ev σ) ⟨some d,op,ty,pos,bO,none⟩).run P w= .ok (.value v) w')
  (hk:RL P n ops k rest (me σ d v) w'):RL P n ops k (⟨some d,op,ty,pos,bO,none⟩::rest) σ w:=by
 intro a ha
 refine wpList_plain O fun K hK=> ?_
 rw[Oper.wp,ha.eval,hr]
 exact hK _ _ (hk _ (ha.put hd v))
theorem Il(hr:(execOp (ev σ) ⟨none,op,ty,pos,bO,none⟩).run P w= .ok .skip w')
  (hk:RL P n ops k rest σ w'):RL P n ops k (⟨none,op,ty,pos,bO,none⟩::rest) σ w:=by
 intro a ha
 refine wpList_plain O fun K hK=> ?_
 rw[Oper.wp,ha.eval,hr]
 exact hK _ _ (hk _ ha)
theorem Im{f:FuncId}{args:Array Value}{q:Value->World->Prop}(hd:Nat.blt d n=true)
  (hr:(execOp (ev σ) ⟨some d,op,ty,pos,bO,none⟩).run P w= .ok (.enter f args) w) (hc:Calls P f args w (j3 q))
  (hk:∀v w',q v w'->RL P n ops k rest (me σ d v) w'):RL P n ops k (⟨some d,op,ty,pos,bO,none⟩::rest) σ w:=by
 intro a ha
 refine wpList_plain O fun K hK=> ?_
 rw[Oper.wp,ha.eval,hr]
 refine hc.mono fun e w' hq=> ?_
 cases e with
 |returned v=>exact hK _ _ (hk _ _ hq _ (ha.put hd v))
 |panicked c=>exact hq.elim
 |outgrown=>exact hq.elim
theorem Io{a:Act}(ha:Is n σ a){j dj:Nat}{b want:Bool}(hj:(ops[j]?).bind (·.dst)=some dj)(hb:σ dj= .bool b)(dst:Option Tmp):
  Region.wanted ⟨dst,op,ty,pos,bO,some (j,want)⟩ (yielded ops a.tmps)=(b==want):=by
 have h1:a.tmps[dj]?=some (.bool b):=ha.look hb zZ
 simp only[Region.wanted,yielded,hj,RE,h1]
 cases b<;>cases want<;>rfl
theorem Gq{a:Act}(ha:Is n σ a){j dj:Nat}{want:Bool}(hj:(ops[j]?).bind (·.dst)=some dj)(hu:σ dj=undef)(dst:Option Tmp):
  Region.wanted ⟨dst,op,ty,pos,bO,some (j,want)⟩ (yielded ops a.tmps)=false:=by
 have h1:a.tmps[dj]?=some undef\/a.tmps[dj]?=none:=by
  have:=ha.get dj
  rw[hu,xe]at this
  cases hx:a.tmps[dj]? with
  |none=>exact .inr O
  |some u=>simp[hx]at this;exact .inl (by rw[this])
 rcases h1 with h1|h1<;>simp only[Region.wanted,yielded,hj,RE,h1,undef]<;>rfl
theorem gp{j dj:Nat}{want:Bool}(hd:Nat.blt d n=true)(hj:(ops[j]?).bind (·.dst)=some dj)(hu:σ dj=undef)
  (h:RL P n ops k rest (me σ d undef) w):RL P n ops k (⟨some d,op,ty,pos,bO,some (j,want)⟩::rest) σ w:=by
 intro a ha
 simp only[wpList,Gq ha hj hu]
 exact h _ (ha.put hd undef)
end ops
section runs
variable{P:Program}{σ:Env}{w:World}{dst:Option Tmp}{ty:TypeId}{pos:String}{bO:Array Edge}{g:Option (Nat×Bool)}
theorem run_move{x:Operand}{v:Value}(hx:ev σ x=v):(execOp (ev σ) ⟨dst,.move x,ty,pos,bO,g⟩).run P w= .ok (.value v) w:=by
 subst hx;rfl
theorem run_assign{x:Operand}{v:Value}(hx:ev σ x=v):(execOp (ev σ) ⟨dst,.assign x,ty,pos,bO,g⟩).run P w= .ok (.value v) w:=by
 subst hx;rfl
theorem gN{c a b:Operand}{v:Value}(hc:ev σ c= .bool true)(ha:ev σ a=v):
  (execOp (ev σ) ⟨dst,.pick c a b,ty,pos,bO,g⟩).run P w= .ok (.value v) w:=by
 subst ha;simp[execOp,hc,asBool]
theorem dR{c a b:Operand}{v:Value}(hc:ev σ c= .bool false)(hb:ev σ b=v):
  (execOp (ev σ) ⟨dst,.pick c a b,ty,pos,bO,g⟩).run P w= .ok (.value v) w:=by
 subst hb;simp[execOp,hc,asBool]
theorem bk{t:Operand}{i:Nat}{vs:Array Value}{v:Value}(ht:ev σ t= .tuple vs)(hv:vs[i]?=some v):
  (execOp (ev σ) ⟨dst,.extract t i,ty,pos,bO,g⟩).run P w= .ok (.value v) w:=by
 simp[execOp,ht,Instr.extract,hv]
section ints
variable{t u:TypeId}{x y:Operand}{k:IntKind}{a b:Int}
theorem DJ{op:BinOp}{v:Value}(hx:ev σ x= .int k a)(hy:ev σ y= .int k b)(hop:(match op with| .eql=>Value.bool (decide (a=b))| .neq=> .bool (decide (a≠b))| .lss=> .bool (decide (a<b))| .leq=> .bool (decide (a<=b))| .gtr=> .bool (decide (b<a))| .geq=> .bool (decide (b<=a))|_=>undef)=v)(hu:v≠undef):
  (execOp (ev σ) ⟨dst,.binOp op t x y u,ty,pos,bO,g⟩).run P w= .ok (.value v) w:=by
 subst hop
 cases op<;>simp_all [execOp,eqGuard,binOp,Op.intCmp,undef]
 .rw[gX];simp
 rw[gX];simp
theorem bW(hx:ev σ x= .int k a)(hy:ev σ y= .int k b):(execOp (ev σ) ⟨dst,.binOp .eql t x y u,ty,pos,bO,g⟩).run P w= .ok (.value (.bool (decide (a=b)))) w:=DJ hx hy O zZ
theorem kL(hx:ev σ x= .int k a)(hy:ev σ y= .int k b):(execOp (ev σ) ⟨dst,.binOp .neq t x y u,ty,pos,bO,g⟩).run P w= .ok (.value (.bool (decide (a≠b)))) w:=DJ hx hy O zZ
theorem aN(hx:ev σ x= .int k a)(hy:ev σ y= .int k b):(execOp (ev σ) ⟨dst,.binOp .lss t x y u,ty,pos,bO,g⟩).run P w= .ok (.value (.bool (decide (a<b)))) w:=DJ hx hy O zZ
theorem xj(hx:ev σ x= .int k a)(hy:ev σ y= .int k b):(execOp (ev σ) ⟨dst,.binOp .leq t x y u,ty,pos,bO,g⟩).run P w= .ok (.value (.bool (decide (a<=b)))) w:=DJ hx hy O zZ
theorem dP(hx:ev σ x= .int k a)(hy:ev σ y= .int k b):(execOp (ev σ) ⟨dst,.binOp .gtr t x y u,ty,pos,bO,g⟩).run P w= .ok (.value (.bool (decide (b<a)))) w:=DJ hx hy O zZ
theorem dF(hx:ev σ x= .int k a)(hy:ev σ y= .int k b):(execOp (ev σ) ⟨dst,.binOp .geq t x y u,ty,pos,bO,g⟩).run P w= .ok (.value (.bool (decide (b<=a)))) w:=DJ hx hy O zZ
theorem DK{n:Int}(h: -9223372036854775808<=n/\n<=9223372036854775807):IntKind.i64.wrap n=n:=IntWalk.i64_in n h
theorem ax(hx:ev σ x= .int .i64 a)(hy:ev σ y= .int .i64 b)(h: -9223372036854775808<=a+b/\a+b<=9223372036854775807):
  (execOp (ev σ) ⟨dst,.binOp .add t x y u,ty,pos,bO,g⟩).run P w= .ok (.value (.int .i64 (a+b))) w:=by
 simp[execOp,hx,hy,eqGuard,binOp,Op.intArith,DK h]
theorem eS(hx:ev σ x= .int .i64 a)(hy:ev σ y= .int .i64 b)(h: -9223372036854775808<=a-b/\a-b<=9223372036854775807):
  (execOp (ev σ) ⟨dst,.binOp .sub t x y u,ty,pos,bO,g⟩).run P w= .ok (.value (.int .i64 (a-b))) w:=by
 simp[execOp,hx,hy,eqGuard,binOp,Op.intArith,DK h]
theorem z8(hx:ev σ x= .int .i64 a)(hy:ev σ y= .int .i64 b)(h: -9223372036854775808<=a*b/\a*b<=9223372036854775807):
  (execOp (ev σ) ⟨dst,.binOp .mul t x y u,ty,pos,bO,g⟩).run P w= .ok (.value (.int .i64 (a*b))) w:=by
 simp[execOp,hx,hy,eqGuard,binOp,Op.intArith,DK h]
theorem amd(hx:ev σ x= .int .i64 a)(hy:ev σ y= .int .i64 b)(ha:0<=a/\a<=9223372036854775807)(hb:0<b):
  (execOp (ev σ) ⟨dst,.binOp .quo t x y u,ty,pos,bO,g⟩).run P w= .ok (.value (.int .i64 (a/b))) w:=by
 have h1:a.tdiv b=a/b:=afH ha.1
 have h2:a/b<=a:=Int.ediv_le_self b ha.1
 have h3:0<=a/b:=Int.ediv_nonneg ha.1 J
 simp[execOp,hx,hy,eqGuard,binOp,Op.intDiv,h1,DK (n:=a/b) J,show b≠0 by omega]
end ints
section words
variable{t u:TypeId}{x y:Operand}{a b:BitVec 64}
theorem L4(n:Int):IntKind.u64.wrap n=((BitVec.ofInt 64 n).toNat:Int):=by
 simp[IntKind.wrap,IntKind.bits,IntKind.signed,Lv]
 omega
theorem ofU(a:BitVec 64):BitVec.ofInt 64 (a.toNat:Int)=a:=aJ
theorem Sq(a:BitVec 64):IntKind.u64.wrap (a.toNat:Int)=(a.toNat:Int):=by rw[L4,ofU]
theorem DL{op:BinOp}{k:IntKind}{m n:Int}{v:Value}(hx:ev σ x= .int k m)(hy:ev σ y= .int k n)(h:(binOp op t (.int k m) (.int k n)).run P w= .ok v w):
  (execOp (ev σ) ⟨dst,.binOp op t x y u,ty,pos,bO,g⟩).run P w= .ok (.value v) w:=by
 have he:(eqGuard op t x y (.int k m) (.int k n))=pure ():=by cases op<;>rfl
 simp[execOp,hx,hy,he,h]
theorem jm(hx:ev σ x=U a)(hy:ev σ y=U b):(execOp (ev σ) ⟨dst,.binOp .eql t x y u,ty,pos,bO,g⟩).run P w= .ok (.value (.bool (decide (a=b)))) w:=by
 rw[bW hx hy];congr 3;rw[gX];simp[<-Yd];omega
theorem vG(hx:ev σ x=U a)(hy:ev σ y=U b):(execOp (ev σ) ⟨dst,.binOp .neq t x y u,ty,pos,bO,g⟩).run P w= .ok (.value (.bool (decide (a≠b)))) w:=by
 rw[kL hx hy];congr 3;rw[gX];simp[<-Yd];omega
theorem age(hx:ev σ x=U a)(hy:ev σ y=U b):(execOp (ev σ) ⟨dst,.binOp .add t x y u,ty,pos,bO,g⟩).run P w= .ok (.value (U (a+b))) w:=by
 simp[execOp,hx,hy,eqGuard,binOp,Op.intArith,L4,BitVec.ofInt_add]
theorem Uy(hx:ev σ x=U a)(hy:ev σ y=U b):(execOp (ev σ) ⟨dst,.binOp .sub t x y u,ty,pos,bO,g⟩).run P w= .ok (.value (U (a-b))) w:=by
 have h:((BitVec.ofInt 64 ((a.toNat:Int)-b.toNat)).toNat:Int)=((a-b).toNat:Int):=by
  rw[Lv,RF];have:=a.isLt;have:=b.isLt;omega
 refine DL hx hy ?_
 simp only[binOp,Op.intArith,L4,h];rfl
theorem L5(hx:ev σ x=U a)(hy:ev σ y=U b):(execOp (ev σ) ⟨dst,.binOp .mul t x y u,ty,pos,bO,g⟩).run P w= .ok (.value (U (a*b))) w:=by
 simp[execOp,hx,hy,eqGuard,binOp,Op.intArith,L4,BitVec.ofInt_mul]
theorem mh(hx:ev σ x=U a)(hy:ev σ y=U b):(execOp (ev σ) ⟨dst,.binOp .and t x y u,ty,pos,bO,g⟩).run P w= .ok (.value (U (a&&&b))) w:=by
 refine DL hx hy ?_
 simp only[binOp,Op.intBits,IntKind.bits,ofU,Sq];rfl
theorem iG(hx:ev σ x=U a)(hy:ev σ y=U b):(execOp (ev σ) ⟨dst,.binOp .or t x y u,ty,pos,bO,g⟩).run P w= .ok (.value (U (a|||b))) w:=by
 refine DL hx hy ?_
 simp only[binOp,Op.intBits,IntKind.bits,ofU,Sq];rfl
theorem Uz(hx:ev σ x=U a)(hy:ev σ y=U b):(execOp (ev σ) ⟨dst,.binOp .andNot t x y u,ty,pos,bO,g⟩).run P w= .ok (.value (U (a&&& ~~~b))) w:=by
 refine DL hx hy ?_
 simp only[binOp,Op.intBits,IntKind.bits,ofU,Sq];rfl
theorem L6(hx:ev σ x=U a)(hy:ev σ y=U b)(hb:b≠0):(execOp (ev σ) ⟨dst,.binOp .quo t x y u,ty,pos,bO,g⟩).run P w= .ok (.value (U (a/b))) w:=by
 have hb':¬((b.toNat:Int)=0):=fun h=>hb (Fa yc)
 have h1:((a.toNat:Int)).tdiv (b.toNat:Int)=((a/b).toNat:Int):=by
  rw[afH J];simp
 refine DL hx hy ?_
 simp only[binOp,Op.intDiv,aW hb',h1,Sq];rfl
theorem Gr(hx:ev σ x=U a)(hy:ev σ y=U b)(hb:b≠0):(execOp (ev σ) ⟨dst,.binOp .rem t x y u,ty,pos,bO,g⟩).run P w= .ok (.value (U (a%b))) w:=by
 have hb':¬((b.toNat:Int)=0):=fun h=>hb (Fa yc)
 have h1:((a.toNat:Int)).tmod (b.toNat:Int)=((a%b).toNat:Int):=by
  rw[Int.tmod_eq_emod_of_nonneg J];simp
 refine DL hx hy ?_
 simp only[binOp,Op.intDiv,aW hb',h1];rfl
theorem agf(hx:ev σ x=U a):(execOp (ev σ) ⟨dst,.unOp .neg t x,ty,pos,bO,g⟩).run P w= .ok (.value (U (-a))) w:=by
 have h:((BitVec.ofInt 64 (0-(a.toNat:Int))).toNat:Int)=((-a).toNat:Int):=by
  rw[Lv,BitVec.toNat_neg];have:=a.isLt;omega
 simp only[execOp,hx,Op.unary,Op.intArith,L4,h];rfl
theorem Gs(hx:ev σ x=U a)(hy:ev σ y=U b):(execOp (ev σ) ⟨dst,.binOp .shl t x y u,ty,pos,bO,g⟩).run P w= .ok (.value (U (a<<<b.toNat))) w:=by
 have h:IntKind.u64.wrap ((a.toNat:Int)*2^(min b.toNat 64))=((a<<<b.toNat).toNat:Int):=by
  have e1:((a.toNat:Int)*2^(min b.toNat 64))=((a.toNat*2^(min b.toNat 64):Nat):Int):=by push_cast;rfl
  rw[L4,e1,BitVec.ofInt_natCast,XZ,Rs,RG]
  by_cases hle:b.toNat<=64
  .rw[qB hle]
  rw[Ye J]
  have e2:(2:Nat)^b.toNat=2^64*2^(b.toNat-64):=by rw[<-Nat.pow_add];congr 1;omega
  rw[e2,<-Nat.mul_assoc,Nat.mul_right_comm,Nat.mul_mod_left,Nat.mul_mod_left]
 have hn:¬((b.toNat:Int)<0):=J
 have he:(eqGuard .shl t x y (U a) (U b))=pure ():=rfl
 simp only[execOp,hx,hy,he,binOp,Op.shift,aW hn,eC,IntKind.bits,h];rfl
theorem Cy(hx:ev σ x=U a)(hy:ev σ y=U b):(execOp (ev σ) ⟨dst,.binOp .shr t x y u,ty,pos,bO,g⟩).run P w= .ok (.value (U (a>>>b.toNat))) w:=by
 have h:((a.toNat:Int)).fdiv (2^(min b.toNat 64))=((a>>>b.toNat).toNat:Int):=by
  have e1:((2:Int)^(min b.toNat 64))=((2^(min b.toNat 64):Nat):Int):=by push_cast;rfl
  rw[e1,Int.fdiv_eq_ediv_of_nonneg _ (Int.natCast_nonneg _),Lq,XN]
  norm_cast
  by_cases hle:b.toNat<=64
  .rw[qB hle]
  rw[Ye J]
  have:=a.isLt
  rw[Nat.div_eq_of_lt J,Nat.div_eq_of_lt]
  exact RB this (Rw J J)
 have hn:¬((b.toNat:Int)<0):=J
 have he:(eqGuard .shr t x y (U a) (U b))=pure ():=rfl
 simp only[execOp,hx,hy,he,binOp,Op.shift,aW hn,eC,IntKind.bits,h];rfl
theorem jL{s e:TypeId}{m:Int}{ki:IntKind}{des:TypeDesc}(hs:P.underlying s=some des)(he:P.underlying e=some (.int .u64))(hx:ev σ x= .int ki m):
  (execOp (ev σ) ⟨dst,.convert s e x,ty,pos,bO,g⟩).run P w= .ok (.value (U (BitVec.ofInt 64 m))) w:=by
 have h:(convert s e (.int ki m)).run P w= .ok (.int .u64 (IntKind.u64.wrap m)) w:=by
  simp[convert,kP hs,kP he,Conv.intToInt]
 simp only[execOp,hx]
 simp[h,L4]
theorem YI{s e:TypeId}{m:Int}{ki:IntKind}{des:TypeDesc}(hs:P.underlying s=some des)(he:P.underlying e=some (.int .i64))(hx:ev σ x= .int ki m)(h: -9223372036854775808<=m/\m<=9223372036854775807):
  (execOp (ev σ) ⟨dst,.convert s e x,ty,pos,bO,g⟩).run P w= .ok (.value (.int .i64 m)) w:=by
 have h:(convert s e (.int ki m)).run P w= .ok (.int .i64 m) w:=by
  simp[convert,kP hs,kP he,Conv.intToInt,DK h]
 simp only[execOp,hx]
 simp[h]
theorem YJ(a:BitVec 64):IntKind.i64.wrap (a.toNat:Int)=a.toInt:=by
 have:=a.isLt
 rw[BitVec.toInt_eq_toNat_cond]
 have Sr:(2:Int)^64=18446744073709551616:=az
 have h63:(2:Int)^(64-1)=9223372036854775808:=az
 have e64:(2:Nat)^64=18446744073709551616:=az
 simp only[IntKind.wrap,IntKind.bits,IntKind.signed,Sr,h63,e64,l7,eD]
 by_cases h:2*a.toNat<18446744073709551616
 .rw[aY h,aW J];omega
 rw[aW h,aY J];omega
theorem YK{s e:TypeId}{des:TypeDesc}(hs:P.underlying s=some des)(he:P.underlying e=some (.int .i64))(hx:ev σ x=U a):
  (execOp (ev σ) ⟨dst,.convert s e x,ty,pos,bO,g⟩).run P w= .ok (.value (.int .i64 a.toInt)) w:=by
 have h:(convert s e (U a)).run P w= .ok (.int .i64 a.toInt) w:=by
  simp[convert,kP hs,kP he,Conv.intToInt,YJ]
 simp only[execOp,hx]
 simp[h]
end words
section awv
variable{t u:TypeId}{x y:Operand}{a b:Bool}{p:Prop}[inst:Decidable p]
theorem bJ(hx:ev σ x= .bool a):(execOp (ev σ) ⟨dst,.unOp .not t x,ty,pos,bO,g⟩).run P w= .ok (.value (.bool (!a))) w:=by
 simp[execOp,hx,Op.unary]
theorem vH(hx:ev σ x= .bool (decide p)):(execOp (ev σ) ⟨dst,.unOp .not t x,ty,pos,bO,g⟩).run P w= .ok (.value (.bool (decide ¬p))) w:=by
 simp[execOp,hx,Op.unary]
end awv
section mem
variable{t u:TypeId}{x y:Operand}{v:Value}
theorem KI{e:TypeId}(hx:ev σ x=v):(execOp (ev σ) ⟨dst,.box e x,ty,pos,bO,g⟩).run P w= .ok (.value (.pointer (some ⟨w.heap.size,0,none⟩))) (w.alloc (.cells v.cells e)):=by
 subst hx;rfl
theorem aT{e:TypeId}{z:Value}(hz:∀w,(zeroValue e).run P w= .ok z w):(execOp (ev σ) ⟨dst,.alloc e,ty,pos,bO,g⟩).run P w= .ok (.value (.pointer (some ⟨w.heap.size,0,none⟩))) (w.alloc (.cells z.cells e)):=by
 simp[execOp,Instr.alloc,hz,newVar,newRow,newObj,Sem.run]
theorem O9{s i n off b o:Nat}{fs:Array Field}{f:Field}(hu:P.underlying s=some (.struct fs))(hf:fs[i]?=some f)(ho:f.offset=off)
  (hs:∀w,(sizeOf f.type).run P w= .ok n w) (hn:n≠0) (hx:ev σ x= .pointer (some ⟨b,o,none⟩)):
  (execOp (ev σ) ⟨dst,.fieldAddr s x i,ty,pos,bO,g⟩).run P w= .ok (.value (.pointer (some ⟨b,o+off,none⟩))) w:=by
 subst ho
 simp[execOp,Instr.fieldAt,kP hu,hf,hx,Instr.sureAddr,fieldPlace,hs,hn,HW]
theorem a7{len n b o:Nat}{e:TypeId}{k:IntKind}{i:Int}(hu:P.underlying t=some (.array len e))(hs:∀w,(sizeOf e).run P w= .ok n w)
  (hx:ev σ x= .pointer (some ⟨b,o,none⟩)) (hy:ev σ y= .int k i) (hi:0<=i/\i<len):
  (execOp (ev σ) ⟨dst,.indexAddr t x y,ty,pos,bO,g⟩).run P w= .ok (.value (.pointer (some ⟨b,o+i.toNat*n,none⟩))) w:=by
 simp[execOp,Instr.indexAt,kP hu,hx,hy,asIntOf,Instr.sureAddr,hi,hs,HW]
theorem af{a:Addr}(hx:ev σ x= .pointer (some a)):(execOp (ev σ) ⟨dst,.nilCheck x,ty,pos,bO,g⟩).run P w= .ok (.value (.pointer (some a))) w:=by
 simp[execOp,hx]
theorem aE{d:TypeDesc}{b o:Nat}(hu:P.underlying t=some d)(hd:d.isRow=false)(hx:ev σ x= .pointer (some ⟨b,o,none⟩))(hc:w.cell? ⟨b,o,none⟩=some v):
  (execOp (ev σ) ⟨dst,.load t x,ty,pos,bO,g⟩).run P w= .ok (.value v) w:=by
 have ha:(isAgg t).run P w= .ok false w:=by
  unfold isAgg
  rw[uw,kP hu w]
  cases d<;>simp_all
 simp[execOp,hx,Instr.loadAt,Instr.sureAddr,loadVar,ha,load,Sem.run,hc]
theorem cC{d:TypeDesc}{b o:Nat}{cs:List Value}(hu:P.underlying t=some d)(hd:d.isRow=true)(hi:(P.info? t).map (·.size)=some cs.length)
  (hx:ev σ x= .pointer (some ⟨b,o,none⟩)) (hc:w.rangeAt b o cs):
  (execOp (ev σ) ⟨dst,.load t x,ty,pos,bO,g⟩).run P w= .ok (.value (.agg cs.toArray)) w:=by
 have:=run_loadAt_mid (P:=P) w b o t cs d hc hu hd hi
 simp only[execOp,hx,uw,this];rfl
theorem Aa{b:Nat}{c:Array Value}{e:TypeId}{off:Nat}(hg:w.heap[b]?=some (.cells c e (0,0)))(vs:List Value)(hl:off+vs.length<=c.size)(h1:∀u∈vs,u.oneCell'=true):
  (storeCells ⟨b,off,none⟩ vs).run P w= .ok () (w.setRow b (c.toList.take off++vs++c.toList.drop (off+vs.length)).toArray):=by
 have:=X7 P b off e vs 0 c w hg (by simpa using hl) h1
 simpa using this
theorem bK{b off:Nat}{c:Array Value}{e:TypeId}(hi:(P.info? t).map (·.size)=some 1)(hx:ev σ x= .pointer (some ⟨b,off,none⟩))(hy:ev σ y=v)(hv:v.cells=#[v])(h1:v.oneCell'=true)
  (hg:w.heap[b]?=some (.cells c e (0,0))) (ho:off<c.size):
  (execOp (ev σ) ⟨dst,.store t x y,ty,pos,bO,g⟩).run P w= .ok .skip (w.setRow b (c.setIfInBounds off v)):=by
 have hs:=Aa (P:=P) (off:=off) hg [v] iW Fv
 have e1:(c.toList.take off++[v]++c.toList.drop (off+1)).toArray=c.setIfInBounds off v:=by
  apply RW
  simp[XL,ho]
 have hz:(sizeOf t).run P w= .ok 1 w:=by
  cases hq:P.info? t with
  |none=>simp[hq]at hi
  |some i=>simp[hq]at hi;simp[sizeOf,typeInfo,hq,hi]
 simp only[ey,e1]at hs
 simp[execOp,hx,hy,Instr.storeAt,Instr.sureAddr,storeVar,hv,hz,hs]
theorem dK{b:Nat}{c c':Array Value}{e:TypeId}(hi:(P.info? t).map (·.size)=some c'.size)(hx:ev σ x= .pointer (some ⟨b,0,none⟩))(hy:ev σ y= .agg c')(h1:∀u∈c',u.oneCell'=true)
  (hg:w.heap[b]?=some (.cells c e (0,0))) (ho:c'.size=c.size):
  (execOp (ev σ) ⟨dst,.store t x y,ty,pos,bO,g⟩).run P w= .ok .skip (w.setRow b c'):=by
 have hs:=Aa (P:=P) (off:=0) hg c'.toList (by simp[ho]) Fv
 have e1:(c.toList.take 0++c'.toList++c.toList.drop (0+c'.toList.length)).toArray=c':=by
  apply RW
  simp[ho]
 have hz:(sizeOf t).run P w= .ok c'.size w:=by
  cases hq:P.info? t with
  |none=>simp[hq]at hi
  |some i=>simp[hq]at hi;simp[sizeOf,typeInfo,hq,hi]
 rw[e1]at hs
 simp[execOp,hx,hy,Instr.storeAt,Instr.sureAddr,storeVar,Value.cells,hz,hs]
theorem uU{fn:Fn}{cs:List Operand}{vs:List Value}(h:cs.map (ev σ)=vs):(execOp (ev σ) ⟨dst,.makeFunc fn #[] cs.toArray,ty,pos,bO,g⟩).run P w= .ok (.value (.func fn #[] vs.toArray)) w:=by
 subst h;simp[execOp,Instr.makeFunc]
theorem yL{f:FuncId}{HK:List Operand}{ats:Array TypeId}{vs:List Value}(hf:∀args w,(callFunc f args).run P w= .ok (.enter f args) w)(h:HK.map (ev σ)=vs):
  (execOp (ev σ) ⟨dst,.call {callee:= .value (.func f),args:=HK.toArray,argTypes:=ats},ty,pos,bO,g⟩).run P w= .ok (.enter f vs.toArray) w:=by
 subst h
 simp[execOp,resolve,ev,Deferred.ofValue,invoke,hf]
theorem PL{x:Operand}{f:FuncId}{cap:Array Value}{HK:List Operand}{ats:Array TypeId}{vs:List Value}(hf:∀args w,(callFunc f args).run P w= .ok (.enter f args) w)
  (hx:ev σ x= .func (.func f) #[] cap) (h:HK.map (ev σ)=vs):
  (execOp (ev σ) ⟨dst,.call {callee:= .value x,args:=HK.toArray,argTypes:=ats},ty,pos,bO,g⟩).run P w= .ok (.enter f (vs.toArray++cap)) w:=by
 subst h
 simp[execOp,resolve,hx,Deferred.ofValue,invoke,hf]
theorem agh{e:TypeId}{a:Option Addr}{n c:Nat}{ats:Array TypeId}(ht:ats[0]?=some t)(hu:P.underlying t=some (.slice e))(hx:ev σ x=v)(hv:v= .slice a n c):
  (execOp (ev σ) ⟨dst,.call {callee:= .builtin .len,args:=#[x],argTypes:=ats},ty,pos,bO,g⟩).run P w= .ok (.value (I n)) w:=by
 subst hv
 simp[execOp,resolve,invoke,builtin,Builtin.len_,ht,hx,kP hu,goInt]
theorem Gt{a b:Int}{ats:Array TypeId}(hx:ev σ x= .int .i64 a)(hy:ev σ y= .int .i64 b):
  (execOp (ev σ) ⟨dst,.call {callee:= .builtin .max,args:=#[x,y],argTypes:=ats},ty,pos,bO,g⟩).run P w= .ok (.value (.int .i64 (max a b))) w:=by
 have h:(if b>a then b else a)=max a b:=J
 simp[execOp,resolve,invoke,builtin,Builtin.max_,Builtin.max2,hx,hy,h]
theorem vI{a b:Int}{ats:Array TypeId}(hx:ev σ x= .int .i64 a)(hy:ev σ y= .int .i64 b):
  (execOp (ev σ) ⟨dst,.call {callee:= .builtin .min,args:=#[x,y],argTypes:=ats},ty,pos,bO,g⟩).run P w= .ok (.value (.int .i64 (min a b))) w:=by
 have h:(if b<a then b else a)=min a b:=J
 simp[execOp,resolve,invoke,builtin,Builtin.min_,Builtin.min2,hx,hy,h]
theorem lG{s:ByteArray}{ats:Array TypeId}(ht:ats[0]?=some t)(hu:P.underlying t=some .string)(hx:ev σ x= .string s):
  (execOp (ev σ) ⟨dst,.call {callee:= .builtin .len,args:=#[x],argTypes:=ats},ty,pos,bO,g⟩).run P w= .ok (.value (I s.size)) w:=by
 simp[execOp,resolve,invoke,builtin,Builtin.len_,ht,hx,kP hu,goInt]
theorem run_build{ps:List (Nat×Operand)}{vs:List (Nat×Value)}{cells:Array Value}(h:ps.map (fun p=>(p.1,ev σ p.2))=vs)(hb:P.built t vs=some cells):
  (execOp (ev σ) ⟨dst,.build t ps.toArray,ty,pos,bO,g⟩).run P w= .ok (.value (.agg cells)) w:=by
 subst h
 have:=Go.run_build (P:=P) w t ((ps.map (fun p=>(p.1,ev σ p.2))).toArray) cells hb
 simp[execOp,this]
theorem ame{e:TypeId}{len:Nat}{ps:List (Nat×Operand)}{vs:List (Nat×Value)}{cells:Array Value}{ie:TypeInfo}{z:Value}
  (hu:P.underlying t=some (.slice e)) (hie:P.info? e=some ie) (hz:ie.zero=some z) (hsmall:¬len*ie.size>2^24) (hpos:¬len*ie.size=0)
  (h:ps.map (fun p=>(p.1,ev σ p.2))=vs) (hc:Instr.fill (fun i=>some (i*ie.size,ie.size)) ((Array.range (len*ie.size)).map (z.cells[· %z.cells.size]!)) vs=some cells):
  (execOp (ev σ) ⟨dst,.buildSlice t len ps.toArray,ty,pos,bO,g⟩).run P w= .ok (.value (.slice (some ⟨w.heap.size,0,none⟩) len len)) (w.alloc (.cells cells e)):=by
 subst h
 have:=Go.run_buildSlice (P:=P) w t e len ((ps.map (fun p=>(p.1,ev σ p.2))).toArray) cells ie z hu hie hz hsmall hpos hc
 simp[execOp,this]
theorem UA(off:Nat):∀(cs:List Value) (j:Nat) (cur:List Value),off+j+cs.length<=cur.length->
  (cs.zipIdx j).foldl (fun(a:Array Value) (p:Value×Nat)=>a.setIfInBounds (off+p.2) p.1) cur.toArray=(cur.take (off+j)++cs++cur.drop (off+j+cs.length)).toArray
 |[],j,cur,h=>by simp
 |c::cs,j,cur,h=>by
  simp only[eG]at h
  simp only[List.zipIdx_cons,pq,n5]
  rw[UA off cs (j+1) (cur.set (off+j) c) iW]
  congr 1
  have h1:(cur.set (off+j) c).take (off+(j+1))=cur.take (off+j)++[c]:=by
   apply uu
   intro i
   simp only[vx,qh,List.getElem?_append,ef,show min (off+j) cur.length=off+j by omega]
   by_cases h1:i<off+j
   .rw[aY J,aW J,aY h1,aY h1]
   by_cases h2:i=off+j
   .subst h2;rw[aY (show off+j<off+(j+1)by omega),aY O,aY J,aW (Nat.lt_irrefl _)];simp
   rw[aW J,aW h1,ot iW]
  have h2:(cur.set (off+j) c).drop (off+(j+1)+cs.length)=cur.drop (off+j+(c::cs).length):=by
   rw[List.drop_set_of_lt J];congr 1;simp;omega
  rw[h1,h2];simp
theorem UB(sz:Nat):∀(vs:List Value) (k:Nat) (cur:List Value),cur.length=(k+vs.length)*sz->(∀v∈vs,v.cells.size=sz)->
  Instr.fill (fun i=>some (i*sz,sz)) cur.toArray ((vs.zipIdx k).map fun p=>(p.2,p.1))=some (cur.take (k*sz)++vs.flatMap (·.cells.toList)).toArray
 |[],k,cur,h,_=>by simp[Instr.fill,jg (show cur.length<=k*sz by simp at h;omega)]
 |v::vs,k,cur,h,hv=>by
  have hs:=hv v aJ
  simp only[eG]at h
  have hm:(k+(vs.length+1))*sz=k*sz+sz+vs.length*sz:=by rw[lF,lF,RU];omega
  simp only[List.zipIdx_cons,lZ,Instr.fill,hs,vz]
  rw[aW iW]
  have hf:v.cells.zipIdx.foldl (fun(a:Array Value) (p:Value×Nat)=>a.setIfInBounds (k*sz+p.2) p.1) cur.toArray=(cur.take (k*sz)++v.cells.toList++cur.drop (k*sz+sz)).toArray:=by
   rw[<-Array.foldl_toList,Array.toList_zipIdx]
   have:=UA (k*sz) v.cells.toList 0 cur (by simp[hs];omega)
   simpa[hs]using this
  have hf':v.cells.zipIdx.foldl (fun cs (x:Value×Nat)=>match x with|(c,j)=>cs.setIfInBounds (k*sz+j) c) cur.toArray=(cur.take (k*sz)++v.cells.toList++cur.drop (k*sz+sz)).toArray:=hf
  rw[hf',UB sz vs (k+1) _ (by simp[hs];rw[lF,lF];omega) (fun u hu=>hv u (by simp[hu]))]
  congr 2
  rw[show(k+1)*sz=k*sz+sz by rw[lF,RU],Lk (by simp[hs];omega)]
  rw[jg (by simp[hs];omega)]
  simp
theorem cA{e sz:TypeId}{len:Nat}{ps:List (Nat×Operand)}{vs:List Value}{ie:TypeInfo}{z:Value}
  (hu:P.underlying t=some (.slice e)) (hie:P.info? e=some ie) (hz:ie.zero=some z) (hsz:ie.size=sz) (hl:vs.length=len) (hsmall:¬len*sz>2^24) (hpos:¬len*sz=0)
  (h:ps.map (fun p=>(p.1,ev σ p.2))=(vs.zipIdx.map fun p=>(p.2,p.1))) (hc:vs.all (fun v=>v.cells.size==sz)=true):
  (execOp (ev σ) ⟨dst,.buildSlice t len ps.toArray,ty,pos,bO,g⟩).run P w= .ok (.value (.slice (some ⟨w.heap.size,0,none⟩) len len)) (w.alloc (.cells (vs.flatMap (·.cells.toList)).toArray e)):=by
 subst hsz
 subst hl
 refine ame hu hie hz hsmall hpos h ?_
 have hz':((Array.range (vs.length*ie.size)).map (z.cells[· %z.cells.size]!))=(((Array.range (vs.length*ie.size)).map (z.cells[· %z.cells.size]!)).toList).toArray:=(Array.toArray_toList ..).symm
 rw[hz']
 have:=UB ie.size vs 0 (((Array.range (vs.length*ie.size)).map (z.cells[· %z.cells.size]!)).toList) aJ (fun v hv=>by simpa using iQ.1 hc v hv)
 simpa using this
theorem DM{s i:Nat}{cs:Array Value}{fs:Array Field}{f:Field}(hu:P.underlying s=some (.struct fs))(hf:fs[i]?=some f)(ha:∀w,(isAgg f.type).run P w= .ok false w)
  (hx:ev σ x= .agg cs) (hv:cs[f.offset]?=some v):(execOp (ev σ) ⟨dst,.field s x i,ty,pos,bO,g⟩).run P w= .ok (.value v) w:=by
 simp[execOp,Instr.field,kP hu,hf,hx,asAgg,part,ha,hv]
theorem L7{e:TypeId}{len:Nat}{cs:Array Value}{k:IntKind}{i:Int}(hu:P.underlying t=some (.array len e))(ha:∀w,(isAgg e).run P w= .ok false w)(hs:∀w,(sizeOf e).run P w= .ok 1 w)
  (hx:ev σ x= .agg cs) (hy:ev σ y= .int k i) (hi:0<=i/\i<len) (hv:cs[i.toNat]?=some v):(execOp (ev σ) ⟨dst,.index t x y,ty,pos,bO,g⟩).run P w= .ok (.value v) w:=by
 simp[execOp,Instr.index,kP hu,hx,hy,asIntOf,part,ha,hs,hv,hi]
end mem
end runs
abbrev bu:=Sum (Nat×Obj) (Value×TypeId×Nat×Nat×List Value)
abbrev bu.blk(b:Nat)(o:Obj):bu:= .inl (b,o)
abbrev bu.row(v:Value)(e:TypeId)(sz n:Nat)(xs:List Value):bu:= .inr (v,e,sz,n,xs)
def bu.sK:bu->Option Nat
 | .inl (b,_)=>some b
 | .inr (v,_)=>v.ownBlock
def bu.ok(base:Nat)(w:World):bu->Prop
 | .inl (b,o)=>base<=b/\w.heap[b]?=some o
 | .inr (v,e,sz,n,xs)=>w.ownsRow base e sz v n xs
structure Hp(w0 w:World)(L:List bu):Prop where
 below:Below w0.heap.size w0 w
 ok:∀x∈L,x.ok w0.heap.size w
 L8:L.Pairwise fun x y=>x.sK=none\/x.sK≠y.sK
theorem bu.JI{base:Nat}{w:World}{x:bu}(h:x.ok base w):∀b,x.sK=some b->base<=b/\b<w.heap.size:=by
 intro b hb
 rcases x with⟨c,o⟩|⟨v,e,sz,n,xs⟩
 .simp only[bu.sK,X6]at hb;subst hb
  exact⟨h.1,(Ca.1 h.2).1⟩
 exact World.ownsRow.lt h b hb
theorem bu.DN{base:Nat}{w w':World}{x:bu}(h:x.ok base w)(hb:∀b,x.sK=some b->w'.heap[b]?=w.heap[b]?):x.ok base w':=by
 rcases x with⟨c,o⟩|⟨v,e,sz,n,xs⟩
 .exact⟨h.1,(hb c O).trans h.2⟩
 refine⟨h.1,?_⟩
 rcases h.2 with hn|⟨gb,cap,cur,rfl,h1,h2,rest⟩
 .exact .inl hn
 exact .inr ⟨gb,cap,cur,rfl,h1,(hb gb O).trans h2,rest⟩
section hp
variable{w0 w w':World}{L:List bu}
theorem Hp.start(w:World):Hp w w []:=⟨Below.refl _ _,fun _ h=>mO,List.Pairwise.nil⟩
theorem Hp.size(h:Hp w0 w L):w0.heap.size<=w.heap.size:=h.below.size
theorem Hp.drew(h:Hp w0 w L):Hp w0 w.drew L:=⟨h.below.drew,fun x hx=>bu.DN (h.ok x hx) fun _ _=>rfl,h.L8⟩
theorem Hp.call(h:Hp w0 w L)(hb:Below w.heap.size w w'):Hp w0 w' L:=
 ⟨h.below.trans (hb.mono h.size),fun x hx=>bu.DN (h.ok x hx) fun b hf=>hb.block b (bu.JI (h.ok x hx) b hf).2,h.L8⟩
theorem Hp.alloc(h:Hp w0 w L)(o:Obj):Hp w0 (w.alloc o) (.blk w.heap.size o::L):=by
 refine⟨h.below.alloc h.size o,fun x hx=> ?_,?_⟩
 .rcases c8.1 hx with rfl|hx
  .exact⟨h.size,heap_alloc_new w o⟩
  exact bu.DN (h.ok x hx) fun b hf=>Below.heap_alloc w o b (bu.JI (h.ok x hx) b hf).2
 refine List.Pairwise.cons (fun y hy=> ?_) h.L8
 right
 intro he
 have:=(bu.JI (h.ok y hy) w.heap.size he.symm).2
 omega
theorem Hp.DO{v:Value}{e:TypeId}{sz n:Nat}{xs:List Value}(h:Hp w0 w L)(hb:Below w.heap.size w w')(hr:w'.ownsRow w.heap.size e sz v n xs):Hp w0 w' (.row v e sz n xs::L):=by
 have h':=h.call hb
 refine⟨h'.below,fun x hx=> ?_,List.Pairwise.cons (fun y hy=> ?_) h.L8⟩
 .rcases c8.1 hx with rfl|hx
  .refine⟨hr.1,?_⟩
   rcases hr.2 with hn|⟨gb,cap,cur,rfl,h1,rest⟩
   .exact .inl hn
   exact .inr ⟨gb,cap,cur,rfl,kf h.size h1,rest⟩
  exact h'.ok x hx
 .cases hv:v.ownBlock with
  |none=>left;exact hv
  |some b=>
   right
   intro he
   have h1:=(hr.lt b hv).1
   have h2:=(bu.JI (h.ok y hy) b (by rw[<-he];exact hv)).2
   omega
theorem Hp.eI(h:Hp w0 w L)(e:TypeId)(sz:Nat):Hp w0 w (.row (.slice none 0 0) e sz 0 []::L):=
 ⟨h.below,fun x hx=>by
  rcases c8.1 hx with rfl|hx
  .exact World.ownsRow_nil w _ e sz
  exact h.ok x hx,List.Pairwise.cons (fun y hy=> .inl O) h.L8⟩
theorem Hp.tail{x:bu}(h:Hp w0 w (x::L)):Hp w0 w L:=⟨h.below,fun y hy=>h.ok y (gd _ hy),h.L8.tail⟩
theorem Hp.sub{L':List bu}(h:Hp w0 w L)(hs:L'.Sublist L):Hp w0 w L':=⟨h.below,fun y hy=>h.ok y (hs.subset hy),h.L8.sublist hs⟩
theorem Hp.blk{i b:Nat}{o:Obj}(h:Hp w0 w L)(hi:L[i]?=some (.blk b o)):w.heap[b]?=some o:=(h.ok _ (lX hi)).2
theorem Hp.cell{i b off:Nat}{c:Array Value}{e:TypeId}{fr:Nat×Nat}{v:Value}(h:Hp w0 w L)(hi:L[i]?=some (.blk b (.cells c e fr)))(hc:c[off]?=some v):w.cell? ⟨b,off,none⟩=some v:=by
 rw[xX w b off c e fr (h.blk hi)];exact hc
theorem Hp.range{i b off:Nat}{c:Array Value}{e:TypeId}{fr:Nat×Nat}{cs:List Value}(h:Hp w0 w L)(hi:L[i]?=some (.blk b (.cells c e fr)))(hc:∀j v,cs[j]?=some v->c[off+j]?=some v):w.rangeAt b off cs:=
 fun j v hv=>h.cell hi (hc j v hv)
theorem Cz{i:Nat}{x x':bu}(hi:L[i]?=some x)(hf:x'.sK=x.sK)(hd:L.Pairwise fun x y=>x.sK=none\/x.sK≠y.sK):(L.set i x').Pairwise fun x y=>x.sK=none\/x.sK≠y.sK:=by
 have hm:(L.set i x').map bu.sK=L.map bu.sK:=by
  rw[List.map_set,hf]
  apply uu
  intro j
  rw[qh]
  split
  .rename_i hij;subst hij
   simp[hi]
   exact(n7.1 hi).1
  rfl
 have h1:(L.map bu.sK).Pairwise fun x y=>x=none\/x≠y:=HS.2 hd
 rw[<-hm]at h1
 exact HS.1 h1
theorem Hp.set{i b:Nat}{c c':Array Value}{e:TypeId}(h:Hp w0 w L)(hi:L[i]?=some (.blk b (.cells c e (0,0)))):Hp w0 (w.setRow b c') (L.set i (.blk b (.cells c' e (0,0)))):=by
 have hx:=h.ok _ (lX hi)
 have hil:=(n7.1 hi).1
 refine⟨below_setRow h.below hx.1 c',fun y hy=> ?_,Cz hi O h.L8⟩
 obtain⟨j,hj,Fw⟩:=vA.1 hy
 rw[zO]at Fw
 split at Fw
 .subst Fw
  exact⟨hx.1,setRow_heap w b c c' e (0,0) hx.2⟩
 rename_i hne
 have hjL:j<L.length:=by simpa using hj
 have hyL:y∈L:=Fw▸qD hjL
 refine bu.DN (h.ok y hyL) fun bb hf=>setRow_other w b bb c' fun Ip=> ?_
 subst Ip
 have hp:=Rq.1 h.L8
 have hLi:L[i]= .blk bb (.cells c e (0,0)):=(n7.1 hi).2
 rcases X0 hne with hlt|hgt
 .rcases hp i j hil hjL hlt with h0|h0
  .rw[hLi]at h0;cases h0
  rw[hLi,Fw,hf]at h0;exact h0 O
 rcases hp j i hjL hil hgt with h0|h0
 .rw[Fw,hf]at h0;cases h0
 rw[hLi,Fw,hf]at h0;exact h0 O
theorem Hp.get{i:Nat}{x:bu}(h:Hp w0 w L)(hi:L[i]?=some x):x.ok w0.heap.size w:=h.ok _ (lX hi)
end hp
def sb:Value->Nat
 | .slice (some a) _ _=>a.block
 |_=>0
def so:Value->Nat
 | .slice (some a) _ _=>a.off
 |_=>0
structure Sl(w:World)(v:Value)(sz n:Nat)(cells:List Value):Prop where
 shape:∃a cap,v= .slice a n cap/\n<=cap/\(0<n->a=some ⟨sb v,so v,none⟩)
 len:cells.length=n*sz
 cell:∀j c,cells[j]?=some c->w.cell? ⟨sb v,so v+j,none⟩=some c
 small:n<=maxLen
section sl
variable{P:Program}{w0 w w':World}{L:List bu}{v:Value}{sz n:Nat}{cells:List Value}
theorem Sl.nil(w:World)(sz:Nat):Sl w (.slice none 0 0) sz 0 []:=⟨⟨none,0,rfl,eu _,fun h=>J⟩,aJ,fun j c h=>by simp at h,fT⟩
theorem Sl.below(h:Sl w v sz n cells)(hb:Below w.heap.size w w'):Sl w' v sz n cells:=
 ⟨h.shape,h.len,fun j c hc=>by
  have h1:=h.cell j c hc
  rw[hb.cell (World.block_lt_of_cell? w _ h1)];exact h1,h.small⟩
theorem Sl.hp(h:Sl w0 v sz n cells)(hp:Hp w0 w L):Sl w v sz n cells:=h.below hp.below
theorem Sl.Ss{base:Nat}{e:TypeId}(h:w.ownsRow base e sz v n cells):Sl w v sz n cells:=by
 obtain⟨h1,h2⟩:=h
 rcases h2 with⟨rfl,rfl⟩|⟨gb,cap,cur,rfl,hb,hg,hn,hm,hs,ht⟩
 .have:cells=[]:=zK Fv
  subst this;exact Sl.nil w sz
 refine⟨⟨_,cap,rfl,hn,fun _=>rfl⟩,h1,fun j c hc=> ?_,kf hn hm⟩
 simp only[sb,so,gQ]
 rw[xX w _ _ cur e (0,0) hg]
 rw[<-ht,vx]at hc
 split at hc
 .simpa using hc
 .cases hc
theorem Hp.sl{i:Nat}{e:TypeId}(h:Hp w0 w L)(hi:L[i]?=some (.row v e sz n cells)):Sl w v sz n cells:=Sl.Ss (h.get hi)
theorem Hp.dU{i b:Nat}{c:Array Value}{e:TypeId}(h:Hp w0 w L)(hi:L[i]?=some (.blk b (.cells c e (0,0))))(hl:c.size=n*sz)(hs:n<=maxLen):Sl w (.slice (some ⟨b,0,none⟩) n n) sz n c.toList:=
 ⟨⟨_,n,rfl,eu _,fun _=>rfl⟩,by simpa using hl,fun j u hu=>by
  simp only[sb,so,gQ]
  exact h.cell hi pz,hs⟩
section ops
variable{σ:Env}{dst:Option Tmp}{ty t:TypeId}{pos:String}{bO:Array Edge}{g:Option (Nat×Bool)}{x y:Operand}
theorem ah{e:TypeId}{k:IntKind}{i:Int}(hS:Sl w v sz n cells)(hu:P.underlying t=some (.slice e))(hs:∀w,(sizeOf e).run P w= .ok sz w)
  (hx:ev σ x=v) (hy:ev σ y= .int k i) (hi:0<=i/\i<n):
  (execOp (ev σ) ⟨dst,.indexAddr t x y,ty,pos,bO,g⟩).run P w= .ok (.value (.pointer (some ⟨sb v,so v+i.toNat*sz,none⟩))) w:=by
 obtain⟨a,cap,hv,hnc,ha⟩:=hS.shape
 have ha':=ha J
 have hx':ev σ x= .slice (some ⟨sb v,so v,none⟩) n cap:=by rw[hx,hv,<-hv];rw[<-ha'];exact hv
 simp[execOp,Instr.indexAt,kP hu,hx',hy,asIntOf,hi,hs,HW]
theorem aD{e:TypeId}{ats:Array TypeId}(hS:Sl w v sz n cells)(ht:ats[0]?=some t)(hu:P.underlying t=some (.slice e))(hx:ev σ x=v):
  (execOp (ev σ) ⟨dst,.call {callee:= .builtin .len,args:=#[x],argTypes:=ats},ty,pos,bO,g⟩).run P w= .ok (.value (I n)) w:=by
 obtain⟨a,cap,hv,hnc,ha⟩:=hS.shape
 exact agh ht hu hx hv
end ops
end sl
section aDv
variable{P:Program}{n:Nat}{ops:Array Oper}{k:K}{rest:List Oper}{σ:Env}{w0 w:World}{L:List bu}{op:Op}{ty:TypeId}{pos:String}{bO:Array Edge}{d:Nat}
theorem YL{o:Obj}(hd:Nat.blt d n=true)(hH:Hp w0 w L){f:Nat->Value}(hr:(execOp (ev σ) ⟨some d,op,ty,pos,bO,none⟩).run P w= .ok (.value (f w.heap.size)) (w.alloc o))
  (hk:∀b w',Hp w0 w' (.blk b o::L)->RL P n ops k rest (me σ d (f b)) w'):RL P n ops k (⟨some d,op,ty,pos,bO,none⟩::rest) σ w:=
 pA hd hr (hk _ _ (hH.alloc o))
theorem bg{i b:Nat}{c c':Array Value}{e:TypeId}(hH:Hp w0 w L)(hi:L[i]?=some (.blk b (.cells c e (0,0))))
  (hr:(execOp (ev σ) ⟨none,op,ty,pos,bO,none⟩).run P w= .ok .skip (w.setRow b c'))
  (hk:∀w',Hp w0 w' (L.set i (.blk b (.cells c' e (0,0))))->RL P n ops k rest σ w'):RL P n ops k (⟨none,op,ty,pos,bO,none⟩::rest) σ w:=
 Il hr (hk _ (hH.set hi))
def Pure(v:Value)(w:World):Ending->World->Prop:=j3 fun u w'=>u=v/\Below w.heap.size w w'
def tg(e:TypeId)(sz m:Nat)(xs:List Value)(w:World):Ending->World->Prop:=j3 fun v w'=>w'.ownsRow w.heap.size e sz v m xs/\Below w.heap.size w w'
theorem aH{f:FuncId}{args:Array Value}{v:Value}(hd:Nat.blt d n=true)(hH:Hp w0 w L)(hc:Calls P f args w (Pure v w))
  (hr:(execOp (ev σ) ⟨some d,op,ty,pos,bO,none⟩).run P w= .ok (.enter f args) w)
  (hk:∀w',Hp w0 w' L->RL P n ops k rest (me σ d v) w'):RL P n ops k (⟨some d,op,ty,pos,bO,none⟩::rest) σ w:=
 Im hd hr hc fun u w' ⟨hu,hb⟩=>by subst hu;exact hk w' (hH.call hb)
theorem CA{f:FuncId}{args:Array Value}{e:TypeId}{sz m:Nat}{xs:List Value}(hd:Nat.blt d n=true)(hH:Hp w0 w L)(hc:Calls P f args w (tg e sz m xs w))
  (hr:(execOp (ev σ) ⟨some d,op,ty,pos,bO,none⟩).run P w= .ok (.enter f args) w)
  (hk:∀v w',Hp w0 w' (.row v e sz m xs::L)->RL P n ops k rest (me σ d v) w'):RL P n ops k (⟨some d,op,ty,pos,bO,none⟩::rest) σ w:=
 Im hd hr hc fun u w' ⟨hu,hb⟩=>hk u w' (hH.DO hb hu)
end aDv
def AN(P:Program)(n:Nat)(l:List Oper)(S:World->Prop)(k:K)(fuel:Nat)(listed:Array Bool)(σ:Env)(w:World):Prop:=
 ∀a,Is n σ a->wpAnyH P .any l.toArray (sw n k) S fuel listed a w
section agk
variable{P:Program}{n:Nat}{l:List Oper}{S:World->Prop}{k:K}{xs:List (Nat×K)}{r:K}{σ:Env}{w w0:World}{L:List bu}{fuel i d:Nat}{listed:Array Bool}{op:Op}{ty:TypeId}{pos:String}{bO:Array Edge}{g:Option (Nat×Bool)}{v:Value}{dst:Option Tmp}
theorem ew{id:Nat}(hm:P.follows .mixedOrders=true)(hH:Hp w0 w L)
  (h:∀w',Hp w0 w' L->AN P n l (fun w=>Hp w0 w L) k l.length (Array.replicate l.length false) σ w'):CW P n (.region id l.toArray true) k xs r σ w:=by
 intro a ha
 refine zR (fun e a' w' hq=> ?_) (Yn (id:=id) (Q:=sw n k) hm (Yo (S:=fun w=>Hp w0 w L) _ _ _ _ ?_))
 .cases e with
  |normal=>exact hq
  |exit id=>exact hq.elim
  |ret=>exact hq.elim
  |goto l=>exact hq.elim
  |panic c=>exact hq.elim
  |outgrown=>exact hq.elim
 have:=h _ hH.drew a ha
 simpa using this
theorem awx(hr:Region.ready .any l.toArray listed=[])(h:k σ w):AN P n l S k fuel listed σ w:=by
 intro a ha
 cases fuel with
 |zero=>exact⟨hr,σ,ha,h⟩
 |succ f=>exact⟨fun _=>⟨σ,ha,h⟩,fun i hi=>by rw[hr]at hi;cases hi⟩
theorem agl(i:Nat)(hi:l[i]?=some ⟨some d,op,ty,pos,bO,none⟩)(hd:Nat.blt d n=true)(hs:Region.noSelect l.toArray=true)(hf:Region.free .any l.toArray listed i=true)
  (hr:(Region.ready .any l.toArray listed).contains i=true) (hS:S w) (hy:∀w,S w->(execOp (ev σ) ⟨some d,op,ty,pos,bO,none⟩).run P w= .ok (.value v) w)
  (h:AN P n l S k fuel (listed.setIfInBounds i true) (me σ d v) w):AN P n l S k (fuel+1) listed σ w:=by
 intro a ha
 refine RV (i:=i) (oi:=⟨some d,op,ty,pos,bO,none⟩) (v:=v) z6 hs hf hr (fun c a w hq=>hq.elim) (.inl ⟨rfl,fun w hw=> ?_⟩) hS (h _ (ha.put hd v))
 rw[ha.eval];exact hy w hw
theorem arN(i:Nat){j dj:Nat}{want:Bool}(hi:l[i]?=some ⟨some d,op,ty,pos,bO,some (j,want)⟩)(hj:(l[j]?).bind (·.dst)=some dj)(hb:σ dj= .bool want)(hd:Nat.blt d n=true)
  (hs:Region.noSelect l.toArray=true) (hf:Region.free .any l.toArray listed i=true)
  (hr:(Region.ready .any l.toArray listed).contains i=true) (hS:S w) (hy:∀w,S w->(execOp (ev σ) ⟨some d,op,ty,pos,bO,some (j,want)⟩).run P w= .ok (.value v) w)
  (h:AN P n l S k fuel (listed.setIfInBounds i true) (me σ d v) w):AN P n l S k (fuel+1) listed σ w:=by
 intro a ha
 refine RV (i:=i) (oi:=⟨some d,op,ty,pos,bO,some (j,want)⟩) (v:=v) z6 hs hf hr (fun c a w hq=>hq.elim)
  (.inl ⟨by rw[Io ha (by simpa using hj) hb];simp,fun w hw=> ?_⟩) hS (h _ (ha.put hd v))
 rw[ha.eval];exact hy w hw
theorem awy(i:Nat){j dj:Nat}{b want:Bool}(hi:l[i]?=some ⟨some d,op,ty,pos,bO,some (j,want)⟩)(hj:(l[j]?).bind (·.dst)=some dj)(hb:σ dj= .bool b)(hne:(b==want)=false)(hd:Nat.blt d n=true)
  (hs:Region.noSelect l.toArray=true) (hf:Region.free .any l.toArray listed i=true)
  (hr:(Region.ready .any l.toArray listed).contains i=true) (hS:S w)
  (h:AN P n l S k fuel (listed.setIfInBounds i true) (me σ d undef) w):AN P n l S k (fuel+1) listed σ w:=by
 intro a ha
 exact RV (i:=i) (oi:=⟨some d,op,ty,pos,bO,some (j,want)⟩) (v:=undef) z6 hs hf hr (fun c a w hq=>hq.elim)
  (.inr ⟨by rw[Io ha (by simpa using hj) hb];exact hne,rfl⟩) hS (h _ (ha.put hd undef))
theorem awz(i:Nat){j dj:Nat}{want:Bool}(hi:l[i]?=some ⟨some d,op,ty,pos,bO,some (j,want)⟩)(hj:(l[j]?).bind (·.dst)=some dj)(hu:σ dj=undef)(hd:Nat.blt d n=true)
  (hs:Region.noSelect l.toArray=true) (hf:Region.free .any l.toArray listed i=true)
  (hr:(Region.ready .any l.toArray listed).contains i=true) (hS:S w)
  (h:AN P n l S k fuel (listed.setIfInBounds i true) (me σ d undef) w):AN P n l S k (fuel+1) listed σ w:=by
 intro a ha
 exact RV (i:=i) (oi:=⟨some d,op,ty,pos,bO,some (j,want)⟩) (v:=undef) z6 hs hf hr (fun c a w hq=>hq.elim)
  (.inr ⟨Gq ha (by simpa using hj) hu _,rfl⟩) hS (h _ (ha.put hd undef))
def AO(P:Program)(n:Nat)(l:List Oper)(S:World->Prop)(k:K)(fuel:Nat)(listed:Array Bool)(σ:Env)(w:World)(i:Nat):Prop:=
 ∀a,Is n σ a->wpOp P l.toArray (sw n k) i (fun a' w'=>S w'/\wpAnyH P .any l.toArray (sw n k) S fuel (listed.setIfInBounds i true) a' w') a w
theorem abb(rs:List Nat)(hr:Region.ready .any l.toArray listed=rs)(hne:rs.isEmpty=false)(h:∀i∈rs,AO P n l S k fuel listed σ w i):AN P n l S k (fuel+1) listed σ w:=by
 intro a ha
 exact wpAnyH_all hr (by intro h0;simp[h0]at hne) fun i hi=>h i hi a ha
theorem awA(i:Nat)(hr:Region.ready .any l.toArray listed=[i])(h:AO P n l S k fuel listed σ w i):AN P n l S k (fuel+1) listed σ w:=by simp_all[abb]
theorem YM{o:Oper}(hi:l[i]?=some o)(hw:∀a,Is n σ a->Region.wanted o (yielded l.toArray a.tmps)=true)
  (h:∀a,Is n σ a->o.upon P a (fun a' w'=>S w'/\wpAnyH P .any l.toArray (sw n k) S fuel (listed.setIfInBounds i true) a' w') (sw n k) ((execOp (ev σ) o).run P w)):AO P n l S k fuel listed σ w i:=by
 intro a ha
 have hi':l.toArray[i]?=some o:=z6
 unfold wpOp
 simp only[hi',hw a ha,uB]
 refine .inl ?_
 unfold Oper.wp
 rw[ha.eval]
 exact h a ha
theorem CB{w':World}(hi:l[i]?=some ⟨some d,op,ty,pos,bO,g⟩)(hg:∀a,Is n σ a->Region.wanted ⟨some d,op,ty,pos,bO,g⟩ (yielded l.toArray a.tmps)=true)(hd:Nat.blt d n=true)
  (hr:(execOp (ev σ) ⟨some d,op,ty,pos,bO,g⟩).run P w= .ok (.value v) w') (hS:S w') (h:AN P n l S k fuel (listed.setIfInBounds i true) (me σ d v) w'):AO P n l S k fuel listed σ w i:=
 YM hi hg fun a ha=>by rw[hr];exact⟨hS,h _ (ha.put hd v)⟩
theorem Iq{w':World}(hi:l[i]?=some ⟨none,op,ty,pos,bO,g⟩)(hg:∀a,Is n σ a->Region.wanted ⟨none,op,ty,pos,bO,g⟩ (yielded l.toArray a.tmps)=true)
  (hr:(execOp (ev σ) ⟨none,op,ty,pos,bO,g⟩).run P w= .ok .skip w') (hS:S w') (h:AN P n l S k fuel (listed.setIfInBounds i true) σ w'):AO P n l S k fuel listed σ w i:=
 YM hi hg fun a ha=>by rw[hr];exact⟨hS,h _ ha⟩
theorem St{f:FuncId}{args:Array Value}{q:Value->World->Prop}(hi:l[i]?=some ⟨some d,op,ty,pos,bO,g⟩)(hg:∀a,Is n σ a->Region.wanted ⟨some d,op,ty,pos,bO,g⟩ (yielded l.toArray a.tmps)=true)(hd:Nat.blt d n=true)
  (hc:Calls P f args w (j3 q)) (hr:(execOp (ev σ) ⟨some d,op,ty,pos,bO,g⟩).run P w= .ok (.enter f args) w)
  (h:∀v w',q v w'->S w'/\AN P n l S k fuel (listed.setIfInBounds i true) (me σ d v) w'):AO P n l S k fuel listed σ w i:=
 YM hi hg fun a ha=>by
  rw[hr]
  refine hc.mono fun e w' hq=> ?_
  cases e with
  |returned v=>exact⟨(h v w' hq).1,(h v w' hq).2 _ (ha.put hd v)⟩
  |panicked c=>exact hq.elim
  |outgrown=>exact hq.elim
theorem aC(a:Act)(_:Is n σ a):Region.wanted ⟨dst,op,ty,pos,bO,none⟩ (yielded l.toArray a.tmps)=true:=rfl
theorem yM{j dj:Nat}{want:Bool}(hj:(l[j]?).bind (·.dst)=some dj)(hb:σ dj= .bool want)(a:Act)(ha:Is n σ a):Region.wanted ⟨dst,op,ty,pos,bO,some (j,want)⟩ (yielded l.toArray a.tmps)=true:=by grind[Io]
theorem cB{L':List bu}{o:Obj}{f:Nat->Value}(hi:l[i]?=some ⟨some d,op,ty,pos,bO,g⟩)(hg:∀a,Is n σ a->Region.wanted ⟨some d,op,ty,pos,bO,g⟩ (yielded l.toArray a.tmps)=true)(hd:Nat.blt d n=true)
  (hH:Hp w0 w L') (hs:L.Sublist L') (hr:(execOp (ev σ) ⟨some d,op,ty,pos,bO,g⟩).run P w= .ok (.value (f w.heap.size)) (w.alloc o))
  (h:∀b w',Hp w0 w' (.blk b o::L')->AN P n l (fun w=>Hp w0 w L) k fuel (listed.setIfInBounds i true) (me σ d (f b)) w'):AO P n l (fun w=>Hp w0 w L) k fuel listed σ w i:=
 CB hi hg hd hr ((hH.alloc o).sub (hs.cons _)) (h _ _ (hH.alloc o))
theorem cm{L':List bu}{f:FuncId}{args:Array Value}(hi:l[i]?=some ⟨some d,op,ty,pos,bO,g⟩)(hg:∀a,Is n σ a->Region.wanted ⟨some d,op,ty,pos,bO,g⟩ (yielded l.toArray a.tmps)=true)(hd:Nat.blt d n=true)
  (hH:Hp w0 w L') (hs:L.Sublist L') (hc:Calls P f args w (Pure v w)) (hr:(execOp (ev σ) ⟨some d,op,ty,pos,bO,g⟩).run P w= .ok (.enter f args) w)
  (h:∀w',Hp w0 w' L'->AN P n l (fun w=>Hp w0 w L) k fuel (listed.setIfInBounds i true) (me σ d v) w'):AO P n l (fun w=>Hp w0 w L) k fuel listed σ w i:=
 St hi hg hd hc hr fun u w' ⟨hu,hb⟩=>by subst hu;exact⟨(hH.call hb).sub hs,h w' (hH.call hb)⟩
theorem L9{L':List bu}{f:FuncId}{args:Array Value}{e:TypeId}{sz m:Nat}{ys:List Value}(hi:l[i]?=some ⟨some d,op,ty,pos,bO,g⟩)(hg:∀a,Is n σ a->Region.wanted ⟨some d,op,ty,pos,bO,g⟩ (yielded l.toArray a.tmps)=true)(hd:Nat.blt d n=true)
  (hH:Hp w0 w L') (hs:L.Sublist L') (hc:Calls P f args w (tg e sz m ys w)) (hr:(execOp (ev σ) ⟨some d,op,ty,pos,bO,g⟩).run P w= .ok (.enter f args) w)
  (h:∀u w',Hp w0 w' (.row u e sz m ys::L')->AN P n l (fun w=>Hp w0 w L) k fuel (listed.setIfInBounds i true) (me σ d u) w'):AO P n l (fun w=>Hp w0 w L) k fuel listed σ w i:=
 St hi hg hd hc hr fun u w' ⟨hu,hb⟩=>⟨(hH.call hb).sub hs,h u w' (hH.DO hb hu)⟩
end agk
def Fr(ws:List Nat)(σ σ':Env):Prop:=∀i,ws.contains i=false->σ' i=σ i
theorem Fr.refl(ws:List Nat)(σ:Env):Fr ws σ σ:=fun _ _=>rfl
theorem Fr.u{ws:List Nat}{σ σ':Env}{d:Nat}{v:Value}(h:Fr ws σ σ')(hd:ws.contains d=true):Fr ws σ (me σ' d v):=fun i hi=>by
 rw[YH];exact h i hi
 intro e;subst e;rw[hd]at hi;cases hi
theorem Fr.t{ws ws2:List Nat}{σ σ' awB:Env}(h:Fr ws σ σ')(h2:Fr ws2 σ' awB)(hs:ws2.all (ws.contains ·)=true):Fr ws σ awB:=fun i hi=>by
 rw[h2 i,h i hi]
 cases hc:ws2.contains i with
 |false=>rfl
 |true=>
  have:=iQ.1 hs i (by simpa using hc)
  rw[hi]at this;cases this
section short
variable{P:Program}{n:Nat}{ops:Array Oper}{k:K}{xs:List (Nat×K)}{r:K}{rest l:List Oper}{σ:Env}{w:World}{b:Bool}{p:Prop}{v:Value}
theorem bT[Decidable p](h:p):Value.bool (decide p)= .bool true:=by grind
theorem bF[Decidable p](h:¬p):Value.bool (decide p)= .bool false:=by grind
theorem bR{c:Bool}(h:b=c):Value.bool b= .bool c:=aK Value.bool h
theorem aDx{dj:Nat}(hb:σ dj= .bool b)(ht:b=true->RL P n ops k l σ w)(hf:b=false->RL P n ops k l σ w):RL P n ops k l σ w:=by grind
theorem aDy[Decidable p]{dj:Nat}(hb:σ dj= .bool (decide p))(ht:p->RL P n ops k l σ w)(hf:¬p->RL P n ops k l σ w):RL P n ops k l σ w:=by grind
theorem Ma{S:World->Prop}{fuel:Nat}{listed:Array Bool}{dj:Nat}(hb:σ dj= .bool b)(ht:b=true->AN P n l S k fuel listed σ w)(hf:b=false->AN P n l S k fuel listed σ w):AN P n l S k fuel listed σ w:=by grind
theorem CC{S:World->Prop}{fuel:Nat}{listed:Array Bool}[Decidable p]{dj:Nat}(hb:σ dj= .bool (decide p))(ht:p->AN P n l S k fuel listed σ w)(hf:¬p->AN P n l S k fuel listed σ w):AN P n l S k fuel listed σ w:=by grind
variable{dst:Option Tmp}{ty:TypeId}{pos:String}{bO:Array Edge}{g:Option (Nat×Bool)}{f:FuncId}{ats:Array TypeId}{x1 x2 x3 x4 x5 x6 x:Operand}{v1 v2 v3 v4 v5 v6:Value}{cap:Array Value}
theorem DP(hf:∀args w,(callFunc f args).run P w= .ok (.enter f args) w):
 (execOp (ev σ) ⟨dst,.call {callee:= .value (.func f),args:=#[],argTypes:=ats},ty,pos,bO,g⟩).run P w= .ok (.enter f #[]) w:=yL (HK:=[]) hf O
theorem ay(hf:∀args w,(callFunc f args).run P w= .ok (.enter f args) w)(h1:ev σ x1=v1):
 (execOp (ev σ) ⟨dst,.call {callee:= .value (.func f),args:=#[x1],argTypes:=ats},ty,pos,bO,g⟩).run P w= .ok (.enter f #[v1]) w:=by grind[yL]
theorem aL(hf:∀args w,(callFunc f args).run P w= .ok (.enter f args) w)(h1:ev σ x1=v1)(h2:ev σ x2=v2):
 (execOp (ev σ) ⟨dst,.call {callee:= .value (.func f),args:=#[x1,x2],argTypes:=ats},ty,pos,bO,g⟩).run P w= .ok (.enter f #[v1,v2]) w:=by grind[yL]
theorem bA(hf:∀args w,(callFunc f args).run P w= .ok (.enter f args) w)(h1:ev σ x1=v1)(h2:ev σ x2=v2)(h3:ev σ x3=v3):
 (execOp (ev σ) ⟨dst,.call {callee:= .value (.func f),args:=#[x1,x2,x3],argTypes:=ats},ty,pos,bO,g⟩).run P w= .ok (.enter f #[v1,v2,v3]) w:=by grind[yL]
theorem jE(hf:∀args w,(callFunc f args).run P w= .ok (.enter f args) w)(h1:ev σ x1=v1)(h2:ev σ x2=v2)(h3:ev σ x3=v3)(h4:ev σ x4=v4):
 (execOp (ev σ) ⟨dst,.call {callee:= .value (.func f),args:=#[x1,x2,x3,x4],argTypes:=ats},ty,pos,bO,g⟩).run P w= .ok (.enter f #[v1,v2,v3,v4]) w:=by grind[yL]
theorem sL(hf:∀args w,(callFunc f args).run P w= .ok (.enter f args) w)(h1:ev σ x1=v1)(h2:ev σ x2=v2)(h3:ev σ x3=v3)(h4:ev σ x4=v4)(h5:ev σ x5=v5):
 (execOp (ev σ) ⟨dst,.call {callee:= .value (.func f),args:=#[x1,x2,x3,x4,x5],argTypes:=ats},ty,pos,bO,g⟩).run P w= .ok (.enter f #[v1,v2,v3,v4,v5]) w:=by grind[yL]
theorem YN(hf:∀args w,(callFunc f args).run P w= .ok (.enter f args) w)(hx:ev σ x= .func (.func f) #[] cap)(h1:ev σ x1=v1):
 (execOp (ev σ) ⟨dst,.call {callee:= .value x,args:=#[x1],argTypes:=ats},ty,pos,bO,g⟩).run P w= .ok (.enter f (#[v1]++cap)) w:=by grind[PL]
theorem CD{fn:Fn}(h1:ev σ x1=v1):(execOp (ev σ) ⟨dst,.makeFunc fn #[] #[x1],ty,pos,bO,g⟩).run P w= .ok (.value (.func fn #[] #[v1])) w:=by grind[uU]
theorem tA{fn:Fn}(h1:ev σ x1=v1)(h2:ev σ x2=v2):(execOp (ev σ) ⟨dst,.makeFunc fn #[] #[x1,x2],ty,pos,bO,g⟩).run P w= .ok (.value (.func fn #[] #[v1,v2])) w:=by grind[uU]
theorem Mb{fn:Fn}(h1:ev σ x1=v1)(h2:ev σ x2=v2)(h3:ev σ x3=v3):(execOp (ev σ) ⟨dst,.makeFunc fn #[] #[x1,x2,x3],ty,pos,bO,g⟩).run P w= .ok (.value (.func fn #[] #[v1,v2,v3])) w:=by grind[uU]
variable{fn:Func}{w0:World}
theorem Gu{t:Nat}(h:fn.results=#[.tmp t])(hv:σ t=v)(hb:Below w0.heap.size w0 w):Out P fn (fun u w'=>u=v/\Below w0.heap.size w0 w') σ w:=jx h hv ⟨rfl,hb⟩
theorem kE{t u:Nat}{y z:Value}(h:fn.results=#[.tmp t,.tmp u])(hy:σ t=y)(hz:σ u=z)(hb:Below w0.heap.size w0 w):Out P fn (fun u w'=>u= .tuple #[y,z]/\Below w0.heap.size w0 w') σ w:=agd h hy hz ⟨rfl,hb⟩
end short
section app
variable{P:Program}{w0 w:World}{L:List bu}
theorem tB{base:Nat}{t ty e:TypeId}{i:TypeInfo}{z:Value}{size bytes:Nat}(ht:P.underlying t=some (.slice e))(hi:P.info? e=some i)(hz:i.zero=some z)
  (hsize:i.size=size) (hby:i.bytes=bytes) (hzs:z.cells.size=size) (hsz:0<size)
  {v:Value} {n:Nat} {xs:List Value} (hown:w.ownsRow base e size v n xs) {y:Value} {m:Nat} {news:List Value} (hS:Sl w y size m news) (h1:∀u∈news,u.oneCell'=true)
  (h63:n+m<=maxLen) (hbytes:(n+m)*bytes<=140737488355328) (hbase:base<=w.heap.size):
  ∃v' w',(Builtin.append_ #[t,t] ty #[v,y]).run P w= .ok v' w'/\w'.ownsRow base e size v' (n+m) (xs++news)/\w.grownBy w' v.ownBlock/\
   (v'.ownBlock=none\/v'.ownBlock=v.ownBlock\/v'.ownBlock=some w.heap.size):=by
 obtain⟨a,c,hy,hnc,ha⟩:=hS.shape
 by_cases hm:m=0
 .subst hm
  have hn:news=[]:=zK (by simpa using hS.len)
  subst hn
  refine⟨v,w,?_,by simpa using hown,⟨rfl,rfl,rfl,eu _,fun _ _ _=>rfl⟩,.inr (.inl O)⟩
  subst hy
  rcases hown.2 with⟨rfl,rfl⟩|⟨g,cap,cur,rfl,hbg,hg,hnc,hcm,hcs,awC⟩
  .cases a<;>simp[Builtin.append_,kP ht,sizeOf,typeInfo,hi,Builtin.lenOf,Builtin.firstCells,loadCells,loadCellsFrom]
  .cases a<;>simp[Builtin.append_,kP ht,sizeOf,typeInfo,hi,Builtin.lenOf,Builtin.firstCells,loadCells,loadCellsFrom,hnc,storeCells]
 have ha':=ha J
 have hyy:y= .slice (some ⟨sb y,so y,none⟩) m c:=by rw[<-ha'];exact hy
 have hnews:∀j u,news[j]?=some u->w.cell? ((⟨sb y,so y,none⟩:Addr).add j)=some u:=fun j u hu=>by rw[HW];exact hS.cell j u hu
 obtain⟨v',w',hr,h2,h3,h4⟩:=run_append_own (P:=P) w base t ty e i z size bytes ht hi hz hsize hby hzs hsz v n xs hown ⟨sb y,so y,none⟩ m c news hS.len hnews h1 h63 hbytes hbase
 rw[hyy]
 refine⟨v',w',hr,h2,h3,?_⟩
 subst hsize
 subst hby
 have hsmall:n+m<=9223372036854775807:=by simp only[maxLen]at h63;omega
 rcases hown.2 with⟨rfl,rfl⟩|⟨g,cap,cur,rfl,hbg,hg,hnc,hcm,hcs,awC⟩
 .have hr2:=run_append_nil (P:=P) w t ty e i z ht hi hz ⟨sb y,so y,none⟩ m c news hS.len hnews J J aa6
  rw[hr2]at hr
  injection hr with e1 e2
  subst e1
  exact .inr (.inr O)
 by_cases hroom:n+m<=cap
 .have hfit:n*i.size+news.length<=cur.size:=by rw[hS.len,hcs,<-lF];exact sr _ hroom
  have hr2:=run_append_room (P:=P) w t ty e i ht hi g n cap cur hg ⟨sb y,so y,none⟩ m c news hS.len hnews h1 hroom hfit
  rw[hr2]at hr
  injection hr with e1 e2
  subst e1
  exact .inr (.inl O)
 have holds:∀j u,xs[j]?=some u->w.cell? ((⟨g,0,none⟩:Addr).add j)=some u:=hown.cells (g:=g) O
 have hr2:=run_append_grow (P:=P) w t ty e i z ht hi hz ⟨g,0,none⟩ n cap xs hown.1 holds ⟨sb y,so y,none⟩ m c news hS.len hnews J J (growslice_fits J hbytes)
 rw[hr2]at hr
 injection hr with e1 e2
 subst e1
 exact .inr (.inr O)
theorem Hp.yN{w':World}{i:Nat}{v v':Value}{e:TypeId}{sz n m:Nat}{xs ys:List Value}(h:Hp w0 w L)(hi:L[i]?=some (.row v e sz n xs))
  (hr:w'.ownsRow w0.heap.size e sz v' m ys) (hg:w.grownBy w' v.ownBlock) (hf:v'.ownBlock=none\/v'.ownBlock=v.ownBlock\/v'.ownBlock=some w.heap.size):Hp w0 w' (L.set i (.row v' e sz m ys)):=by
 have hx:=h.get hi
 have hil:=(n7.1 hi).1
 have hLi:L[i]= .row v e sz n xs:=(n7.1 hi).2
 have hp:=Rq.1 h.L8
 have agm:∀j (hj:j<L.length),j≠i->∀b,(L[j]).sK=some b->v.ownBlock≠some b:=by
  intro j hj hne b hb he
  rcases X0 hne with hlt|hgt
  .rcases hp j i hj hil hlt with h0|h0
   .rw[hb]at h0;cases h0
   rw[hb,hLi]at h0;exact h0 he.symm
  rcases hp i j hil hj hgt with h0|h0
  .rw[hLi]at h0;simp only[bu.sK]at h0;rw[he]at h0;cases h0
  rw[hb,hLi]at h0;exact h0 he
 refine⟨h.below.grown hg h.size fun k hk=>(hx.lt k hk).1,fun y hy=> ?_,?_⟩
 .obtain⟨j,hj,Fw⟩:=vA.1 hy
  rw[zO]at Fw
  split at Fw
  .subst Fw;exact hr
  rename_i hne
  have hjL:j<L.length:=by simpa using hj
  have hyL:y∈L:=Fw▸qD hjL
  refine bu.DN (h.ok y hyL) fun b hb=>hg.block b (bu.JI (h.ok y hyL) b hb).2 fun e=> ?_
  exact agm j hjL (fun e=>hne e.symm) b (by rw[Fw];exact hb) e.symm
 refine Rq.2 fun a b ha hb hab=> ?_
 have haL:a<L.length:=by simpa using ha
 have hbL:b<L.length:=by simpa using hb
 rw[zO,zO]
 have key:∀j (hj:j<L.length),j≠i->v'.ownBlock=none\/(L[j]).sK=none\/v'.ownBlock≠(L[j]).sK:=by
  intro j hj hne
  cases hfj:(L[j]).sK with
  |none=>exact .inr (.inl O)
  |some c=>
   rcases hf with h0|h0|h0
   .exact .inl h0
   .refine .inr (.inr fun e=>agm j hj hne c hfj ?_);rw[<-h0,e]
   refine .inr (.inr fun e=> ?_)
   have:=(bu.JI (h.ok _ (qD hj)) c hfj).2
   rw[h0]at e;injection e with e;omega
 by_cases hia:i=a
 .subst hia
  rw[aY O,aW J]
  rcases key b hbL (by omega)with h0|h0|h0
  .exact .inl h0
  .cases hv:v'.ownBlock with
   |none=>exact .inl hv
   |some c=>exact .inr (by rw[h0];show v'.ownBlock≠none;rw[hv];simp)
  exact .inr h0
 rw[aW hia]
 by_cases hib:i=b
 .subst hib
  rw[aY O]
  rcases key a haL (by omega)with h0|h0|h0
  .cases hv:(L[a]).sK with
   |none=>exact .inl O
   |some c=>exact .inr (by show some c≠v'.ownBlock;rw[h0];simp)
  .exact .inl h0
  exact .inr fun e=>h0 e.symm
 rw[aW hib]
 exact hp a b haL hbL hab
variable{n:Nat}{ops:Array Oper}{k:K}{rest:List Oper}{σ:Env}{ty:TypeId}{pos:String}{bO:Array Edge}{d:Nat}{x y:Operand}
theorem th{t:TypeId}{v u:Value}{w':World}{v':Value}{dst:Option Tmp}{g:Option (Nat×Bool)}(hx:ev σ x=v)(hy:ev σ y=u)(hr:(Builtin.append_ #[t,t] ty #[v,u]).run P w= .ok v' w'):
  (execOp (ev σ) ⟨dst,.call {callee:= .builtin .append,args:=#[x,y],argTypes:=#[t,t]},ty,pos,bO,g⟩).run P w= .ok (.value v') w':=by
 simp[execOp,resolve,invoke,builtin,hx,hy,hr]
theorem gh{t e:TypeId}{i:Nat}{ie:TypeInfo}{z:Value}{size bytes:Nat}{v u:Value}{m m':Nat}{xs news:List Value}(hd:Nat.blt d n=true)(hH:Hp w0 w L)(hL:L[i]?=some (.row v e size m xs))(hS:Sl w u size m' news)
  (hx:ev σ x=v) (hy:ev σ y=u) (ht:P.underlying t=some (.slice e)) (hi:P.info? e=some ie) (hz:ie.zero=some z)
  (hsize:ie.size=size) (hby:ie.bytes=bytes) (hzs:z.cells.size=size) (hsz:0<size) (h1:∀u∈news,u.oneCell'=true)
  (hbytes:(m+m')*bytes<=140737488355328) (h63:m+m'<=maxLen)
  (hk:∀v' w',Hp w0 w' (L.set i (.row v' e size (m+m') (xs++news)))->RL P n ops k rest (me σ d v') w'):
  RL P n ops k (⟨some d,.call {callee:= .builtin .append,args:=#[x,y],argTypes:=#[t,t]},ty,pos,bO,none⟩::rest) σ w:=by
 obtain⟨v',w',hr,h2,h3,h4⟩:=tB (P:=P) (ty:=ty) ht hi hz hsize hby hzs hsz (hH.get hL) hS h1 h63 hbytes hH.size
 exact pA hd (th hx hy hr) (hk v' w' (hH.yN hL h2 h3 h4))
end app
theorem clI(k:IntKind)(n:Int):(Value.int k n).cells.toList=[Value.int k n]:=rfl
theorem clB(b:Bool):(Value.bool b).cells.toList=[Value.bool b]:=rfl
theorem clS(b:ByteArray):(Value.string b).cells.toList=[Value.string b]:=rfl
theorem clP(a:Option Addr):(Value.pointer a).cells.toList=[Value.pointer a]:=rfl
theorem clL(a:Option Addr)(n c:Nat):(Value.slice a n c).cells.toList=[Value.slice a n c]:=rfl
theorem clA(l:List Value):(Value.agg l.toArray).cells.toList=l:=rfl
section more
variable{P:Program}{w0 w:World}{L L':List bu}{fn:Func}{σ:Env}
theorem Hp.conv(h:Hp w0 w L)(e:L=L'):Hp w0 w L':=e▸h
theorem Hp.perm(h:Hp w0 w L)(hp:L.Perm L'):Hp w0 w L':=
 ⟨h.below,fun x hx=>h.ok x (hp.mem_iff.2 hx),hp.pairwise h.L8 fun{x y} hxy=>by
  cases hy:y.sK with
  |none=>exact .inl O
  |some b=>
   right
   rcases hxy with h0|h0
   .rw[h0];simp
   rw[hy]at h0;exact fun e=>h0 e.symm⟩
theorem Pa{t i:Nat}{v:Value}{e:TypeId}{sz n n':Nat}{xs xs':List Value}(h:fn.results=#[.tmp t])(hv:σ t=v)(hH:Hp w0 w L)(hi:L[i]?=some (.row v e sz n xs))(hn:n=n')(hx:xs=xs'):
  Out P fn (fun u w'=>w'.ownsRow w0.heap.size e sz u n' xs'/\Below w0.heap.size w0 w') σ w:=by
 subst hn;subst hx
 exact jx h hv ⟨hH.get hi,hH.below⟩
theorem eU{xs:List Int}{k:Int}(h:0<=k/\k<xs.length):(xs.map I)[k.toNat*1]?=some (I (xs.getD k.toNat 0)):=by grind
end more
def isD(ops:Array Oper)(j dj:Nat):Bool:=match(ops[j]?).bind (·.dst)with
 |some d=>Nat.beq d dj
 |none=>false
def YO{α:Type}:Bool->α->α->α
 |true,x,_=>x
 |false,_,y=>y
def gv(ops:Array Oper)(dj:Nat)(b:Bool):Option (Nat×Bool)->Option Bool
 |some (j,want)=>YO (isD ops j dj) (some (YO b want (!want))) none
 |none=>none
def pk(dj:Nat)(b:Bool):Op->Op
 | .pick (.tmp c) x y=>YO (Nat.beq c dj) (.move (YO b x y)) (.pick (.tmp c) x y)
 |o=>o
def dE(dj:Nat):Option Tmp->Bool
 |some d=>Nat.beq d dj
 |none=>false
def gs(ops:Array Oper)(dj:Nat)(b:Bool):List Oper->List Oper
 |[]=>[]
 |o::r=>match gv ops dj b o.guard with
  |some true=>⟨o.dst,pk dj b o.op,o.type,o.pos,o.after,none⟩::YO (dE dj o.dst) r (gs ops dj b r)
  |some false=>match o.dst with
   |none=>gs ops dj b r
   |some d=>⟨some d,.move (.const undef),o.type,o.pos,o.after,none⟩::YO (Nat.beq d dj) r (gs ops dj b r)
  |none=>⟨o.dst,pk dj b o.op,o.type,o.pos,o.after,o.guard⟩::YO (dE dj o.dst) r (gs ops dj b r)
def gl(n:Nat)(ops:Array Oper)(dj:Nat)(b:Bool):List Oper->List Oper
 |[]=>[]
 |o::r=>match gv ops dj b o.guard,o.dst with
  |some false,some d=>YO (YO (Nat.beq d dj) false (Nat.blt d n)) (gl n ops dj b r) (gs ops dj b (o::r))
  |some false,none=>gl n ops dj b r
  |_,_=>gs ops dj b (o::r)
def ge(n:Nat)(ops:Array Oper)(dj:Nat)(b:Bool):List Oper->Env->Env
 |[],σ=>σ
 |o::r,σ=>match gv ops dj b o.guard,o.dst with
  |some false,some d=>YO (YO (Nat.beq d dj) false (Nat.blt d n)) (ge n ops dj b r (me σ d undef)) σ
  |some false,none=>ge n ops dj b r σ
  |_,_=>σ
section
variable{P:Program}{n:Nat}{ops:Array Oper}{k:K}{rest l:List Oper}{σ:Env}{w:World}{dj:Nat}{b:Bool}
theorem Ir{a:Act}{o:Oper}{t:Bool}(h:a.tmps[dj]?=some (.bool b))(hg:gv ops dj b o.guard=some t):Region.wanted o (yielded ops a.tmps)=t:=by
 obtain⟨dst,op,ty,pos,bO,g⟩:=o
 cases g with
 |none=>cases hg
 |some jw=>
  obtain⟨j,want⟩:=jw
  simp only[gv]at hg
  cases hi:isD ops j dj with
  |false=>rw[hi]at hg;cases hg
  |true=>
   rw[hi]at hg;simp only[YO,X6]at hg;subst hg
   unfold isD at hi;split at hi
   .rename_i d hd
    have:d=dj:=z6
    subst this
    simp only[Region.wanted,yielded,hd,RE,h]
    cases b<;>cases want<;>rfl
   .cases hi
theorem agn{a:Act}{o:Oper}(h:a.tmps[dj]?=some (.bool b))(g:Option (Nat×Bool)):execOp a.eval ⟨o.dst,pk dj b o.op,o.type,o.pos,o.after,g⟩=execOp a.eval o:=by
 obtain⟨dst,op,ty,pos,bO,g'⟩:=o
 show execOp a.eval ⟨dst,pk dj b op,ty,pos,bO,g⟩=execOp a.eval ⟨dst,op,ty,pos,bO,g'⟩
 unfold pk
 split
 .rename_i c x y
  cases hc:Nat.beq c dj with
  |false=>rfl
  |true=>
   have:c=dj:=by simpa using hc
   subst this
   have e:a.eval (.tmp c)= .bool b:=by
    show a.tmps.getD c undef=_
    rw[xe,h];rfl
   simp only[execOp,e,asBool,YO]
   cases b<;>rfl
 rfl
theorem adf{o:Oper}{a:Act}{N N':Act->World->Prop}{Q:Exit->Act->World->Prop}(hN:∀(a':Act) v w,a'.tmps=a.tmps->N (a'.put o.dst v) w->N' (a'.put o.dst v) w){r:Result Next}(h:o.upon P a N Q r):o.upon P a N' Q r:=by
 unfold Oper.upon at h⊢
 split at h
 .exact hN _ _ _ O h
 .exact hN _ _ _ O h
 .exact hN {a with defers:=_} _ _ O h
 .refine h.mono fun e w' hr=> ?_
  cases e with
  |returned v=>exact hN _ _ _ O hr
  |panicked c=>exact hr
  |outgrown=>exact hr
 .exact fun c cs=>let⟨v,w',r,s⟩:=h c cs;⟨v,w',hN _ _ _ O r,s⟩
 .exact h
 exact h.elim
theorem ago{a a':Act}{d:Option Tmp}{v:Value}(h:a.tmps[dj]?=some (.bool b))(e:a'.tmps=a.tmps)(hd:dE dj d=false):(a'.put d v).tmps[dj]?=some (.bool b):=by
 cases d with
 |none=>simpa[Act.put,e]using h
 |some d=>
  have hne:d≠dj:=by intro e;subst e;simp[dE]at hd
  simp only[Act.put,e]
  rw[EA,aW hne];exact h
theorem apj{Q:Exit->Act->World->Prop}(hL:¬LetsOut Q):∀(l:List Oper) (a:Act) (w:World),a.tmps[dj]?=some (.bool b)->wpList P ops Q (gs ops dj b l) a w->wpList P ops Q l a w
 |[],a,w,_,h=>h
 |o::r,a,w,hb,h=>by
  have next:∀(a':Act) v w,a'.tmps=a.tmps->wpList P ops Q (YO (dE dj o.dst) r (gs ops dj b r)) (a'.put o.dst v) w->wpList P ops Q r (a'.put o.dst v) w:=by
   intro a' v w' e h'
   cases hd:dE dj o.dst with
   |true=>rw[hd]at h';exact h'
   |false=>rw[hd]at h';exact apj hL r _ _ (ago hb e hd) h'
  have run:∀g,(Oper.wp P ⟨o.dst,pk dj b o.op,o.type,o.pos,o.after,g⟩ a w (wpList P ops Q (YO (dE dj o.dst) r (gs ops dj b r))) Q\/(Oper.asks P ⟨o.dst,pk dj b o.op,o.type,o.pos,o.after,g⟩ a w/\LetsOut Q))->
    (o.wp P a w (wpList P ops Q r) Q\/(o.asks P a w/\LetsOut Q)):=by
   intro g hg
   rcases hg with hg|hg
   .left
    unfold Oper.wp at hg⊢
    rw[agn hb]at hg
    exact adf (o:=o) next hg
   right
   unfold Oper.asks at hg⊢
   rw[agn hb]at hg;exact hg
  unfold gs at h
  cases hg:gv ops dj b o.guard with
  |none=>
   rw[hg]at h;simp only[wpList]at h⊢
   have e:Region.wanted ⟨o.dst,pk dj b o.op,o.type,o.pos,o.after,o.guard⟩ (yielded ops a.tmps)=Region.wanted o (yielded ops a.tmps):=by unfold Region.wanted;rfl
   rw[e]at h
   split
   .rename_i hw;rw[aY hw]at h;exact run _ h
   rename_i hw;rw[aW hw]at h;exact next _ _ _ O h
  |some t=>
   rw[hg]at h
   cases t with
   |true=>
    simp only[wpList]at h⊢
    rw[aY (Ir hb hg)]
    rw[aY aM]at h
    exact run _ h
   |false=>
    simp only[wpList]at h⊢
    rw[aW (by rw[Ir hb hg];simp)]
    cases hd:o.dst with
    |none=>
     rw[hd]at h
     rw[hd]at next
     exact next a undef w O h
    |some d=>
     rw[hd]at h
     rw[hd]at next
     simp only[wpList]at h
     rw[aY aM]at h
     rcases h with h|h
     .exact next _ _ _ O h
     exact(hL h.2).elim
theorem arP(k:K):¬LetsOut (sw n k):=by
 intro⟨a,w,h⟩
 exact h
theorem Mc:∀(l:List Oper) (σ:Env),σ dj= .bool b->RL P n ops k (gl n ops dj b l) (ge n ops dj b l σ) w->RL P n ops k l σ w
 |[],σ,_,h=>h
 |o::r,σ,hb,h=>by
  have stay:RL P n ops k (gs ops dj b (o::r)) σ w->RL P n ops k (o::r) σ w:=fun h a ha=>apj (arP k) _ a w (ha.look hb zZ) (h a ha)
  unfold gl ge at h
  obtain⟨dst,op,ty,pos,bO,g⟩:=o
  cases hg:gv ops dj b g with
  |none=>simp only[hg]at h;exact stay h
  |some t=>
   cases t with
   |true=>simp only[hg]at h;exact stay h
   |false=>
    simp only[hg]at h
    have hw:∀a,Is n σ a->Region.wanted ⟨dst,op,ty,pos,bO,g⟩ (yielded ops a.tmps)=false:=fun a ha=>Ir (ha.look hb zZ) hg
    cases dst with
    |none=>
     have h1:=Mc r σ hb h
     intro a ha
     simp only[wpList,hw a ha]
     exact h1 a ha
    |some d=>
     simp only at h
     cases hd:Nat.beq d dj with
     |true=>rw[hd]at h;exact stay h
     |false=>
      rw[hd]at h
      cases hn:Nat.blt d n with
      |false=>rw[hn]at h;exact stay h
      |true=>
       rw[hn]at h
       have hne:dj≠d:=by intro e;subst e;simp at hd
       have h1:=Mc r (me σ d undef) (by rw[YH _ _ hne];exact hb) h
       intro a ha
       simp only[wpList,hw a ha]
       exact h1 _ (ha.put hn undef)
theorem cF{j:Nat}{want:Bool}{dst:Option Tmp}{op:Op}{ty:TypeId}{pos:String}{bO:Array Edge}(hj:(ops[j]?).bind (·.dst)=some dj)(hb:σ dj= .bool b)
 (h:RL P n ops k (gl n ops dj b (⟨dst,op,ty,pos,bO,some (j,want)⟩::rest)) (ge n ops dj b (⟨dst,op,ty,pos,bO,some (j,want)⟩::rest) σ) w):RL P n ops k (⟨dst,op,ty,pos,bO,some (j,want)⟩::rest) σ w:=Mc _ _ hb h
theorem eK{c:Bool}(dj:Nat)(hb:σ dj= .bool c)(ht:c=true->RL P n ops k (gl n ops dj true l) (ge n ops dj true l σ) w)(hf:c=false->RL P n ops k (gl n ops dj false l) (ge n ops dj false l σ) w):RL P n ops k l σ w:=by
 cases hc:c with
 |true=>exact Mc _ _ (hc▸hb) (ht hc)
 |false=>exact Mc _ _ (hc▸hb) (hf hc)
theorem bM{p:Prop}[Decidable p](dj:Nat)(hb:σ dj= .bool (decide p))(ht:p->RL P n ops k (gl n ops dj true l) (ge n ops dj true l σ) w)(hf:¬p->RL P n ops k (gl n ops dj false l) (ge n ops dj false l σ) w):RL P n ops k l σ w:=by
 by_cases hc:p
 .exact Mc _ _ (by rw[hb,gY hc]) (ht hc)
 exact Mc _ _ (by rw[hb,hG hc]) (hf hc)
theorem Ab{d:Nat}{ty:TypeId}{pos:String}{bO:Array Edge}(h:RL P n ops k rest (me σ d undef) w)(hd:Nat.blt d n=true:=by rfl):RL P n ops k (⟨some d,.move (.const undef),ty,pos,bO,none⟩::rest) σ w:=
 pA hd (run_move O) h
end
end
end Go.Proofs.YtlhjdflgjbkpmaaGreatDoor.E
namespace Go.Proofs.YtlhjdflgjbkpmaaGreatDoor.M
def Ac(n:Int):Bool:=decide (1<=n/\n<=64)
def below(n:Int):BitVec 64:=if n<=0 then 0#64 else if 64<=n then~~~0#64 else(1#64<<<(BitVec.ofInt 64 n).toNat)-1#64
theorem Su{n:Int}(h:n<=0):below n=0#64:=by simp[below,h]
theorem adg{n:Int}(h:64<=n):below n= ~~~0#64:=by grind[below]
theorem adh{n:Int}(h:¬n<=0)(h':¬64<=n):below n=(1#64<<<(BitVec.ofInt 64 n).toNat)-1#64:=by grind[below]
def vJ(n k:Int):BitVec 64×Bool:=if 1<=n/\n<=64/\0<=k/\k<n then(below k,true)else(0#64,false)
theorem amf{n:Int}(h:(!Ac n)=false):1<=n/\n<=64:=by simpa[Ac]using h
theorem amg{n:Int}(h:(!Ac n)=true):¬(1<=n/\n<=64):=by grind[Ac]
theorem CE{n k:Int}(h:¬(1<=n/\n<=64/\0<=k/\k<n)):vJ n k=(0#64,false):=by rw[vJ,aW h]
theorem vh{n k:Int}(h:1<=n/\n<=64/\0<=k/\k<n):vJ n k=(below k,true):=by rw[vJ,aY h]
def level(n:Int)(s:BitVec 64):Int×Bool:=
 if 1<=n/\n<=64 then
  match(List.range n.toNat).find? (fun k:Nat=>s==below (k:Int))with
  |some k=>((k:Int),true)
  |none=>(0,false)
 else(0,false)
theorem Md{n:Int}(s:BitVec 64)(h:¬(1<=n/\n<=64)):level n s=(0,false):=by grind[level]
theorem Me{n k:Int}{s:BitVec 64}(h:1<=n/\n<=64)(h0:0<=k)(hk:k<n)(hs:s=below k)(hf:∀j:Int,0<=j->j<k->s≠below j):level n s=(k,true):=by
 have hfind:(List.range n.toNat).find? (fun i:Nat=>s==below (i:Int))=some k.toNat:=by
  rw[List.find?_range_eq_some]
  refine⟨?_,iW,?_⟩
  .rw[show((k.toNat:Int))=k by omega];simpa using hs
  intro j hj
  have:=hf j J J
  simpa using this
 simp only[level,aY h,hfind]
 rw[show((k.toNat:Int))=k by omega]
theorem Fx{n:Int}{s:BitVec 64}(h:1<=n/\n<=64)(hf:∀j:Int,0<=j->j<n->s≠below j):level n s=(0,false):=by grind[below,level]
theorem oz{n:Int}(h:0<=n/\n<18446744073709551616):(BitVec.ofInt 64 n).toNat=n.toNat:=by grind
theorem fI(n:Int)(i:Nat):(below n).getLsbD i=decide (i<64/\(i:Int)<n):=by
 unfold below
 by_cases h:n<=0
 .rw[aY h];simp;omega
 rw[aW h]
 by_cases h':64<=n
 .rw[aY h',Lw,Ry,Bool.not_false,Yp,RH];omega
 rw[aW h',oz J]
 have e:(1#64<<<n.toNat)-1#64=BitVec.ofNat 64 (2^n.toNat-1):=by
  apply Fa
  have h1:2^n.toNat<2^64:=Nat.pow_lt_pow_right J J
  have h2:0<2^n.toNat:=Nat.two_pow_pos _
  have h3:(1#64<<<n.toNat).toNat=2^n.toNat:=by
   simp[Rs,RG];exact h1
  rw[RF,h3,XZ,XZ]
  generalize 2^n.toNat=X at h1 h2
  omega
 rw[e,Rx,afF]
 by_cases a:i<64<;>by_cases b:i<n.toNat<;>simp[a,b]<;>omega
def oA(p:Nat->Bool):Nat->BitVec 64
 |0=>0#64
 |i+1=>if p i then oA p i|||(1#64<<<i)else oA p i
theorem m9(i k:Nat):(1#64<<<i).getLsbD k=(decide (k<64)&&decide (k=i)):=by grind
theorem kF(p:Nat->Bool)(j i:Nat):(oA p j).getLsbD i=(decide (i<j)&&decide (i<64)&&p i):=by
 induction j with
 |zero=>simp[oA]
 |succ j ih=>
  unfold oA
  by_cases hp:p j=true
  .rw[aY hp,X8,ih,m9]
   by_cases h2:i=j
   .subst h2;by_cases h1:i<64<;>simp[h1,hp]
   by_cases h1:i<64<;>by_cases h3:i<j<;>simp[h1,h2,h3]<;>omega
  rw[aW hp,ih]
  by_cases h2:i=j
  .subst h2;simp[hp]
  by_cases h1:i<64<;>by_cases h3:i<j<;>simp[h1,h3]<;>omega
def k8(l:List Int):BitVec 64:=oA (fun i=>l.contains (i:Int)) 64
theorem ig(l:List Int)(i:Nat):(k8 l).getLsbD i=(decide (i<64)&&l.contains (i:Int)):=by grind[k8,kF]
def Ad(i:Int):Bool:=decide (0<=i/\i<64)
def hasB(s:BitVec 64)(i:Int):Bool:=Ad i&&s.getLsbD i.toNat
def vK(s:BitVec 64)(i:Int):BitVec 64:=if Ad i then s|||(1#64<<<(BitVec.ofInt 64 i).toNat)else s
def agp(s:BitVec 64)(i:Int):BitVec 64:=if Ad i then s&&& ~~~(1#64<<<(BitVec.ofInt 64 i).toNat)else s
def tC(s:BitVec 64)(j:Nat):List Int:=((List.range j).filter (s.getLsbD ·)).map fun(i:Nat)=>(i:Int)
def gK(s:BitVec 64):List Int:=tC s 64
def ep(a b:BitVec 64):Bool:=decide (a&&& ~~~b=0#64)
theorem ye(s:BitVec 64)(i:Int)(k:Nat):(vK s i).getLsbD k=(s.getLsbD k||(decide (k<64)&&decide ((k:Int)=i))):=by grind[vK,Ad,m9,oz]
theorem Pb(s:BitVec 64)(i:Int)(k:Nat):(agp s i).getLsbD k=(s.getLsbD k&& !decide ((k:Int)=i)):=by grind[agp,Ad,m9,oz]
theorem eL{a b:BitVec 64}(h:∀i,i<64->a.getLsbD i=b.getLsbD i):a=b:=by grind
theorem adi(l:List Int)(i:Int):vK (k8 l) i=k8 (l++[i]):=eL fun k hk=>by
 rw[ye,ig,ig]
 simp[hk,Fb]
theorem Sv:k8 []=0#64:=eL fun k hk=>by rw[ig];simp
theorem adj(s:BitVec 64)(j:Nat)(i:Int):i∈tC s j↔0<=i/\i<j/\s.getLsbD i.toNat=true:=by grind[tC]
theorem fF(s:BitVec 64)(i:Int):i∈gK s↔hasB s i=true:=by grind[gK,adj,hasB,Ad]
theorem amh(s:BitVec 64):k8 (gK s)=s:=eL fun k hk=>by
 rw[ig]
 have:=fF s (k:Int)
 have hc:(gK s).contains (k:Int)=hasB s k:=by
  rw[gX,<-this];simp
 rw[hc,hasB,Ad];simp[hk];omega
theorem Mf(s:BitVec 64)(j:Nat):tC s (j+1)=tC s j++(if s.getLsbD j then[(j:Int)]else[]):=by grind[tC,List.range_succ]
theorem It(s:BitVec 64)(j:Nat):(tC s j).length<=j:=by grind[tC]
theorem Gv(s:BitVec 64):(gK s).length<=64:=It s 64
theorem Gw(a b:BitVec 64):ep a b=true↔∀i,i<64->a.getLsbD i=true->b.getLsbD i=true:=by
 unfold ep
 rw[eD]
 constructor
 .intro h i hi ha
  have:=aK (fun z=>BitVec.getLsbD z i) h
  simp[hi,ha]at this
  exact this
 intro h
 refine eL fun i hi=> ?_
 have:=h i hi
 simp only[rh,Lw,hi,decide_true,l7,Ry]
 cases ha:a.getLsbD i
 .rfl
 rw[this ha];rfl
theorem ami(s:BitVec 64){i:Int}(h:Ad i=true):decide (s>>>(BitVec.ofInt 64 i).toNat&&&1#64=1#64)=hasB s i:=by
 have h':0<=i/\i<64:=by simpa[Ad]using h
 rw[hasB,h,l7,oz J]
 have key:s>>>i.toNat&&&1#64=if s.getLsbD i.toNat then 1#64 else 0#64:=by
  refine eL fun k hk=> ?_
  by_cases hb:s.getLsbD i.toNat=true
  .rw[aY hb]
   simp only[rh,afI]
   by_cases h0:k=0
   .subst h0;simp[hb]
   simp[BitVec.getLsbD_one,h0]
  rw[aW hb]
  simp only[rh,afI]
  by_cases h0:k=0
  .subst h0;simpa using hb
  simp[BitVec.getLsbD_one,h0]
 rw[key]
 by_cases hb:s.getLsbD i.toNat=true
 .rw[aY hb,hb];rfl
 rw[aW hb];simp at hb;rw[hb];rfl
theorem YP(s:BitVec 64){i:Int}(h:Ad i=false):hasB s i=false:=by rw[hasB,h];rfl
theorem KJ(s:BitVec 64)(k:Nat):(s>>>k)%2#64=1#64↔s.getLsbD k=true:=by
 have:(s>>>k)%2#64=1#64↔(s>>>k).toNat%2=1:=by
  rw[<-Yd];simp
 rw[this]
 have h2:(s>>>k).getLsbD 0=s.getLsbD k:=aJ
 rw[<-h2,BitVec.getLsbD,Nat.testBit_zero,eD]
theorem half(s:BitVec 64)(k:Nat):(s>>>k)/2#64=s>>>(k+1):=by
 apply Fa
 simp only[BitVec.toNat_udiv,Lq,Nat.shiftRight_add]
 rfl
def Bf(l:List Int)(j:Nat):BitVec 64:=oA (fun i=>l.contains (i:Int)) j
theorem amj{p:Nat->Bool}{j:Nat}(hj:j<64):oA p j+(1#64<<<j)=oA p j|||(1#64<<<j):=by
 refine BitVec.add_eq_or_of_and_eq_zero _ _ (eL fun k hk=> ?_)
 rw[rh,kF,m9]
 by_cases h:k=j
 .subst h;simp
 simp[h]
theorem adk{l:List Int}{j:Nat}(hj:j<64)(h:(j:Int)∈l):Bf l j+(1#64<<<j)=Bf l (j+1):=by grind[Bf,amj,oA]
theorem YQ{l:List Int}{i k:Int}(h0:0<=i)(hi:i<64)(hk:0<=k)(hkl:k<l.length)(h:l.getD k.toNat 0=i):Bf l i.toNat+(1#64<<<i.toNat)=Bf l (i+1).toNat:=by grind[adk]
theorem agq{l:List Int}{j:Nat}(h:¬(j:Int)∈l):Bf l j=Bf l (j+1):=by grind[Bf,oA]
theorem adl{l:List Int}{i:Int}(h0:0<=i)(hf:∀j:Int,0<=j->j<l.length->l.getD j.toNat 0≠i):Bf l i.toNat=Bf l (i+1).toNat:=by
 rw[show(i+1).toNat=i.toNat+1 by omega]
 refine agq fun hm=> ?_
 rw[show((i.toNat:Nat):Int)=i by omega]at hm
 obtain⟨j,hj,he⟩:=vA.1 hm
 refine hf j J J ?_
 rw[eC,eV,eF hj];exact he
theorem amc(j:Nat):(1#64<<<j)*2#64=1#64<<<(j+1):=by
 apply Fa
 have h1:(1#64).toNat=1:=rfl
 have h2:(2#64).toNat=2:=rfl
 rw[BitVec.toNat_mul,Rs,Rs,RG,RG,h1,h2,RU,RU,Nat.mod_mul_mod]
 rfl
theorem PM{l:List Int}{k:Int}(h0:0<=k)(h:k<l.length):l.take (k+1).toNat=l.take k.toNat++[l.getD k.toNat 0]:=by
 rw[show(k+1).toNat=k.toNat+1 by omega,E7 J,eV,eF J];rfl
theorem Mg{l:List Int}{k:Int}(h:¬k<l.length):l.take k.toNat=l:=jg J
theorem Gx{l:List Int}{n:Int}(h:∀i:Int,0<=i->i<64->(i∈l↔i<n)):k8 l=below n:=eL fun k hk=>by
 rw[ig,fI]
 have:=h k J J
 rw[gX];simp[hk,this]
def upto(j:Int):List Int:=(List.range j.toNat).map fun(i:Nat)=>(i:Int)
theorem iX{j:Int}(h:0<=j):upto j++[j]=upto (j+1):=by
 unfold upto
 rw[show(j+1).toNat=j.toNat+1 by omega,vB,gP,Lx,show((j.toNat:Nat):Int)=j by omega]
theorem nc{j:Int}:(upto j).length=j.toNat:=by simp[upto]
theorem cJ{j i:Int}:i∈upto j↔0<=i/\i<j:=by
 simp only[upto,fN,ou]
 constructor
 .rintro⟨a,h1,rfl⟩;omega
 rintro⟨h1,h2⟩;exact⟨i.toNat,J,J⟩
theorem adm{s:BitVec 64}{j:Int}(h0:0<=j)(h:(s>>>j.toNat)%2#64=1#64):tC s j.toNat++[j]=tC s (j+1).toNat:=by
 rw[show(j+1).toNat=j.toNat+1 by omega,Mf,aY ((KJ s _).1 h),show((j.toNat:Nat):Int)=j by omega]
theorem agr{s:BitVec 64}{j:Int}(h0:0<=j)(h:¬(s>>>j.toNat)%2#64=1#64):tC s j.toNat=tC s (j+1).toNat:=by
 rw[show(j+1).toNat=j.toNat+1 by omega,Mf,aW (fun e=>h ((KJ s _).2 e)),mG]
theorem PN{s:BitVec 64}{j:Int}(h:¬j<64)(h':j<=64):tC s j.toNat=gK s:=by grind[tC,gK]
theorem dy{l:List Int}{k:Int}(h0:0<=k)(h:k<l.length):l.getD k.toNat 0∈l:=by grind
theorem UC(a b:BitVec 64):ep a b=(gK a).all (hasB b ·):=by
 rw[gX,Gw,iQ]
 constructor
 .intro h i hi
  have:=(fF a i).1 hi
  simp only[hasB,Ad,cL,eD]at this⊢
  exact⟨this.1,h _ J this.2⟩
 intro h i hi ha
 have:=h i ((fF a i).2 (by simp[hasB,Ad,ha];omega))
 simp only[hasB,Ad,cL,eD]at this
 simpa using this.2
def awD(n:Int):BitVec 64:=if 1<=n/\n<=64 then below (n-1)else 0#64
theorem UD{n k:Int}(h:(vJ n k).2=true):1<=n/\n<=64/\0<=k/\k<n:=by grind[CE]
theorem YR{n k:Int}(h:(vJ n k).2=false):¬(1<=n/\n<=64/\0<=k/\k<n):=by grind[vh]
theorem UE{n k:Int}{s:BitVec 64}(h0:0<=k)(hi:(vJ n k).2=true)(hne:¬(vJ n k).1=s)(hf:n<=64->∀j:Int,0<=j->j<k->s≠below j):n<=64->∀j:Int,0<=j->j<k+1->s≠below j:=by grind[vh,UD]
theorem UF{n k:Int}{s:BitVec 64}(h0:0<=k)(hk:k<n)(hf:n<=64->∀j:Int,0<=j->j<k->s≠below j)(hi:(vJ n k).2=false):n<=64->∀j:Int,0<=j->j<k+1->s≠below j:=by
 intro hn
 have:=YR hi
 omega
theorem adn{n k:Int}{s:BitVec 64}(h0:0<=k)(hi:(vJ n k).2=true)(hf:n<=64->∀j:Int,0<=j->j<k->s≠below j)(he:(vJ n k).1=s):level n s=(k,true):=by grind[UD,vh,Me]
theorem ED{n k:Int}{s:BitVec 64}(h0:0<=k)(hk:k<=n\/k=0)(h6:k<=64)(hf:n<=64->∀j:Int,0<=j->j<k->s≠below j)(he:¬(k<n/\k<64)):level n s=(0,false):=by grind[Fx,Md]
theorem ado{j k:Int}(h0:0<=j)(hjk:j<k)(hk:k<=64):below k≠below j:=fun e=>by
 have:=aK (fun z=>BitVec.getLsbD z j.toNat) e
 simp only[fI]at this
 rw[gY J,hG J]at this
 cases this
theorem YS{n k:Int}(h:1<=n/\n<=64/\0<=k/\k<n):level n (vJ n k).1=(k,true):=by grind[vh,Me,ado]
theorem ags(i j:Int):below i|||below j=below (max i j):=eL fun k hk=>by
 rw[X8,fI,fI,fI,gX];simp;omega
theorem adp(i j:Int):below i&&&below j=below (min i j):=eL fun k hk=>by
 rw[rh,fI,fI,fI,gX];simp;omega
def pop(s:BitVec 64):Int:=
 let x:=(s>>>1&&&6148914691236517205#64)+(s&&&6148914691236517205#64)
 let x:=(x>>>2&&&3689348814741910323#64)+(x&&&3689348814741910323#64)
 let x:=(x>>>4+x)&&&1085102592571150095#64
 let x:=x+x>>>8
 let x:=x+x>>>16
 let x:=x+x>>>32
 (x&&&127#64).toInt
theorem Ae:∀{l m:List Int},l.Pairwise (· <·)->m.Pairwise (· <·)->(∀x,x∈l↔x∈m)->l=m
 |[],[],_,_,_=>rfl
 |[],b::m,_,_,h=>by have:=(h b).2 aJ;simp at this
 |a::l,[],_,_,h=>by have:=(h a).1 aJ;simp at this
 |a::l,b::m,hl,hm,h=>by
  have hl':=lY.1 hl
  have hm':=lY.1 hm
  have hab:a=b:=by
   rcases c8.1 ((h a).1 aJ)with h1|h1
   .exact h1
   rcases c8.1 ((h b).2 aJ)with h2|h2
   .exact h2.symm
   have:=hm'.1 a h1;have:=hl'.1 b h2;omega
  subst hab
  congr 1
  refine Ae hl'.2 hm'.2 fun x=> ?_
  constructor
  .intro hx
   rcases c8.1 ((h x).1 (gd _ hx))with h1|h1
   .have:=hl'.1 x hx;omega
   exact h1
  intro hx
  rcases c8.1 ((h x).2 (gd _ hx))with h1|h1
  .have:=hm'.1 x hx;omega
  exact h1
theorem qp(s:BitVec 64):(gK s).Pairwise (· <·):=by grind[gK,tC,List.pairwise_lt_range]
theorem Af{s:BitVec 64}:gK s=[]↔s=0#64:=by
 constructor
 .intro h;rw[<-amh s,h,Sv]
 rintro rfl;simp[gK,tC]
def Low(s:BitVec 64)(j:Nat):Prop:=j<64/\s.getLsbD j=true/\∀i,i<j->s.getLsbD i=false
theorem YT{s:BitVec 64}(h:s≠0#64):∃j,Low s j:=by
 have hne:gK s≠[]:=fun e=>h (Af.1 e)
 obtain⟨a,l,e⟩:=List.exists_cons_of_ne_nil hne
 have ha:=(fF s a).1 (by rw[e];simp)
 simp only[hasB,Ad,cL,eD]at ha
 refine⟨a.toNat,J,ha.2,fun i hi=> ?_⟩
 cases hb:s.getLsbD i with
 |false=>rfl
 |true=>
  have hm:=(fF s (i:Int)).2 (by simp[hasB,Ad,hb];omega)
  rw[e]at hm
  have hs:=qp s
  rw[e]at hs
  rcases c8.1 hm with h1|h1
  .omega
  have:=(lY.1 hs).1 _ h1;omega
theorem agt{s:BitVec 64}{j:Nat}(h:Low s j):∃m,s.toNat=2^j*(2*m+1):=by
 obtain⟨hj,hb,hz⟩:=h
 have h1:s.toNat%2^j=0:=by
  apply Nat.eq_of_testBit_eq
  intro i
  rw[Nat.testBit_mod_two_pow,Nat.zero_testBit]
  by_cases hi:i<j
  .have:=hz i hi;rw[BitVec.getLsbD]at this;simp[this]
  simp[hi]
 have h2:s.toNat/2^j%2=1:=by
  rw[BitVec.getLsbD,afD]at hb
  simpa using hb
 refine⟨s.toNat/2^j/2,?_⟩
 have h3:=Yh s.toNat (2^j)
 have h4:=Yh (s.toNat/2^j) 2
 rw[h2]at h4
 rw[h4];omega
theorem JJ{s:BitVec 64}{j:Nat}(h:Low s j){i:Nat}(hi:i<64):(s-1#64).getLsbD i=if i<j then true else if i=j then false else s.getLsbD i:=by
 obtain⟨m,hm⟩:=agt h
 have hp:0<2^j:=Nat.two_pow_pos j
 have hlt:=s.isLt
 have h1:(s-1#64).toNat=2^j*(2*m)+(2^j-1):=by
  rw[RF]
  have e:(1#64).toNat=1:=rfl
  have e2:2^j*(2*m+1)=2^j*(2*m)+2^j:=by rw[Nat.mul_add,l9]
  rw[e];omega
 rw[BitVec.getLsbD,h1,afG _ J]
 by_cases h2:i<j
 .rw[aY h2,aY h2,afF];simp[h2]
 rw[aW h2,aW h2]
 by_cases h3:i=j
 .subst h3;rw[aY O,RQ];simp
 rw[aW h3,BitVec.getLsbD,hm]
 have e2:2^j*(2*m+1)=2^j*(2*m+1)+0:=J
 rw[e2,afG _ hp,aW h2]
 obtain⟨k,hk⟩:∃k,i-j=k+1:=⟨i-j-1,J⟩
 rw[hk,Nat.testBit_succ,Nat.testBit_succ]
 congr 1;omega
theorem Iu{s:BitVec 64}{j:Nat}(h:Low s j){i:Nat}(hi:i<64):(s&&&(s-1#64)).getLsbD i=(s.getLsbD i&& !decide (i=j)):=by grind[Low,JJ]
theorem amk{s:BitVec 64}{j:Nat}(h:Low s j):gK s=(j:Int)::gK (s&&&(s-1#64)):=by
 refine Ae (qp s) (lY.2 ⟨fun x hx=> ?_,qp _⟩) fun x=> ?_
 .have:=(fF _ x).1 hx
  simp only[hasB,Ad,cL,eD]at this
  obtain⟨⟨h0,h1⟩,h2⟩:=this
  rw[Iu h J]at h2
  simp only[cL,Cc,xg]at h2
  rcases Nat.lt_or_ge x.toNat j with hlt|hge
  .rw[h.2.2 _ hlt]at h2;cases h2.1
  omega
 rw[fF,c8,fF]
 simp only[hasB,Ad,cL,eD]
 constructor
 .rintro⟨h1,h2⟩
  by_cases hx:x=j
  .exact .inl hx
  refine .inr ⟨h1,?_⟩
  rw[Iu h J,h2];simp;omega
 rintro(rfl|⟨h1,h2⟩)
 .have:=h.1;exact⟨J,by simpa using h.2.1⟩
 rw[Iu h J]at h2
 simp only[cL]at h2
 exact⟨h1,h2.1⟩
theorem aml{s:BitVec 64}{j:Nat}(h:Low s j):s&&& -s=1#64<<<j:=by
 have hn: -s= ~~~(s-1#64):=by
  apply Fa
  rw[BitVec.toNat_neg,BitVec.toNat_not,RF]
  have e:(1#64).toNat=1:=rfl
  have:=s.isLt
  rw[e];omega
 refine eL fun i hi=> ?_
 rw[hn,rh,Lw,JJ h hi,m9]
 by_cases h1:i<j
 .rw[aY h1,h.2.2 i h1];simp;omega
 rw[aW h1]
 by_cases h2:i=j
 .rw[aY h2,h2,h.2.1];simp
 rw[aW h2];cases s.getLsbD i<;>simp[h2]
def Bg:List Int:=[0,1,56,2,57,49,28,3,61,58,42,50,38,29,17,4,62,47,59,36,45,43,51,22,53,39,33,30,24,18,12,5,63,55,48,27,60,41,37,16,46,35,44,21,52,32,23,11,54,26,40,15,34,20,31,10,25,14,19,9,13,8,7,6]
def tz(s:BitVec 64):Int:=if s=0#64 then 64 else Bg.getD (((s&&& -s)*285870213051353865#64)>>>58).toNat 0
theorem agu(x:BitVec 64):0<=((x>>>58).toNat:Int)/\((x>>>58).toNat:Int)<(64:Nat):=by
 have:(x>>>58).toNat<64:=by
  rw[Lq,XN]
  have:=x.isLt
  omega
 omega
theorem arQ{s:BitVec 64}{j:Nat}(h:Low s j):tz s=j:=by
 have hne:s≠0#64:=fun e=>by have:=h.2.1;rw[e]at this;simp at this
 rw[tz,aW hne,aml h]
 have key:∀k:Fin 64,Bg.getD (((1#64<<<k.val)*285870213051353865#64)>>>58).toNat 0=(k.val:Int):=by decide+kernel
 exact key ⟨j,h.1⟩
theorem Mh{s:BitVec 64}(h:s≠0#64):gK s=tz s::gK (s&&&(s-1#64)):=by
 obtain⟨j,hj⟩:=YT h
 rw[arQ hj];exact amk hj
theorem Sw{s:BitVec 64}(h:s≠0#64):(gK (s&&&(s-1#64))).length<(gK s).length:=by
 rw[Mh h];simp
def awE:List Nat->Nat
 |[]=>0
 |d::r=>2^8*awE r+d
def aMU(x:Nat):List Nat:=[x%256,x/256%256,x/65536%256,x/16777216%256,x/4294967296%256,x/1099511627776%256,x/281474976710656%256,x/72057594037927936%256]
def g1(d:Nat):Nat:=((d>>>1)&&&85)+(d&&&85)
def g2(d:Nat):Nat:=((d>>>2)&&&51)+(d&&&51)
def pc8(d:Nat):Nat:=(List.range 8).countP d.testBit
def aMV(s:BitVec 64)(k:Int):Int×Bool:=if 0<=k/\k<(gK s).length then((gK s).getD k.toNat 0,true)else(0,false)
def kAt(k:Int)(n:Nat):Int:=if k-n< -9223372036854775808 then k-n+18446744073709551616 else k-n
theorem awF{s:BitVec 64}(h:s≠0#64):Bg.getD (((s&&& -s)*285870213051353865#64)>>>58).toNat 0=tz s:=by rw[tz,aW h]
theorem amm{a b:BitVec 64}{k:Int}(h0:0<=k)(hk:k<(gK a).length)(h:(!hasB b ((gK a).getD k.toNat 0))=true):ep a b=false:=by grind[UC,gK]
theorem agv{a b:BitVec 64}(hf:∀j:Int,0<=j->j<(gK a).length->hasB b ((gK a).getD j.toNat 0)=true):ep a b=true:=by
 rw[UC,iQ]
 intro x hx
 obtain⟨i,hi,rfl⟩:=ur hx
 have:=hf i J J
 simpa[eV,hi]using this
def YU(s:BitVec 64):Int×Bool:=if s=0#64 then(0,false)else(tz s,true)
theorem Iv(a b:BitVec 64):ep a (a|||b)=true:=by grind[Gw]
theorem Gy(a b:BitVec 64):ep (a&&&b) a=true:=by grind[Gw]
end Go.Proofs.YtlhjdflgjbkpmaaGreatDoor.M
namespace Go.Proofs.YtlhjdflgjbkpmaaGreatDoor.E
section
open Go Go.RowKit Go.Proofs.YtlhjdflgjbkpmaaGreatDoor.M
def pc(w:World):Prop:=∀j,j<64->w.cell? ⟨0,j,none⟩=some (.int .u8 (Bg.getD j 0))
theorem pc.below{w w':World}(h:pc w)(hb:Below w.heap.size w w'):pc w':=fun j hj=>by
 have h1:=h j hj
 rw[hb.cell (World.block_lt_of_cell? w _ h1)];exact h1
theorem pc.hp{w0 w:World}{L:List bu}(h:pc w0)(hH:Hp w0 w L):pc w:=h.below hH.below
theorem pc.at{w:World}(h:pc w)(x:BitVec 64):w.cell? ⟨0,0+(((x>>>58).toNat:Int)).toNat*1,none⟩=some (.int .u8 (Bg.getD (x>>>58).toNat 0)):=by
 have h2:=h (x>>>58).toNat (by have:=agu x;omega)
 generalize(x>>>58).toNat=j at*
 simpa using h2
theorem agw(j:Nat):0<=Bg.getD j 0/\Bg.getD j 0<=63:=by
 by_cases h:j<64
 .have key:∀k:Fin 64,0<=Bg.getD k.val 0/\Bg.getD k.val 0<=63:=by decide+kernel
  exact key ⟨j,h⟩
 have:Bg.getD j 0=0:=by
  rw[eV,ot (by simp[Bg];omega)];rfl
 omega
theorem amn{x:Int}(h:0<=x/\x<=63): -9223372036854775808<=x/\x<=9223372036854775807:=J
theorem Hp.sM{w0 w:World}{L:List bu}{b:Nat}{c:List Value}{e:TypeId}(h:Hp w0 w (.blk b (.cells c.toArray e (0,0))::L))(n sz:Nat)(hc:c.length=n*sz)(hn:n<=maxLen):
  Hp w0 w (.row (.slice (some ⟨b,0,none⟩) n n) e sz n c::L):=by
 refine⟨h.below,fun x hx=> ?_,?_⟩
 .rcases c8.1 hx with rfl|hx
  .have h1:=h.ok _ (rj ..)
   exact⟨hc,.inr ⟨b,n,c.toArray,rfl,h1.1,h1.2,eu _,hn,by simpa using hc,by simp[<-hc]⟩⟩
  exact h.ok x (gd _ hx)
 exact List.Pairwise.cons (fun y hy=>(lY.1 h.L8).1 y hy) (lY.1 h.L8).2
section drawn
variable{P:Program}{n:Nat}{l:List Oper}{S:World->Prop}{k:K}{xs:List (Nat×K)}{r:K}{σ:Env}{w w0:World}{L L' Xz:List bu}{fuel i d:Nat}{listed:Array Bool}{op:Op}{ty:TypeId}{pos:String}{bO:Array Edge}{g:Option (Nat×Bool)}{v:Value}{dst:Option Tmp}
theorem fX{id:Nat}(hm:P.follows .mixedOrders=true)(hH:Hp w0 w L)(hs:L'.Sublist L)
  (h:∀w',Hp w0 w' L->AN P n l (fun w=>Hp w0 w L') k l.length (Array.replicate l.length false) σ w'):CW P n (.region id l.toArray true) k xs r σ w:=by
 intro a ha
 refine zR (fun e a' w' hq=> ?_) (Yn (id:=id) (Q:=sw n k) hm (Yo (S:=fun w=>Hp w0 w L') _ _ _ _ ?_))
 .cases e with
  |normal=>exact hq
  |exit id=>exact hq.elim
  |ret=>exact hq.elim
  |goto l=>exact hq.elim
  |panic c=>exact hq.elim
  |outgrown=>exact hq.elim
 have:=h _ hH.drew a ha
 simpa using this
theorem gj(i j:Nat)(hr:Region.ready .any l.toArray listed=[i,j])(h1:AO P n l S k fuel listed σ w i)(h2:AO P n l S k fuel listed σ w j):AN P n l S k (fuel+1) listed σ w:=by simp_all[abb]
theorem cf(hi:l[i]?=some ⟨some d,op,ty,pos,bO,g⟩)(hg:∀a,Is n σ a->Region.wanted ⟨some d,op,ty,pos,bO,g⟩ (yielded l.toArray a.tmps)=true)(hd:Nat.blt d n=true)
  (hH:Hp w0 w Xz) (hs:L'.Sublist Xz) (hr:(execOp (ev σ) ⟨some d,op,ty,pos,bO,g⟩).run P w= .ok (.value v) w)
  (h:AN P n l (fun w=>Hp w0 w L') k fuel (listed.setIfInBounds i true) (me σ d v) w):AO P n l (fun w=>Hp w0 w L') k fuel listed σ w i:=
 CB hi hg hd hr (hH.sub hs) h
theorem dW{j b:Nat}{c c':Array Value}{e:TypeId}(hi:l[i]?=some ⟨none,op,ty,pos,bO,g⟩)(hg:∀a,Is n σ a->Region.wanted ⟨none,op,ty,pos,bO,g⟩ (yielded l.toArray a.tmps)=true)
  (hH:Hp w0 w Xz) (hj:Xz[j]?=some (.blk b (.cells c e (0,0)))) (hs:L'.Sublist (Xz.set j (.blk b (.cells c' e (0,0)))))
  (hr:(execOp (ev σ) ⟨none,op,ty,pos,bO,g⟩).run P w= .ok .skip (w.setRow b c'))
  (h:∀w',Hp w0 w' (Xz.set j (.blk b (.cells c' e (0,0))))->AN P n l (fun w=>Hp w0 w L') k fuel (listed.setIfInBounds i true) σ w'):AO P n l (fun w=>Hp w0 w L') k fuel listed σ w i:=
 Iq hi hg hr ((hH.set hj).sub hs) (h _ (hH.set hj))
end drawn
theorem aZ{w:World}{base:Nat}{e:TypeId}{sz n:Nat}{v:Value}{xs:List Value}(h:w.ownsRow base e sz v n xs):v.cells=#[v]/\v.oneCell'=true:=by
 rcases h.2 with⟨rfl,_⟩|⟨g,cap,cur,rfl,_⟩<;>exact⟨rfl,rfl⟩
theorem Sl.conv{w:World}{v:Value}{sz n n':Nat}{c c':List Value}(h:Sl w v sz n c)(hn:n=n')(hc:c=c'):Sl w v sz n' c':=by subst hn hc;exact h
def wR(v:Value)(k:Nat):Value:=
 match v with
 | .slice a _ c=> .slice a k c
 |v=>v
theorem Sl.cut{w:World}{v:Value}{sz n:Nat}{cells:List Value}(h:Sl w v sz n cells)(k:Nat)(hk:k<=n):Sl w (wR v k) sz k (cells.take (k*sz)):=by
 obtain⟨a,cap,hv,hnc,ha⟩:=h.shape
 subst hv
 have e1:sb (.slice a k cap)=sb (.slice a n cap):=by cases a<;>rfl
 have e2:so (.slice a k cap)=so (.slice a n cap):=by cases a<;>rfl
 refine⟨⟨a,cap,rfl,J,fun h0=> ?_⟩,?_,fun j c hc=> ?_,kf hk h.small⟩
 .show a=some ⟨sb (.slice a k cap),so (.slice a k cap),none⟩
  rw[e1,e2];exact ha J
 .rw[ef,h.len];exact qB (sr _ hk)
 show w.cell? ⟨sb (.slice a k cap),so (.slice a k cap)+j,none⟩=some c
 rw[e1,e2]
 rw[vx]at hc
 split at hc
 .exact h.cell j c hc
 .cases hc
section awG
variable{P:Program}{σ:Env}{w:World}{dst:Option Tmp}{ty t:TypeId}{pos:String}{bO:Array Edge}{g:Option (Nat×Bool)}{x y:Operand}{v:Value}{sz n:Nat}{cells:List Value}{k:IntKind}{i:Int}
theorem rD{e:TypeId}(hS:Sl w v sz n cells)(hu:P.underlying t=some (.slice e))(hs:∀w,(sizeOf e).run P w= .ok sz w)(hx:ev σ x=v)(hy:ev σ y= .int k i)(hi:0<=i/\i<=n):
  (execOp (ev σ) ⟨dst,.slice t x none (some y) none,ty,pos,bO,g⟩).run P w= .ok (.value (wR v i.toNat)) w:=by
 obtain⟨a,cap,hv,hnc,ha⟩:=hS.shape
 subst hv
 have h1:0<=i/\i<=(cap:Int):=J
 have h2:(Instr.slice t (.slice a n cap) none (some (.int k i)) none).run P w= .ok (.slice a i.toNat cap) w:=by
  simp[Instr.slice,Instr.sliceBounds,Instr.sliceBound,kP hu,asIntOf,h1,hs]
  intro h;cases a<;>rfl
 have h3:(Instr.sliceAt t (.slice a n cap) none (some (.int k i)) none).run P w= .ok (.slice a i.toNat cap) w:=by
  simp[Instr.sliceAt,kP hu,h2]
 simp[execOp,hx,hy,h3,wR]
end awG
end
end Go.Proofs.YtlhjdflgjbkpmaaGreatDoor.E
namespace Go.Proofs.YtlhjdflgjbkpmaaGreatDoor.M
theorem nt{b:Bool}(h:(!b)=true):b=false:=by cases b;rfl;cases h
theorem nf{b:Bool}(h:(!b)=false):b=true:=by cases b;cases h;rfl
structure Rl where
 n:Int
 up:Nat->BitVec 64
def Rl.put(r:Rl)(i:Nat)(x:BitVec 64):Rl:=⟨r.n,fun j=>if j=i then x else r.up j⟩
def Rl.eq(a b:Rl):Prop:=a.n=b.n/\∀i,i<64->a.up i=b.up i
instance(a b:Rl):Decidable (a.eq b):=inferInstanceAs (Decidable (a.n=b.n/\∀i,i<64->a.up i=b.up i))
def Rl.none:Rl:=⟨0,fun _=>0#64⟩
def pts(r:Rl):Int:=max 0 (min r.n 64)
theorem dA(r:Rl):0<=pts r/\pts r<=64:=by unfold pts;omega
def BG(r:Rl)(i:Int):Bool:=decide (0<=i/\i<pts r)
def bL(r:Rl)(i j:Int):Bool:=BG r i&&BG r j&&(r.up i.toNat).getLsbD j.toNat
theorem rE{r:Rl}{i:Int}:BG r i=true↔0<=i/\i<pts r:=by simp[BG]
theorem arR{r:Rl}{i:Int}(h:BG r i=true):0<=i/\i<64:=by have:=dA r;have:=rE.1 h;omega
theorem agx{r:Rl}{i:Int}(h:BG r i=true):Ad i=true:=by grind[arR,Ad]
theorem amo{r:Rl}{i j:Int}(hi:BG r i=true)(hj:BG r j=true):hasB (r.up i.toNat) j=bL r i j:=by grind[bL,hasB,agx]
theorem KK{r:Rl}{i j:Int}(hi:BG r i=false):bL r i j=false:=by rw[bL,hi];rfl
theorem Sy{r:Rl}{i j:Int}(hj:BG r j=false):bL r i j=false:=by rw[bL,hj];simp
theorem amp{r:Rl}{i j:Int}(hi:0<=i)(hj:0<=j)(hi2:i<pts r)(hj2:j<pts r):decide ((r.up i.toNat>>>(BitVec.ofInt 64 j).toNat)%2#64=1#64)=bL r i j:=by grind[Rl,pts,bL,dA,amo,rE,hasB,agx,oz,KJ]
theorem KL{r:Rl}{i j:Int}(h:¬(0<=i/\0<=j/\i<pts r/\j<pts r)):bL r i j=false:=by grind[bL,BG,rE]
def vM(r:Rl)(i:Int):BitVec 64:=r.up i.toNat&&&below (pts r)
def Ag(r:Rl)(i:Int):BitVec 64:=agp (vM r i) i
def EE(n:Int)(f:Nat->BitVec 64)(k:Int):Rl:=⟨n,fun i=>if(i:Int)<k then f i else 0#64⟩
theorem yf{n:Int}{f h:Nat->BitVec 64}(e:∀i,f i=h i):(⟨n,f⟩:Rl)=⟨n,h⟩:=by rw[show f=h from funext e]
theorem Iw(n:Int)(f:Nat->BitVec 64):(⟨n,fun _=>0#64⟩:Rl)=EE n f 0:=by grind[Rl,EE,yf]
theorem Mi{n:Int}{f:Nat->BitVec 64}{k:Int}{x:BitVec 64}(h:0<=k)(hx:x=f k.toNat):(EE n f k).put k.toNat x=EE n f (k+1):=yf fun i=>by
 show(if i=k.toNat then x else if(i:Int)<k then f i else 0#64)=if(i:Int)<k+1 then f i else 0#64
 by_cases h1:i=k.toNat
 .subst h1;rw[aY O,aY J,hx]
 rw[aW h1]
 by_cases h2:(i:Int)<k
 .rw[aY h2,aY J]
 rw[aW h2,aW J]
def eM(r:Rl):Rl:=EE (pts r) (fun i=>vM r i) (pts r)
theorem abc(r:Rl)(i:Int)(j:Nat):(vM r i).getLsbD j=((r.up i.toNat).getLsbD j&&decide (j<64/\(j:Int)<pts r)):=by grind[vM,fI]
theorem uV(r:Rl){i:Int}(hi:0<=i/\i<pts r)(j:Nat):(vM r i).getLsbD j=bL r i j:=by grind[dA,abc,bL,rE,BG,pts]
def rF(r:Rl)(i k:Int):List Int:=(upto k).filter (bL r i ·)
theorem adq{r:Rl}{i k:Int}(h0:0<=k)(h:bL r i k=true):rF r i k++[k]=rF r i (k+1):=by grind[rF,iX]
theorem adr{r:Rl}{i k:Int}(h0:0<=k)(h:bL r i k=false):rF r i k=rF r i (k+1):=by grind[rF,iX]
theorem PO{r:Rl}{i k:Int}:(rF r i k).length<=k.toNat:=by grind[Rl,rF,bL,upto,nc]
theorem ads{r:Rl}{i:Int}(hi:0<=i/\i<pts r):k8 (rF r i (pts r))=vM r i:=eL fun j hj=>by
 rw[ig,uV r hi,gY hj,l7,gX]
 simp only[rF,Fb,eD,sG,cJ]
 refine⟨fun h=>h.2,fun h=>⟨?_,h⟩⟩
 have:BG r j=true:=by
  simp only[bL,cL]at h;exact h.1.2
 exact rE.1 this
def xk(f:Int->BitVec 64)(l:List Int):BitVec 64:=l.foldl (fun a i=>a|||f i) 0#64
theorem Mj{f:Int->BitVec 64}{l:List Int}{k:Int}(h0:0<=k)(h:k<l.length):xk f (l.take k.toNat)|||f (l.getD k.toNat 0)=xk f (l.take (k+1).toNat):=by grind[PM,xk]
theorem UG(f:Int->BitVec 64):∀(l:List Int) (a:BitVec 64) (j:Nat),(l.foldl (fun a i=>a|||f i) a).getLsbD j=(a.getLsbD j||l.any fun i=>(f i).getLsbD j)
 |[],a,j=>by simp
 |i::l,a,j=>by rw[pq,UG f l,X8,List.any_cons,Bool.or_assoc]
theorem Ix(f:Int->BitVec 64)(l:List Int)(j:Nat):(xk f l).getLsbD j=l.any fun i=>(f i).getLsbD j:=by rw[xk,UG];simp
theorem YV{s:BitVec 64}{k:Int}(h0:0<=k)(h:k<(gK s).length):hasB s ((gK s).getD k.toNat 0)=true:=by grind[fF,List.getElem?_eq_getElem,List.getElem_mem]
theorem uW{s:BitVec 64}{i:Int}(h:hasB s i=true):0<=i/\i<64:=by grind[hasB,Ad]
theorem PR{s:BitVec 64}{k:Int}(h0:0<=k)(h:k<(gK s).length):0<=(gK s).getD k.toNat 0/\(gK s).getD k.toNat 0<64:=uW (YV h0 h)
def upR(r:Rl)(s:BitVec 64):BitVec 64:=xk (vM r) (gK (s&&&below (pts r)))
def yg(r:Rl)(s:BitVec 64)(k:Int):BitVec 64:=oA (fun i=>decide (vM r i&&&s≠0#64)) k.toNat
def EF(r:Rl)(s:BitVec 64):BitVec 64:=yg r s (pts r)
theorem agz{p:Nat->Bool}{k:Int}(h0:0<=k)(hk:k<64)(h:p k.toNat=true):vK (oA p k.toNat) k=oA p (k+1).toNat:=eL fun j hj=>by
 rw[ye,kF,kF]
 by_cases h1:(j:Int)=k
 .have:j=k.toNat:=J
  subst this
  have h2:k.toNat<(k+1).toNat:=J
  rw[gY h2,gY hj,gY h1,h];simp
 have h3:(j<k.toNat)↔(j<(k+1).toNat):=J
 rw[hG h1,show decide (j<k.toNat)=decide (j<(k+1).toNat)from RH.2 h3];simp
theorem agA{p:Nat->Bool}{k:Int}(h0:0<=k)(h:p k.toNat=false):oA p k.toNat=oA p (k+1).toNat:=eL fun j hj=>by
 rw[kF,kF]
 by_cases h1:j=k.toNat
 .subst h1;rw[h];simp
 have h3:(j<k.toNat)↔(j<(k+1).toNat):=J
 rw[show decide (j<k.toNat)=decide (j<(k+1).toNat)from RH.2 h3]
theorem agB{r:Rl}{s:BitVec 64}{k:Int}(h0:0<=k)(hk:k<64)(h:vM r k&&&s≠0#64):vK (yg r s k) k=yg r s (k+1):=by grind[Rl,vM,vK,yg,agz]
theorem agC{r:Rl}{s:BitVec 64}{k:Int}(h0:0<=k)(h:¬vM r k&&&s≠0#64):yg r s k=yg r s (k+1):=by grind[Rl,vM,yg,agA]
def qq(u:Nat->BitVec 64)(k:Int):Nat->BitVec 64:=fun i=>if(i:Int)<k then vK (u i) i else u i
theorem adt(n:Int)(u:Nat->BitVec 64):(⟨n,u⟩:Rl)=⟨n,qq u 0⟩:=by grind[Rl,qq,yf]
theorem agD{n k:Int}{u:Nat->BitVec 64}(h0:0<=k):Rl.put ⟨n,qq u k⟩ k.toNat (vK (qq u k k.toNat) k)=⟨n,qq u (k+1)⟩:=yf fun i=>by
 show(if i=k.toNat then vK (qq u k k.toNat) k else qq u k i)=qq u (k+1) i
 unfold qq
 by_cases h1:i=k.toNat
 .subst h1
  rw[aY O,aW J,aY J,gm h0]
 rw[aW h1]
 by_cases h2:(i:Int)<k
 .rw[aY h2,aY J]
 rw[aW h2,aW J]
def j4(m:Nat)(k:Int)(u:Nat->BitVec 64):Nat->BitVec 64:=fun i=>if(i:Int)<k/\(u i).getLsbD m=true then u i|||u m else u i
theorem adu(m:Nat)(n:Int)(u:Nat->BitVec 64):(⟨n,u⟩:Rl)=⟨n,j4 m 0 u⟩:=by grind[Rl,j4,yf]
theorem agE(m:Nat)(k:Int)(u:Nat->BitVec 64):j4 m k u m=u m:=by grind[j4]
theorem UH{n m k:Int}{u:Nat->BitVec 64}(m0:0<=m)(h0:0<=k)(h:hasB (j4 m.toNat k u k.toNat) m=true):
  Rl.put ⟨n,j4 m.toNat k u⟩ k.toNat (j4 m.toNat k u k.toNat|||j4 m.toNat k u m.toNat)=⟨n,j4 m.toNat (k+1) u⟩:=yf fun i=>by
 rw[hasB,cL]at h
 have e:j4 m.toNat k u k.toNat=u k.toNat:=aW J
 rw[e]at h⊢
 rw[agE]
 show(if i=k.toNat then u k.toNat|||u m.toNat else j4 m.toNat k u i)=j4 m.toNat (k+1) u i
 unfold j4
 by_cases h1:i=k.toNat
 .subst h1
  rw[aY O,aY ⟨J,h.2⟩]
 rw[aW h1]
 have:((i:Int)<k)↔((i:Int)<k+1):=J
 simp only[this]
theorem agF{n m k:Int}{u:Nat->BitVec 64}(m0:0<=m/\m<64)(h0:0<=k)(h:hasB (j4 m.toNat k u k.toNat) m=false):(⟨n,j4 m.toNat k u⟩:Rl)=⟨n,j4 m.toNat (k+1) u⟩:=by grind[yf,j4,hasB,Ad]
def wall(n:Int)(u:Nat->BitVec 64):Nat->Nat->BitVec 64
 |0=>u
 |m+1=>j4 m n (wall n u m)
theorem adv{n m:Int}{u:Nat->BitVec 64}(h:0<=m):(⟨n,j4 m.toNat n (wall n u m.toNat)⟩:Rl)=⟨n,wall n u (m+1).toNat⟩:=by
 rw[show(m+1).toNat=m.toNat+1 by omega];rfl
def jo(r:Rl):Rl:=⟨pts r,wall (pts r) (qq (eM r).up (pts r)) (pts r).toNat⟩
theorem arS{l:List Int}{x k:Int}(h0:0<=k)(h:k<l.length)(e:l.getD k.toNat 0=x):l.contains x=true:=by grind
theorem awH{l:List Int}{x:Int}(hf:∀j:Int,0<=j->j<l.length->l.getD j.toNat 0≠x):l.contains x=false:=by
 rw[Fb,xg]
 intro h
 obtain⟨i,hi,rfl⟩:=ur h
 refine hf i J J ?_
 simp[eV,hi]
end Go.Proofs.YtlhjdflgjbkpmaaGreatDoor.M
namespace Go.Proofs.YtlhjdflgjbkpmaaGreatDoor.E
section
open Go Go.RowKit Go.Proofs.YtlhjdflgjbkpmaaGreatDoor.M
def wS(r:Rl):List Value:=I r.n::(List.range 64).map fun i=>U (r.up i)
@[irreducible] def dV(r:Rl):Array Value:=(wS r).toArray
theorem jq(r:Rl):dV r=(wS r).toArray:=by unfold dV;rfl
theorem pQ(r:Rl):(wS r).length=65:=by simp[wS]
theorem Ih(r:Rl):(dV r).size=65:=by rw[jq];simp[wS]
theorem fx(r:Rl):(dV r)[0]?=some (I r.n):=by rw[jq];simp[wS]
theorem xl(r:Rl){i:Nat}(h:i<64):(dV r)[0+1+i*1]?=some (U (r.up i)):=by
 rw[jq,show 0+1+i*1=i+1 by omega];simp[wS,h]
theorem Ml(r:Rl):∀u∈dV r,u.oneCell'=true:=by
 rw[jq];simp[wS]
 exact⟨rfl,fun _ _=>rfl⟩
theorem yO(r:Rl)(i:Nat)(x:BitVec 64):(dV r).setIfInBounds (0+1+i*1) (U x)=dV (r.put i x):=by
 rw[jq,jq]
 apply X3
 intro j
 rw[EA]
 simp only[HO,vz,pQ]
 cases j with
 |zero=>
  rw[aW J]
  simp[wS,Rl.put]
 |succ j=>
  simp only[wS,List.getElem?_cons_succ,qC]
  by_cases h:i=j
  .subst h
   rw[aY J]
   by_cases h2:i<64
   .rw[aY J];simp[h2,Rl.put]
   rw[aW J];simp[h2]
  rw[aW J]
  by_cases h2:j<64
  .have h3:¬j=i:=fun e=>h e.symm
   simp[h2,Rl.put,h3]
  simp[h2]
section runs
variable{P:Program}{σ:Env}{w:World}{dst:Option Tmp}{ty t u:TypeId}{pos:String}{bO:Array Edge}{g:Option (Nat×Bool)}{x y:Operand}{b:Nat}{e:TypeId}{r:Rl}{fr:Nat×Nat}
theorem dL{ps:List (Nat×Operand)}{vs:List (Nat×Value)}{cells:Array Value}(h:ps.map (fun p=>(p.1,ev σ p.2))=vs)(hb:P.built t vs=some cells):
 (execOp (ev σ) ⟨dst,.build t ps.toArray,ty,pos,bO,g⟩).run P w= .ok (.value (.agg cells)) w:=Go.Proofs.YtlhjdflgjbkpmaaGreatDoor.E.run_build h hb
theorem bj{c:List Value}(hg:w.heap[b]?=some (.cells c.toArray e fr)):w.rangeAt b 0 c:=fun j v hj=>by
 unfold World.cell?
 simp only[hg]
 simpa using hj
theorem aS{d:TypeDesc}(hu:P.underlying t=some d)(hd:d.isRow=true)(hi:(P.info? t).map (·.size)=some 65)(hx:ev σ x= .pointer (some ⟨b,0,none⟩))
 (hg:w.heap[b]?=some (.cells (dV r) e fr)):(execOp (ev σ) ⟨dst,.load t x,ty,pos,bO,g⟩).run P w= .ok (.value (.agg (dV r))) w:=by grind[jq,cC,pQ,bj]
theorem oV{r0:Rl}(hi:(P.info? t).map (·.size)=some 65)(hx:ev σ x= .pointer (some ⟨b,0,none⟩))(hy:ev σ y= .agg (dV r))(hg:w.heap[b]?=some (.cells (dV r0) e (0,0))):
 (execOp (ev σ) ⟨dst,.store t x y,ty,pos,bO,g⟩).run P w= .ok .skip (w.setRow b (dV r)):=by grind[dK,Ih,Ml]
theorem aDB(a b:BitVec 64):(((a.toNat:Nat):Int)==((b.toNat:Nat):Int))=decide (a=b):=by grind[BitVec.eq_of_toNat_eq]
theorem apl(d:Nat){t e:TypeId}{len:Nat}(f h:Nat->BitVec 64)(hu:P.underlying t=some (.array len e))(he:P.underlying e=some (.int .u64))(hs:∀w,(sizeOf e).run P w= .ok 1 w)(ha:∀w,(isAgg e).run P w= .ok false w):
  (Op.equalIn (d+1+1) t (.agg ((List.range len).map fun i=>U (f i)).toArray) (.agg ((List.range len).map fun i=>U (h i)).toArray)).run P w= .ok (decide (∀i,i<len->f i=h i)) w:=by
 unfold Op.equalIn
 simp only[uw,kP hu,xR,hs]
 rw[Std.Legacy.Range.forIn_eq_forIn_range']
 have key:∀(n s:Nat),s+n<=len->(Sem.run P (forIn (List.range' s n 1) ((none:Option Bool),()) fun i __s=>do
      let __do_lift<-part e (List.map (fun i=>U (f i)) (List.range len)).toArray (i*1)
      let UI<-part e (List.map (fun i=>U (h i)) (List.range len)).toArray (i*1)
      let __do_lift<-Op.equalIn (d+1) e __do_lift UI
      if(!__do_lift)=true then pure (ForInStep.done (some false,()))else pure (ForInStep.yield (none,()))) w)
   = .ok (if∀i,i<n->f (s+i)=h (s+i)then(none,())else(some false,())) w:=by
  intro n
  induction n with
  |zero=>
   intro s hs2
   have:∀i,i<0->f (s+i)=h (s+i):=fun i b=>by omega
   rw[aY this];rfl
  |succ n ih=>
   intro s hs2
   have hp:∀g:Nat->BitVec 64,(part e (List.map (fun i=>U (g i)) (List.range len)).toArray (s*1)).run P w= .ok (U (g s)) w:=fun g=>by
    simp[part,ha,show s<len by omega]
   rw[List.range'_succ,List.forIn_cons]
   simp only[uw,hp,xR,RJ w d e .u64 .u64 _ _ he,aDB]
   by_cases h1:f s=h s
   .rw[gY h1]
    simp only[Bool.not_true,uL,x7,Sem.run_pure,xR]
    rw[ih (s+1) J]
    by_cases h2:∀i,i<n->f (s+1+i)=h (s+1+i)
    .have h3:∀i,i<n+1->f (s+i)=h (s+i):=fun i a=>by
      cases i with
      |zero=>exact h1
      |succ i=>have:=h2 i J;rwa[show s+1+i=s+(i+1)by omega]at this
     rw[aY h2,aY h3]
    have h3:¬∀i,i<n+1->f (s+i)=h (s+i):=fun h3=>h2 fun i a=>by
     have:=h3 (i+1) J;rwa[show s+(i+1)=s+1+i by omega]at this
    rw[aW h2,aW h3]
   rw[hG h1]
   have h3:¬∀i,i<n+1->f (s+i)=h (s+i):=fun h3=>h1 (h3 0 J)
   rw[aW h3]
   simp only[Bool.not_false,uB,Sem.run_pure,xR]
 have k2:=key len 0 J
 have e0:(Std.Legacy.Range.mk 0 len 1 az).size=len:=by simp[Std.Legacy.Range.size]
 simp only[e0]
 rw[k2]
 by_cases h2:∀i,i<len->f i=h i
 .have h3:∀i,i<len->f (0+i)=h (0+i):=fun i b=>by rw[gQ];exact h2 i b
  rw[aY h3,gY h2];rfl
 have h3:¬∀i,i<len->f (0+i)=h (0+i):=fun h3=>h2 fun i b=>by have:=h3 i b;rwa[gQ]at this
 rw[aW h3,hG h2];rfl
theorem adw(r:Rl):(dV r).extract 1 (1+64)=((List.range 64).map fun i=>U (r.up i)).toArray:=by grind[jq,wS]
structure amq(P:Program)(t:TypeId)(f0 f1:Field)(e:TypeId):Prop where
 u:P.underlying t=some (.struct (P.fieldsOf t))
 f:P.fieldsOf t=#[f0,f1]
 n0:f0.name≠ "_"
 n1:f1.name≠ "_"
 o0:f0.offset=0
 o1:f1.offset=1
 u0:P.underlying f0.type=some (.int .i64)
 a0:∀w,(isAgg f0.type).run P w= .ok false w
 u1:P.underlying f1.type=some (.array 64 e)
 a1:∀w,(isAgg f1.type).run P w= .ok true w
 s1:∀w,(sizeOf f1.type).run P w= .ok 64 w
 ue:P.underlying e=some (.int .u64)
 se:∀w,(sizeOf e).run P w= .ok 1 w
 ae:∀w,(isAgg e).run P w= .ok false w
 st:P.stoodInHeld t=false
 eg:P.eqGuardType P.depth t=false
theorem amq.eql{f0 f1:Field}(T:amq P t f0 f1 e)(a b:Rl)(w:World):(Op.equalIn 10000 t (.agg (dV a)) (.agg (dV b))).run P w= .ok (decide (a.eq b)) w:=by
 rw[run_equalIn_struct w 9999 t _ _ T.u T.st,T.f]
 have p0:∀r:Rl,(part f0.type (dV r) f0.offset).run P w= .ok (I r.n) w:=fun r=>by
  rw[T.o0];have:=fx r;simp[part,T.a0,this]
 have p1:∀r:Rl,(part f1.type (dV r) f1.offset).run P w= .ok (.agg ((List.range 64).map fun i=>U (r.up i)).toArray) w:=fun r=>by
  rw[T.o1,<-adw];simp[part,T.a1,T.s1]
 have e0:(Op.equalIn 9999 f0.type (I a.n) (I b.n)).run P w= .ok (a.n==b.n) w:=RJ w 9998 _ .i64 .i64 _ _ T.u0
 have e1:(Op.equalIn 9999 f1.type (.agg ((List.range 64).map fun i=>U (a.up i)).toArray) (.agg ((List.range 64).map fun i=>U (b.up i)).toArray)).run P w= .ok (decide (∀i:Nat,i<64->a.up i=b.up i)) w:=
  apl 9997 _ _ T.u1 T.ue T.se T.ae
 simp only[Op.eqFields,T.n0,T.n1,ne_eq,X9,uB,uw,p0,e0,xR]
 by_cases h0:a.n=b.n
 .by_cases h1:∀i,i<64->a.up i=b.up i
  .rw[gY h1]at e1
   rw[gY (show a.eq b from⟨h0,h1⟩)];simp[h0,p1,e1]
  rw[hG h1]at e1
  rw[hG (show¬a.eq b from fun h=>h1 h.2)];simp[h0,p1,e1]
 rw[hG (show¬a.eq b from fun h=>h0 h.1)];simp[h0]
theorem Fy{f0 f1:Field}{a b:Rl}(T:amq P t f0 f1 e)(hx:ev σ x= .agg (dV a))(hy:ev σ y= .agg (dV b)):
  (execOp (ev σ) ⟨dst,.binOp .eql t x y u,ty,pos,bO,g⟩).run P w= .ok (.value (.bool (decide (a.eq b)))) w:=by
 have h:=run_eql_struct (P:=P) w t (dV a) (dV b)
 rw[T.eql]at h
 simp only[execOp,hx,hy,uw,Yi w .eql t x y _ _ T.eg,xR]
 simp[h]
structure apm(P:Program)(t:TypeId)(f0 f1:Field):Prop where
 u:P.underlying t=some (.struct (P.fieldsOf t))
 f:P.fieldsOf t=#[f0,f1]
 n0:f0.name≠ "_"
 n1:f1.name≠ "_"
 o0:f0.offset=0
 o1:f1.offset=1
 u0:P.underlying f0.type=some (.int .i64)
 a0:∀w,(isAgg f0.type).run P w= .ok false w
 u1:P.underlying f1.type=some (.int .i64)
 a1:∀w,(isAgg f1.type).run P w= .ok false w
 st:P.stoodInHeld t=false
 eg:P.eqGuardType P.depth t=false
theorem apm.eql{f0 f1:Field}(T:apm P t f0 f1)(a b c d:Int)(w:World):(Op.equalIn 10000 t (.agg #[I a,I b]) (.agg #[I c,I d])).run P w= .ok (decide ((a,b)=(c,d))) w:=by
 rw[run_equalIn_struct w 9999 t _ _ T.u T.st,T.f]
 have p0:∀x y:Int,(part f0.type #[I x,I y] f0.offset).run P w= .ok (I x) w:=fun x y=>by
  rw[T.o0];simp[part,T.a0]
 have p1:∀x y:Int,(part f1.type #[I x,I y] f1.offset).run P w= .ok (I y) w:=fun x y=>by
  rw[T.o1];simp[part,T.a1]
 have e0:(Op.equalIn 9999 f0.type (I a) (I c)).run P w= .ok (a==c) w:=RJ w 9998 _ .i64 .i64 _ _ T.u0
 have e1:(Op.equalIn 9999 f1.type (I b) (I d)).run P w= .ok (b==d) w:=RJ w 9998 _ .i64 .i64 _ _ T.u1
 simp only[Op.eqFields,T.n0,T.n1,ne_eq,X9,uB,uw,p0,e0,xR]
 by_cases h0:a=c
 .subst h0
  by_cases h1:b=d
  .subst h1;simp[p1,e1]
  simp[p1,e1,h1]
 simp[h0]
theorem agH{w0 w:World}{fn:Func}{L:List bu}{i p:Nat}{q:Value->World->Prop}{d:TypeDesc}{ty:TypeId}(h:fn.results=#[.cell p ty])(hp:σ p= .pointer (some ⟨b,0,none⟩))(hH:Hp w0 w L)
  (hi:L[i]?=some (.blk b (.cells (dV r) e fr))) (hu:P.underlying ty=some d) (hd:d.isRow=true) (hz:(P.info? ty).map (·.size)=some 65) (hq:q (.agg (dV r)) w):Out P fn q σ w:=
 fun n a ha=>⟨_,results_cell_row h _ w b e (dV r) fr d (by rw[ha.get,hp]) (hH.blk hi) hu (by cases d<;>simp_all) (by rw[Ih];exact hz),hq⟩
def prL(l:List (Int×Int)):List Value:=l.flatMap fun p=>[I p.1,I p.2]
@[simp] theorem awI(l:List (Int×Int))(a b:Int):prL (l++[(a,b)])=prL l++[I a,I b]:=by simp[prL]
end runs
end
end Go.Proofs.YtlhjdflgjbkpmaaGreatDoor.E
namespace Go.Proofs.YtlhjdflgjbkpmaaGreatDoor.M
theorem agI(m:Nat)(n:Int)(u:Nat->BitVec 64)(i j:Nat):(j4 m n u i).getLsbD j=((u i).getLsbD j||(decide ((i:Int)<n)&&(u i).getLsbD m&&(u m).getLsbD j)):=by grind[j4]
structure Thr(n:Int)(u0 u:Nat->BitVec 64)(m:Nat):Prop where
 Fz:∀i j:Nat,(u i).getLsbD j=true->(i:Int)<n/\(j:Int)<n
 base:∀i j:Nat,(u0 i).getLsbD j=true->(u i).getLsbD j=true
 thr:∀k:Nat,k<m->∀i j:Nat,(u i).getLsbD k=true->(u k).getLsbD j=true->(u i).getLsbD j=true
 sound:∀S:Nat->Prop,(∀x y:Nat,S x->(u0 x).getLsbD y=true->S y)->∀x y:Nat,S x->(u x).getLsbD y=true->S y
theorem Thr.pass{n:Int}{u0 u:Nat->BitVec 64}{m:Nat}(h:Thr n u0 u m):Thr n u0 (j4 m n u) (m+1):=by
 have bit:∀i j:Nat,(j4 m n u i).getLsbD j=true↔((u i).getLsbD j=true\/((u i).getLsbD m=true/\(u m).getLsbD j=true)):=fun i j=>by
  rw[agI]
  simp only[qj,cL,eD]
  constructor
  .rintro(h1|⟨⟨h1,h2⟩,h3⟩)
   .exact .inl h1
   exact .inr ⟨h2,h3⟩
  rintro(h1|⟨h1,h2⟩)
  .exact .inl h1
  exact .inr ⟨⟨(h.Fz _ _ h1).1,h1⟩,h2⟩
 refine⟨fun i j hb=> ?_,fun i j hb=>(bit i j).2 (.inl (h.base i j hb)),fun k hk i j h1 h2=> ?_,fun S hS x y hx hb=> ?_⟩
 .rcases(bit i j).1 hb with h1|⟨h1,h2⟩
  .exact h.Fz i j h1
  exact⟨(h.Fz i m h1).1,(h.Fz m j h2).2⟩
 .rw[bit]at*
  by_cases e:k=m
  .subst e
   have a1:(u i).getLsbD k=true:=by rcases h1 with h1|h1;exact h1;exact h1.1
   have a2:(u k).getLsbD j=true:=by rcases h2 with h2|h2;exact h2;exact h2.2
   exact .inr ⟨a1,a2⟩
  have hk':k<m:=J
  rcases h1 with h1|⟨h1,h1'⟩<;>rcases h2 with h2|⟨h2,h2'⟩
  .exact .inl (h.thr k hk' i j h1 h2)
  .exact .inr ⟨h.thr k hk' i m h1 h2,h2'⟩
  .exact .inr ⟨h1,h.thr k hk' m j h1' h2⟩
  exact .inr ⟨h1,h2'⟩
 rcases(bit x y).1 hb with h1|⟨h1,h2⟩
 .exact h.sound S hS x y hx h1
 exact h.sound S hS m y (h.sound S hS x m hx h1) h2
theorem Thr.wall{n:Int}{u0:Nat->BitVec 64}(hi:∀i j:Nat,(u0 i).getLsbD j=true->(i:Int)<n/\(j:Int)<n):∀m,Thr n u0 (wall n u0 m) m
 |0=>⟨hi,fun _ _ h=>h,fun k hk=>J,fun S hS x y hx hb=>hS x y hx hb⟩
 |m+1=>(Thr.wall hi m).pass
theorem Gz(r:Rl)(i j:Nat):(qq (eM r).up (pts r) i).getLsbD j=true↔((i:Int)<pts r/\(j:Int)<pts r/\(bL r i j=true\/i=j)):=by grind[Rl,qq,eM,pts,bL,dA,EE,vM,ye,uV,rE]
theorem DQ(r:Rl):Thr (pts r) (qq (eM r).up (pts r)) (jo r).up (pts r).toNat:=Thr.wall (fun i j h=>by have:=(Gz r i j).1 h;exact⟨this.1,this.2.1⟩) _
theorem abd{r:Rl}{u:Nat->BitVec 64}:pts ⟨pts r,u⟩=pts r:=by unfold pts;simp;omega
theorem z7(r:Rl):pts (jo r)=pts r:=abd
theorem Iy(r:Rl):pts (eM r)=pts r:=abd
theorem jT{r:Rl}{i j:Int}(h:bL r i j=true):(0<=i/\i<pts r)/\(0<=j/\j<pts r)/\(r.up i.toNat).getLsbD j.toNat=true:=by grind[bL,rE]
theorem KM{r:Rl}{i j:Int}(hi:0<=i/\i<pts r)(hj:0<=j/\j<pts r)(h:(r.up i.toNat).getLsbD j.toNat=true):bL r i j=true:=by grind[bL,rE]
theorem abe{r:Rl}{i j:Nat}:((jo r).up i).getLsbD j=true↔bL (jo r) i j=true:=by
 constructor
 .intro h
  have:=(DQ r).Fz i j h
  exact KM Ij Ij yc
 intro h
 have:=(jT h).2.2;simpa using this
theorem yP{r:Rl}{i:Int}(h:0<=i/\i<pts r):bL (jo r) i i=true:=
 KM Ij Ij ((DQ r).base _ _ ((Gz r _ _).2 ⟨J,J,.inr O⟩))
theorem GC{r:Rl}{i j:Int}(h:bL r i j=true):bL (jo r) i j=true:=by
 obtain⟨h1,h2,-⟩:=jT h
 refine KM Ij Ij ((DQ r).base _ _ ((Gz r _ _).2 ⟨J,J,.inl ?_⟩))
 rw[gm h1.1,gm h2.1];exact h
theorem nM{r:Rl}{i j k:Int}(h1:bL (jo r) i j=true)(h2:bL (jo r) j k=true):bL (jo r) i k=true:=by
 obtain⟨a1,a2,a3⟩:=jT h1
 obtain⟨b1,b2,b3⟩:=jT h2
 exact KM a1 b2 ((DQ r).thr _ (by rw[z7]at a2;omega) _ _ a3 b3)
theorem DR{r:Rl}{i j:Int}(h:bL (jo r) i j=true)(S:Int->Prop)(hS:∀x y,S x->bL r x y=true->S y)(hi:S i):S j:=by
 obtain⟨a1,a2,a3⟩:=jT h
 have:=(DQ r).sound (fun x=>S (x:Int)) (fun x y hx hb=>by
  obtain⟨-,-,h1|h1⟩:=(Gz r x y).1 hb
  .exact hS _ _ hx h1
  subst h1;exact hx) i.toNat j.toNat (by rw[gm a1.1];exact hi) a3
 rwa[gm a2.1]at this
def scan(r:Rl)(x:Int)(l:List Int):Nat->List Int
 |0=>l
 |b+1=>if(bL r x b&& !(scan r x l b).contains (b:Int))=true then scan r x l b++[(b:Int)]else scan r x l b
def XA(r:Rl):Nat->Nat->List Int->List Int
 |0,_,l=>l
 |f+1,a,l=>if a<l.length then XA r f (a+1) (scan r (l.getD a 0) l (pts r).toNat)else l
def yh(r:Rl)(i:Int):List Int:=if BG r i then XA r 65 0 [i]else[]
theorem PK{r:Rl}{i:Int}(h:¬(0<=i/\i<pts r)):yh r i=[]:=aW fun h'=>h (rE.1 h')
def UJ(r:Rl)(l:List Int):Prop:=l.Nodup/\∀x∈l,0<=x/\x<pts r
theorem DS:∀(n:Nat) (l:List Int),l.Nodup->(∀x∈l,0<=x/\x<(n:Int))->l.length<=n
 |0,l,_,h=>by
  cases l with
  |nil=>simp
  |cons x l=>have:=h x aJ;omega
 |n+1,l,hn,h=>by
  by_cases hm:(n:Int)∈l
  .have h1:=XP hm
   have h2:=DS n (l.erase (n:Int)) (hn.erase _) fun x hx=>by
    have h3:=(hn.mem_erase_iff).1 hx
    have:=h x h3.2;omega
   have:0<l.length:=Rt hm
   omega
  have:=DS n l hn fun x hx=>by
   have:=h x hx
   have:x≠n:=fun e=>hm (e▸hx)
   omega
  omega
theorem UJ.len{r:Rl}{l:List Int}(h:UJ r l):l.length<=64:=by
 have hp:=dA r
 have:=DS (pts r).toNat l h.1 fun x hx=>by have:=h.2 x hx;omega
 omega
theorem UJ.one{r:Rl}{i:Int}(h:0<=i/\i<pts r):UJ r [i]:=by grind[Rl,pts,UJ]
theorem UJ.add{r:Rl}{l:List Int}{b:Int}(h:UJ r l)(hb:0<=b/\b<pts r)(hc:l.contains b=false):UJ r (l++[b]):=by grind[Rl,UJ,pts]
theorem abf{r:Rl}{x:Int}{l:List Int}(h:UJ r l):∀k:Nat,(k:Int)<=pts r->UJ r (scan r x l k)
 |0,_=>h
 |k+1,hk=>by
  have ih:=abf (x:=x) h k J
  unfold scan
  split
  .rename_i hc
   simp only[cL,Cc]at hc
   exact ih.add ⟨J,J⟩ hc.2
  exact ih
theorem Mm{r:Rl}{x:Int}{l:List Int}:∀k:Nat,∃t,scan r x l k=l++t/\∀y∈t,bL r x y=true
 |0=>⟨[],by simp[scan],aJ⟩
 |k+1=>by
  obtain⟨t,h1,h2⟩:=Mm (r:=r) (x:=x) (l:=l) k
  unfold scan
  split
  .rename_i hc
   simp only[cL]at hc
   refine⟨t++[(k:Int)],by rw[h1,dH],fun y hy=> ?_⟩
   rcases fh.1 hy with hy|hy
   .exact h2 y hy
   simp at hy;subst hy;exact hc.1
  exact⟨t,h1,h2⟩
theorem UK{r:Rl}{x:Int}{l:List Int}:∀(k:Nat) (b:Nat),b<k->bL r x b=true->(b:Int)∈scan r x l k
 |0,b,hb,_=>by omega
 |k+1,b,hb,h=>by
  have ih:=UK (r:=r) (x:=x) (l:=l) k b
  unfold scan
  split
  .rename_i hc
   by_cases e:b=k
   .subst e;simp
   exact dI _ (ih J h)
  rename_i hc
  by_cases e:b=k
  .subst e
   rw[h]at hc;simp at hc;exact hc
  exact ih J h
theorem abg{r:Rl}(Q:Int->Prop)(hQ:∀x y,Q x->bL r x y=true->Q y):∀(f a:Nat) (l:List Int),(∀x∈l,Q x)->∀x∈XA r f a l,Q x
 |0,a,l,h=>h
 |f+1,a,l,h=>by
  unfold XA
  split
  .rename_i ha
   refine abg Q hQ f (a+1) _ ?_
   obtain⟨t,h1,h2⟩:=Mm (r:=r) (x:=l.getD a 0) (l:=l) (pts r).toNat
   rw[h1]
   intro y hy
   rcases fh.1 hy with hy|hy
   .exact h y hy
   refine hQ _ _ (h (l.getD a 0) ?_) (h2 y hy)
   rw[eV,eF ha];exact qD _
  exact h
theorem Mn{r:Rl}:∀(f a:Nat) (l:List Int),f+a=65->UJ r l->a<=l.length->(∀k,k<a->∀b,bL r (l.getD k 0) b=true->b∈l)->
  UJ r (XA r f a l)/\(∀x∈l,x∈XA r f a l)/\∀x∈XA r f a l,∀b,bL r x b=true->b∈XA r f a l
 |0,a,l,hf,hok,ha,h=>by have:=hok.len;omega
 |f+1,a,l,hf,hok,ha,h=>by
  have hp:=dA r
  unfold XA
  split
  .rename_i hlt
   obtain⟨t,h1,h2⟩:=Mm (r:=r) (x:=l.getD a 0) (l:=l) (pts r).toNat
   have UL:∀k,k<l.length->(l++t).getD k 0=l.getD k 0:=fun k hk=>by
    rw[eV,eV,zL hk]
   have ih:=Mn f (a+1) (scan r (l.getD a 0) l (pts r).toNat) J (abf hok _ J) (by rw[h1,ed];omega) (fun k hk b hb=>by
    rw[h1,UL k J]at hb
    by_cases e:k=a
    .subst e
     obtain⟨-,b2,-⟩:=jT hb
     have:=UK (r:=r) (x:=l.getD k 0) (l:=l) (pts r).toNat b.toNat J (by rw[gm b2.1];exact hb)
     rwa[gm b2.1]at this
    rw[h1];exact dI _ (h k J b hb))
   refine⟨ih.1,fun x hx=>ih.2.1 x (by rw[h1];exact dI _ hx),ih.2.2⟩
  rename_i hge
  refine⟨hok,fun x hx=>hx,fun x hx b hb=> ?_⟩
  obtain⟨k,hk,rfl⟩:=ur hx
  refine h k J b ?_
  rw[eV,eF hk];exact hb
theorem adx(r:Rl)(i j:Int):j∈yh r i↔bL (jo r) i j=true:=by
 by_cases h:0<=i/\i<pts r
 .rw[yh,aY (rE.2 h)]
  have hc:=Mn 65 0 [i] O (UJ.one h) aJ (fun k hk=>J)
  constructor
  .intro hj
   exact abg (fun x=>bL (jo r) i x=true) (fun x y hx hy=>nM hx (GC hy)) 65 0 [i] (fun x hx=>by simp at hx;subst hx;exact yP h) j hj
  intro hj
  exact DR hj (fun x=>x∈XA r 65 0 [i]) (fun x y hx hy=>hc.2.2 x hx y hy) (hc.2.1 i aJ)
 rw[PK h]
 constructor
 .intro hj;cases hj
 intro hj
 have:=(jT hj).1
 rw[z7]at this;exact absurd this h
theorem agJ{r:Rl}{a:Int}{l:List Int}(h0:0<=a)(h:a<l.length)(hl:l.length<=64):XA r (65-a.toNat) a.toNat l=XA r (65-(a+1).toNat) (a+1).toNat (scan r (l.getD a.toNat 0) l (pts r).toNat):=by
 rw[show 65-a.toNat=(65-(a+1).toNat)+1 by omega,show(a+1).toNat=a.toNat+1 by omega]
 rw[XA,aY J]
theorem abh{r:Rl}{a:Int}{l:List Int}(h0:0<=a)(h:¬a<l.length):XA r (65-a.toNat) a.toNat l=l:=by
 cases 65-a.toNat with
 |zero=>rfl
 |succ f=>rw[XA,aW J]
theorem agK{r:Rl}{x b:Int}{l:List Int}(h0:0<=b)(h:bL r x b=true)(hc:(scan r x l b.toNat).contains b=false):scan r x l b.toNat++[b]=scan r x l (b+1).toNat:=by
 rw[show(b+1).toNat=b.toNat+1 by omega]
 rw[scan,gm h0,h,hc];rfl
theorem agL{r:Rl}{x b:Int}{l:List Int}(h0:0<=b)(h:bL r x b=false):scan r x l b.toNat=scan r x l (b+1).toNat:=by
 rw[show(b+1).toNat=b.toNat+1 by omega]
 rw[scan,gm h0,h];rfl
theorem agM{r:Rl}{x b:Int}{l:List Int}(h0:0<=b)(hc:(scan r x l b.toNat).contains b=true):scan r x l b.toNat=scan r x l (b+1).toNat:=by
 rw[show(b+1).toNat=b.toNat+1 by omega]
 rw[scan,gm h0,hc];simp
theorem ady(r:Rl){i:Nat}(h:(i:Int)<pts r):k8 (yh r i)=(jo r).up i:=eL fun j hj=>by
 rw[ig,gY hj,l7,gX,abe,<-adx]
 simp[Fb]
theorem UM(r:Rl){i:Nat}(h:¬(i:Int)<pts r):(jo r).up i=0#64:=eL fun j hj=>by
 cases hc:((jo r).up i).getLsbD j with
 |false=>simp
 |true=>exact absurd ((DQ r).Fz i j hc).1 h
theorem amr(r:Rl):EE (pts r) (fun i=>k8 (yh r i)) (pts r)=jo r:=by
 refine yf fun i=> ?_
 by_cases h:(i:Int)<pts r
 .rw[aY h];exact ady r h
 rw[aW h];exact(UM r h).symm
theorem adz(r:Rl):eM (jo r)=jo r:=by
 have hp:=dA r
 unfold eM
 rw[z7]
 refine yf fun i=> ?_
 show(if(i:Int)<pts r then vM (jo r) i else 0#64)=(jo r).up i
 by_cases h:(i:Int)<pts r
 .rw[aY h]
  refine eL fun j hj=> ?_
  rw[uV (jo r) ⟨J,by rw[z7];exact h⟩,gX,abe]
 rw[aW h];exact(UM r h).symm
def agN(n:Int):Rl:=⟨pts ⟨n,fun _=>0#64⟩,fun _=>0#64⟩
def aDE(r:Rl)(p:Int×Int):Rl:=if BG r p.1&&BG r p.2 then r.put p.1.toNat (vK (r.up p.1.toNat) p.2)else r
def ofR(n:Int)(l:List (Int×Int)):Rl:=l.foldl aDE (agN n)
def aJT(r:Rl)(i j:Int):Rl:=if BG r i&&BG r j then(eM r).put i.toNat (vK ((eM r).up i.toNat) j)else eM r
def DT(r:Rl)(i:Int):BitVec 64:=upR r (k8 [i])&&&EF r (k8 [i])
def gq(r:Rl):Bool:=decide ((eM r).eq (jo r))&&decide (∀i:Nat,i<(pts r).toNat->∀j:Nat,j<i->(bL r i j&&bL r j i)=false)
theorem adA(r:Rl)(i j:Int):bL (eM r) i j=bL r i j:=by
 have hp:=dA r
 by_cases hi:0<=i/\i<pts r
 .by_cases hj:0<=j/\j<pts r
  .rw[bL,BG,BG,Iy,gY hi,gY hj]
   have e:(eM r).up i.toNat=vM r i:=by
    show(if((i.toNat:Nat):Int)<pts r then vM r (i.toNat:Nat)else 0#64)=vM r i
    rw[gm hi.1,aY hi.2]
   rw[e,uV r hi,gm hj.1];rfl
  rw[Sy (by rw[BG,Iy];exact hG hj),Sy (by rw[BG];exact hG hj)]
 rw[KK (by rw[BG,Iy];exact hG hi),KK (by rw[BG];exact hG hi)]
theorem has_eq{a b:Rl}(h:a.eq b)(i j:Int):bL a i j=bL b i j:=by
 have hp:pts a=pts b:=by unfold pts;rw[h.1]
 have hb:=dA b
 by_cases hi:0<=i/\i<pts b
 .rw[bL,bL,BG,BG,BG,BG,hp,h.2 i.toNat J]
 rw[KK (by rw[BG,hp];exact hG hi),KK (by rw[BG];exact hG hi)]
theorem sN{r:Rl}(h:(eM r).eq (jo r))(i j:Int):bL r i j=bL (jo r) i j:=by rw[<-adA,has_eq h]
theorem agO(r:Rl)(s:BitVec 64)(j:Nat):(upR r s).getLsbD j=true↔∃i:Int,hasB s i=true/\bL r i j=true:=by
 rw[upR,Ix,Ff]
 constructor
 .rintro⟨i,h1,h2⟩
  rw[fF,hasB,rh,fI,cL,cL,eD,Ad,eD]at h1
  have hi:0<=i/\i<pts r:=J
  refine⟨i,by rw[hasB,h1.2.1,Ad,gY J];rfl,?_⟩
  rwa[uV r hi]at h2
 rintro⟨i,h1,h2⟩
 have hi:=(jT h2).1
 have hb:=uW h1
 refine⟨i,?_,by rw[uV r hi];exact h2⟩
 rw[fF,hasB,rh,fI]
 rw[hasB,cL]at h1
 rw[h1.1,h1.2,gY J];rfl
theorem UN{s:BitVec 64}:s≠0#64↔∃i:Nat,s.getLsbD i=true:=by
 constructor
 .intro h
  by_cases hc:∃i:Nat,s.getLsbD i=true
  .exact hc
  refine absurd (eL fun i _=> ?_) h
  cases hb:s.getLsbD i with
  |false=>simp
  |true=>exact absurd ⟨i,hb⟩ hc
 rintro⟨i,h⟩ e
 rw[e]at h;simp at h
theorem Mo(r:Rl)(s:BitVec 64)(j:Nat):(EF r s).getLsbD j=true↔∃i:Int,hasB s i=true/\bL r j i=true:=by
 have hp:=dA r
 rw[EF,yg,kF,cL,cL,eD,eD,eD]
 rw[UN]
 constructor
 .rintro⟨⟨h1,h2⟩,i,h3⟩
  rw[rh,cL,uV r ⟨J,J⟩]at h3
  have hi:=(jT h3.1).2.1
  exact⟨i,by rw[hasB,Ad,gY J];simpa using h3.2,h3.1⟩
 rintro⟨i,h1,h2⟩
 obtain⟨a1,a2,-⟩:=jT h2
 refine⟨⟨J,J⟩,i.toNat,?_⟩
 rw[rh,uV r a1,gm a2.1,h2]
 rw[hasB,cL]at h1
 rw[h1.2];rfl
theorem UO{i j:Int}(h:0<=i/\i<64):hasB (k8 [i]) j=true↔j=i:=by grind[fF,uW,hasB,ig,Ad]
theorem Mp{r:Rl}{i:Int}(h:0<=i/\i<pts r)(j:Nat):(DT r i).getLsbD j=true↔(bL r i j=true/\bL r j i=true):=by grind[Rl,pts,DT,bL,dA,agO,Mo,UO]
theorem adB{r:Rl}(h:¬(eM r).eq (jo r)):gq r=false:=by grind[gq]
theorem FA{r:Rl}:(∀i:Nat,i<(pts r).toNat->∀j:Nat,j<i->(bL r i j&&bL r j i)=false)↔∀i j:Int,bL r i j=true->bL r j i=true->i=j:=by
 constructor
 .intro h i j h1 h2
  obtain⟨a1,a2,-⟩:=jT h1
  by_cases e:i=j
  .exact e
  by_cases hlt:j<i
  .have:=h i.toNat J j.toNat J
   rw[gm a1.1,gm a2.1,h1,h2]at this;cases this
  have:=h j.toNat J i.toNat J
  rw[gm a1.1,gm a2.1,h1,h2]at this;cases this
 intro h i hi j hj
 cases h1:bL r i j with
 |false=>rfl
 |true=>
  cases h2:bL r j i with
  |false=>rfl
  |true=>have:=h i j h1 h2;omega
theorem agP{r:Rl}{k:Int}(hc:(eM r).eq (jo r))(hk:0<=k/\k<pts r)(h:DT r k≠k8 [k]):gq r=false:=by
 rw[gq,Bool.and_eq_false_iff]
 refine .inr (hG fun ha=>h ?_)
 have hp:=dA r
 rw[FA]at ha
 refine eL fun j hj=> ?_
 rw[gX,Mp hk]
 constructor
 .rintro⟨h1,h2⟩
  have:=ha _ _ h1 h2
  rw[ig];simp[Fb];omega
 intro h1
 have:(j:Int)=k:=by rw[ig]at h1;simp[Fb]at h1;omega
 rw[this,sN hc,yP hk];simp
theorem adC{r:Rl}(hc:(eM r).eq (jo r))(h:∀j:Int,0<=j->j<pts r->DT r j=k8 [j]):gq r=true:=by
 rw[gq,gY hc,l7,eD,FA]
 intro i j h1 h2
 obtain⟨a1,a2,-⟩:=jT h1
 have hp:=dA r
 have h3:=(Mp a1 j.toNat).2 (by rw[gm a2.1];exact⟨h1,h2⟩)
 rw[h i a1.1 a1.2,ig]at h3
 simp[Fb]at h3;omega
theorem Mq{r:Rl}{i:Int}(h:0<=i/\i<pts r)(j:Nat):(Ag r i).getLsbD j=true↔bL r i j=true/\¬(j:Int)=i:=by
 rw[Ag,Pb,uV r h];simp
theorem agQ{n:Int}(j:Nat)(h:(below n).getLsbD j=true):(j:Int)<n:=by grind[fI]
def xm(r:Rl)(s:BitVec 64):BitVec 64:=xk (Ag r) (gK s)&&&s
def Mr(r:Rl):Nat->BitVec 64->Int->Int
 |0,_,n=>n
 |f+1,s,n=>if xm r s=0#64 then n else Mr r f (xm r s) (n+1)
def abi(r:Rl):Int×Bool:=if gq r then(Mr r 65 (below (pts r)) 0,true)else(0,false)
theorem ams{r:Rl}{s:BitVec 64}(hs:∀j:Nat,s.getLsbD j=true->(j:Int)<pts r)(j:Nat)(h:(xm r s).getLsbD j=true):(j:Int)<pts r:=by grind[xm]
theorem Iz:∀(l m:List Int),l.Nodup->(∀x∈l,x∈m)->l.length<=m.length
 |[],m,_,_=>by simp
 |x::l,m,hn,h=>by
  rw[ow]at hn
  have hx:=h x aJ
  have:=Iz l (m.erase x) hn.2 fun y hy=>(List.mem_erase_of_ne (show y≠x from fun e=>hn.1 (by rw[<-e];exact hy))).2 (h y (by simp[hy]))
  have h2:=XP hx
  have:0<m.length:=Rt hx
  simp;omega
theorem IA(s:BitVec 64):(gK s).Nodup:=by
 have:=qp s
 exact this.imp fun h=>by omega
theorem agR{a b:BitVec 64}{j:Int}(h:∀i:Int,hasB a i=true->hasB b i=true)(hb:hasB b j=true)(ha:hasB a j=false):(gK a).length<(gK b).length:=by
 have:=Iz (j::gK a) (gK b) (by
  rw[ow]
  exact⟨fun hm=>absurd ((fF _ _).1 hm) (by rw[ha];simp),IA a⟩) fun x hx=>by
   rcases c8.1 hx with rfl|hx
   .exact(fF _ _).2 hb
   exact(fF _ _).2 (h x ((fF _ _).1 hx))
 simp at this;omega
theorem Ms(lt:Int->Int->Prop)(hi:∀x,¬lt x x)(ht:∀x y z,lt x y->lt y z->lt x z):∀l:List Int,l≠[]->∃m∈l,∀x∈l,¬lt x m
 |[],h=>absurd O h
 |[a],_=>⟨a,aJ,fun x hx=>by simp at hx;subst hx;exact hi _⟩
 |a::b::l,_=>by
  obtain⟨m,hm,h⟩:=Ms lt hi ht (b::l) aJ
  by_cases ha:lt a m
  .refine⟨a,aJ,fun x hx=> ?_⟩
   rcases c8.1 hx with rfl|hx
   .exact hi _
   exact fun hxa=>h x hx (ht _ _ _ hxa ha)
  refine⟨m,gd _ hm,fun x hx=> ?_⟩
  rcases c8.1 hx with rfl|hx
  .exact ha
  exact h x hx
theorem vN{r:Rl}(h:gq r=true):(eM r).eq (jo r)/\∀i j:Int,bL r i j=true->bL r j i=true->i=j:=by
 rw[gq,cL,eD,eD,FA]at h;exact h
theorem tD{r:Rl}(h:gq r=true){i j k:Int}(h1:bL r i j=true)(h2:bL r j k=true):bL r i k=true:=by grind[vN,sN,nM]
theorem fy(a b:BitVec 64)(i:Int):hasB (a&&&b) i=(hasB a i&&hasB b i):=by grind[hasB,Ad]
theorem KO(a b:BitVec 64)(i:Int):hasB (a|||b) i=(hasB a i||hasB b i):=by grind[hasB,Ad]
theorem Mt{s:BitVec 64}{i:Int}(h:hasB s i=true):s.getLsbD i.toNat=true:=by grind[hasB]
theorem amt{s:BitVec 64}{j:Nat}(h:s.getLsbD j=true):hasB s j=true:=by grind[hasB,Ad]
theorem amu{r:Rl}{s:BitVec 64}(ho:gq r=true)(hs:∀j:Nat,s.getLsbD j=true->(j:Int)<pts r)(h:¬xm r s=0#64):(gK (xm r s)).length<(gK s).length:=by
 have hne:gK s≠[]:=fun e=>by
  rw[Af]at e;subst e
  exact h (by rw[xm];simp)
 obtain⟨m,hm,hmin⟩:=Ms (fun x y=>bL r x y=true/\x≠y) (fun x hx=>hx.2 O) (fun x y z h1 h2=>⟨tD ho h1.1 h2.1,fun e=>by
  subst e
  exact h1.2 ((vN ho).2 _ _ h1.1 h2.1)⟩) (gK s) hne
 rw[fF]at hm
 refine agR (j:=m) (fun i hi=>by rw[xm,fy,cL]at hi;exact hi.2) hm ?_
 cases hc:hasB (xm r s) m with
 |false=>rfl
 |true=>
  rw[xm,fy,cL]at hc
  have h1:=Mt hc.1
  rw[Ix,Ff]at h1
  obtain⟨x,hx,hb⟩:=h1
  have hxs:=(fF _ _).1 hx
  have hbd:=uW hxs
  have hxp:=hs _ (Mt hxs)
  have hmb:=uW hm
  rw[Mq ⟨hbd.1,J⟩,gm hmb.1]at hb
  exact absurd ⟨hb.1,fun e=>hb.2 e.symm⟩ (hmin x hx)
def aDF(r:Rl)(i:Int):BitVec 64:=Ag r i&&& ~~~xk (Ag r) (gK (Ag r i))
def agS(r:Rl)(k:Int):List (Int×Int):=(upto k).flatMap fun i=>(gK (aDF r i)).map fun y=>(i,y)
def aCD(r:Rl):List (Int×Int):=if gq r then agS r (pts r)else[]
def aDG:Rl:=⟨3,fun i=>[7#64,6#64,4#64].getD i 0#64⟩
def aJU(p:Int->Bool)(l:List Int)(a:Int):Bool:=(l.take a.toNat).any p
theorem adD{r:Rl}{k:Int}(hk:¬k<pts r)(hf:∀i j:Int,0<=j->j<i->i<k->(bL r i j&&bL r j i)=false):gq r=decide ((eM r).eq (jo r)):=by grind[gq,pts,bL]
theorem UP{r:Rl}{i j:Int}(h1:bL r i j=true)(h2:bL r j i=true)(h:j<i):gq r=false:=by grind[gq,vN]
def UQ(r:Rl)(k j:Int):Bool:=(upto j).all fun x=> !(bL r k x&&bL r x k)
def Bh(r:Rl)(k:Int):Int:=(((upto k).filter fun i=>UQ (jo r) i i).length:Nat)
theorem arV{r:Rl}{k:Int}(h0:0<=k):0<=Bh r k/\Bh r k<=k:=by grind[UQ,jo,upto,nc,Bh]
theorem UR{s:BitVec 64}{k:Int}(hk:hasB s k=true):(YU s).1=k↔∀j:Int,0<=j->j<k->hasB s j=false:=by
 have hkb:=uW hk
 have hs:s≠0#64:=fun e=>by
  have:=Mt hk
  rw[e]at this;simp at this
 have h1:(YU s).1=tz s:=by rw[YU,aW hs]
 rw[h1]
 have hl:=Mh hs
 have hmem:hasB s (tz s)=true:=(fF _ _).1 (by rw[hl];simp)
 have hsort:=qp s
 rw[hl,lY]at hsort
 constructor
 .intro e j h0 hj
  cases hc:hasB s j with
  |false=>rfl
  |true=>
   have:=(fF _ _).2 hc
   rw[hl]at this
   rcases c8.1 this with e2|h2
   .omega
   have:=hsort.1 j h2;omega
 intro h
 have hb:=uW hmem
 have hkm:=(fF _ _).2 hk
 rw[hl]at hkm
 rcases c8.1 hkm with e2|h2
 .exact e2.symm
 have:=hsort.1 k h2
 have:=h (tz s) hb.1 this
 rw[hmem]at this;cases this
theorem lj{s:BitVec 64}{j:Int}:hasB s j=true↔(0<=j/\j<64)/\s.getLsbD j.toNat=true:=by grind[hasB,Ad]
theorem Mu(f:Int->BitVec 64)(l:List Int)(j:Int):hasB (xk f l) j=true↔∃i∈l,hasB (f i) j=true:=by grind[lj,Ix]
theorem kM{r:Rl}{i j:Int}(h:bL r i j=true):(0<=i/\i<pts r)/\(0<=j/\j<pts r):=by have:=jT h;exact⟨this.1,this.2.1⟩
theorem Mv{r:Rl}{i:Int}(h:0<=i/\i<pts r)(j:Int):hasB (Ag r i) j=true↔bL r i j=true/\j≠i:=by grind[lj,Mq,kM,dA]
theorem mi(n j:Int):hasB (below n) j=true↔0<=j/\j<64/\j<n:=by grind[lj,fI]
def zG(r:Rl):Nat->BitVec 64
 |0=>below (pts r)
 |k+1=>xm r (zG r k)
theorem Sz(r:Rl):∀k j:Nat,(zG r k).getLsbD j=true->(j:Int)<pts r
 |0,j,h=>agQ j h
 |k+1,j,h=>ams (Sz r k) j h
theorem agT{r:Rl}{k:Nat}{j:Int}(h:hasB (zG r k) j=true):0<=j/\j<pts r:=by
 have:=lj.1 h
 have h2:=Sz r k _ this.2
 omega
theorem KP{r:Rl}(k:Nat)(j:Int):hasB (zG r (k+1)) j=true↔hasB (zG r k) j=true/\∃i:Int,hasB (zG r k) i=true/\bL r i j=true/\j≠i:=by
 rw[zG,xm,fy,cL,Mu,and_comm]
 refine Yj fun hj=> ?_
 constructor
 .rintro⟨i,hi,h⟩
  have hi2:=(fF _ _).1 hi
  exact⟨i,hi2,(Mv (agT hi2) j).1 h⟩
 rintro⟨i,hi,h⟩
 exact⟨i,(fF _ _).2 hi,(Mv (agT hi) j).2 h⟩
theorem agU{r:Rl}:∀(k:Nat) {i j:Int},hasB (zG r k) i=true->bL r i j=true->j≠i->hasB (zG r (k+1)) j=true
 |0,i,j,hi,h,hne=>by
  have hb:=kM h;have hp:=dA r
  exact(KP 0 j).2 ⟨(mi _ _).2 J,i,hi,h,hne⟩
 |k+1,i,j,hi,h,hne=>by
  have h1:=(KP k i).1 hi
  exact(KP (k+1) j).2 ⟨agU k h1.1 h hne,i,hi,h,hne⟩
theorem US{r:Rl}{j:Int}{a b:Nat}(h:a<=b)(hb:hasB (zG r b) j=true):hasB (zG r a) j=true:=by
 induction b with
 |zero=>rwa[show a=0 by omega]
 |succ b ih=>
  by_cases he:a=b+1
  .rwa[he]
  exact ih J ((KP b j).1 hb).1
theorem vO(j:Int):hasB 0#64 j=false:=by rw[hasB];simp
theorem arW{r:Rl}{k:Nat}(h:zG r (k+1)≠0#64):zG r k≠0#64:=by grind[zG,xm]
theorem YW{s:BitVec 64}{n:Int}(h0:0<=n)(h:∀j:Nat,s.getLsbD j=true->(j:Int)<n):(gK s).length<=n.toNat:=
 DS n.toNat (gK s) (IA s) fun x hx=>by
  have h1:=lj.1 ((fF _ _).1 hx)
  have:=h _ h1.2
  omega
theorem abj{s:BitVec 64}(h:s≠0#64):0<(gK s).length:=by grind[Af]
theorem KQ{r:Rl}(ho:gq r=true):∀k:Nat,zG r k≠0#64->(gK (zG r k)).length+k<=(pts r).toNat
 |0,_=>by have:=YW (dA r).1 (Sz r 0);omega
 |k+1,h=>by
  have h1:=KQ ho k (arW h)
  have h2:(gK (zG r (k+1))).length<(gK (zG r k)).length:=amu ho (Sz r k) h
  omega
theorem abk{s:BitVec 64}{j:Int}(h:hasB s j=true):s≠0#64:=by grind[vO]
theorem agV{r:Rl}(ho:gq r=true){k:Nat}{j:Int}(h:hasB (zG r k) j=true):(k:Int)<pts r:=by
 have h1:=KQ ho k (abk h)
 have h2:=abj (abk h)
 have:=dA r
 omega
theorem IB{r:Rl}(ho:gq r=true):∀f k:Nat,f+k=65->(k=0\/zG r k≠0#64)->∃m:Nat,Mr r f (zG r k) k=(m:Int)/\zG r (m+1)=0#64/\(m=0\/zG r m≠0#64)
 |0,k,h,h2=>by
  have hp:=dA r
  rcases h2 with h2|h2
  .omega
  have:=KQ ho k h2;omega
 |f+1,k,h,h2=>by
  by_cases hs:xm r (zG r k)=0#64
  .exact⟨k,by rw[Mr,aY hs],hs,h2⟩
  obtain⟨m,h3,h4⟩:=IB ho f (k+1) J (.inr hs)
  refine⟨m,?_,h4⟩
  rw[Mr,aW hs,<-h3];rfl
def aJV(r:Rl)(F:Nat->Int):Prop:=∀j:Int,0<=j->j<pts r->0<=F j.toNat/\hasB (zG r (F j.toNat).toNat) j=true
def YX(F:Nat->Int)(i:Nat)(x:Int):Nat->Int:=fun j=>if j=i then x else F j
theorem agW{F:Nat->Int}{i:Nat}{x:Int}(h:F i<=x)(k:Nat):F k<=YX F i x k:=by grind[YX]
def sO(r:Rl)(F0 F:Nat->Int)(i k:Int):Prop:=∀j:Int,j<k->bL r i j=true->i≠j->F0 i.toNat+1<=F j.toNat
def Ah(r:Rl)(F0 F:Nat->Int)(k:Int):Prop:=∀i:Int,i<k->sO r F0 F i (pts r)
def PS(F0 F:Nat->Int):Prop:=∀k,F0 k<=F k
theorem PS.refl(F:Nat->Int):PS F F:=fun _=>mc _
theorem PS.put{F0 F:Nat->Int}{i:Nat}{x:Int}(h:PS F0 F)(hx:F i<=x):PS F0 (YX F i x):=by grind[PS,YX,agW]
theorem sO.put{r:Rl}{F0 F:Nat->Int}{i k:Int}{j:Nat}{x:Int}(h:sO r F0 F i k)(hx:F j<=x):sO r F0 (YX F j x) i k:=by grind[Rl,sO,YX,agW]
theorem Ah.put{r:Rl}{F0 F:Nat->Int}{k:Int}{j:Nat}{x:Int}(h:Ah r F0 F k)(hx:F j<=x):Ah r F0 (YX F j x) k:=fun i hi=>(h i hi).put hx
theorem sO.next{r:Rl}{F0 F:Nat->Int}{i k:Int}(h:sO r F0 F i k)(hk:bL r i k=true->i≠k->F0 i.toNat+1<=F k.toNat):sO r F0 F i (k+1):=by grind[Rl,sO,bL]
theorem sO.none(r:Rl)(F0 F:Nat->Int)(i:Int):sO r F0 F i 0:=fun j h1 h2 _=>by have:=(kM h2).2;omega
theorem Ah.none(r:Rl)(F0 F:Nat->Int):Ah r F0 F 0:=fun i hi j _ h2 _=>by have:=(kM h2).1;omega
theorem Ah.next{r:Rl}{F0 F:Nat->Int}{i k:Int}(h:Ah r F0 F i)(hk:¬k<pts r)(h2:sO r F0 F i k):Ah r F0 F (i+1):=by grind[Rl,Ah,pts,sO]
def aJW(r:Rl)(F:Nat->Int)(k:Int):Prop:=∀(v:Nat) (j:Int),(v:Int)<=k->hasB (zG r v) j=true->(v:Int)<=F j.toNat
def aDH(r:Rl)(i j k:Int):Bool:=(upto k).any fun x=>decide (x≠i)&&decide (x≠j)&&bL r i x&&bL r x j
def aDI(r:Rl)(i j:Int):Bool:=decide (i≠j)&&bL r i j&& !aDH r i j (pts r)
def aDJ(r:Rl)(i k:Int):List (Int×Int):=((upto k).filter (aDI r i ·)).map fun y=>(i,y)
theorem xn(k:Int):(upto k).Pairwise (· <·):=by
 rw[upto,HS]
 exact XU.imp fun h=>by omega
def Tidy(r:Rl):Prop:=r.n=pts r/\∀i j:Nat,(r.up i).getLsbD j=true->(i:Int)<pts r/\(j:Int)<pts r
theorem Tidy.plain{r:Rl}(h:Tidy r):eM r=r:=by
 obtain⟨n,u⟩:=r
 have hn:n=pts ⟨n,u⟩:=h.1
 show(⟨pts ⟨n,u⟩,_⟩:Rl)=⟨n,u⟩
 rw[<-hn]
 refine yf fun i=>eL fun j hj=> ?_
 rw[gX]
 by_cases hi:(i:Int)<n
 .rw[aY hi,abc,cL,eD]
  exact⟨fun h2=>h2.1,fun h2=>⟨h2,J,(h.2 i j h2).2⟩⟩
 rw[aW hi]
 constructor
 .intro h2;simp at h2
 intro h2;exact absurd (by have:=(h.2 i j h2).1;rw[<-hn]at this;exact this) hi
def inQ(n:Int)(q:Int×Int):Bool:=decide (0<=q.1/\0<=q.2/\q.1<pts ⟨n,fun _=>0#64⟩/\q.2<pts ⟨n,fun _=>0#64⟩)
def inR(r:Rl)(q:Int×Int):Bool:=decide (0<=q.1/\0<=q.2/\q.1<pts r/\q.2<pts r)
def aDK(n:Int)(p:Int×Int)(l:List (Int×Int))(k:Int):Bool:=(l.take k.toNat).any fun q=>decide (q=p)&&inQ n q
end Go.Proofs.YtlhjdflgjbkpmaaGreatDoor.M
namespace Go.Proofs.YtlhjdflgjbkpmaaGreatDoor.E
section
open Go Go.RowKit Go.Proofs.YtlhjdflgjbkpmaaGreatDoor.M
section ext
variable{w0 w:World}{L:List bu}{b off:Nat}{c:Array Value}{e:TypeId}{fr:Nat×Nat}{v:Value}{o:Obj}
theorem keep{o:Obj}(hb:Below w0.heap.size w0 w)(h:w0.heap[b]?=some o):w.heap[b]?=some o:=by
 rw[hb.block b (Ca.1 h).1];exact h
theorem Hp.ext(h:Hp w0 w L)(hb:w0.heap[b]?=some o):w.heap[b]?=some o:=by
 rw[h.below.block b (Ca.1 hb).1];exact hb
theorem Hp.eT(h:Hp w0 w L)(hb:w0.heap[b]?=some (.cells c e fr))(hc:c[off]?=some v):w.cell? ⟨b,off,none⟩=some v:=by
 rw[xX w b off c e fr (h.ext hb)];exact hc
end ext
def aDL(f:Nat->Int):List Value:=(List.range 64).map fun i=>I (f i)
@[irreducible] def aMX(f:Nat->Int):Array Value:=(aDL f).toArray
section runs
variable{P:Program}{σ:Env}{w:World}{dst:Option Tmp}{ty t u:TypeId}{pos:String}{bO:Array Edge}{g:Option (Nat×Bool)}{x y:Operand}{b:Nat}{e:TypeId}{r:Rl}{fr:Nat×Nat}
theorem tj{sz:Nat}(hu:P.underlying t=some (.slice e))(hs:∀w,(sizeOf e).run P w= .ok sz w):
  (execOp (ev σ) ⟨dst,.buildSlice t 0 #[],ty,pos,bO,g⟩).run P w= .ok (.value (.slice (some ⟨w.heap.size,0,none⟩) 0 0)) (w.alloc (.cells #[] e)):=by
 have h:(Instr.buildSlice t 0 #[]).run P w= .ok (.slice (some ⟨w.heap.size,0,none⟩) 0 0) (w.alloc (.cells #[] e)):=by
  simp[Instr.buildSlice,kP hu,hs,Instr.fill,newRow,newObj,Sem.run,show Array.range 0=#[]by decide]
 simp[execOp,h]
def rlL(l:List Rl):List Value:=l.flatMap wS
theorem FB{f:FuncId}{cs vs:List Value}{HK:List Operand}{ats:Array TypeId}(hf:∀args w,(callFunc f args).run P w= .ok (.enter f args) w)(hx:ev σ x= .func (.func f) #[] cs.toArray)(h:HK.map (ev σ)=vs):
  (execOp (ev σ) ⟨dst,.call {callee:= .value x,args:=HK.toArray,argTypes:=ats},ty,pos,bO,g⟩).run P w= .ok (.enter f (vs++cs).toArray) w:=by
 have:=PL (P:=P) (w:=w) (dst:=dst) (ty:=ty) (pos:=pos) (bO:=bO) (g:=g) (ats:=ats) hf hx h
 rw[this,List.append_toArray]
theorem Mw{f:FuncId}{cs:List Value}{ats:Array TypeId}(hf:∀args w,(callFunc f args).run P w= .ok (.enter f args) w)(hx:ev σ x= .func (.func f) #[] cs.toArray):
 (execOp (ev σ) ⟨dst,.call {callee:= .value x,args:=#[],argTypes:=ats},ty,pos,bO,g⟩).run P w= .ok (.enter f cs.toArray) w:=FB (HK:=[]) hf hx O
theorem lH{f:FuncId}{cs:List Value}{v1:Value}{x1:Operand}{ats:Array TypeId}(hf:∀args w,(callFunc f args).run P w= .ok (.enter f args) w)(hx:ev σ x= .func (.func f) #[] cs.toArray)(h1:ev σ x1=v1):
 (execOp (ev σ) ⟨dst,.call {callee:= .value x,args:=#[x1],argTypes:=ats},ty,pos,bO,g⟩).run P w= .ok (.enter f (v1::cs).toArray) w:=FB (HK:=[x1]) (vs:=[v1]) hf hx (by simp[h1])
theorem iY{f:FuncId}{cs:List Value}{v1 v2:Value}{x1 x2:Operand}{ats:Array TypeId}(hf:∀args w,(callFunc f args).run P w= .ok (.enter f args) w)(hx:ev σ x= .func (.func f) #[] cs.toArray)(h1:ev σ x1=v1)(h2:ev σ x2=v2):
 (execOp (ev σ) ⟨dst,.call {callee:= .value x,args:=#[x1,x2],argTypes:=ats},ty,pos,bO,g⟩).run P w= .ok (.enter f (v1::v2::cs).toArray) w:=FB (HK:=[x1,x2]) (vs:=[v1,v2]) hf hx (by simp[h1,h2])
end runs
section awJ
variable{P:Program}{n:Nat}{l:List Oper}{k:K}{σ:Env}{w w0:World}{L' Xz:List bu}{fuel i d:Nat}{listed:Array Bool}{ty:TypeId}{pos:String}{bO:Array Edge}{g:Option (Nat×Bool)}{x y:Operand}
theorem fB{t e:TypeId}{j:Nat}{ie:TypeInfo}{z:Value}{size bytes:Nat}{v u:Value}{m m':Nat}{xs news:List Value}(hi:l[i]?=some ⟨some d,.call {callee:= .builtin .append,args:=#[x,y],argTypes:=#[t,t]},ty,pos,bO,g⟩)
  (hg:∀a,Is n σ a->Region.wanted ⟨some d,.call {callee:= .builtin .append,args:=#[x,y],argTypes:=#[t,t]},ty,pos,bO,g⟩ (yielded l.toArray a.tmps)=true) (hd:Nat.blt d n=true) (hH:Hp w0 w Xz) (hL:Xz[j]?=some (.row v e size m xs))
  (hs:∀v',L'.Sublist (Xz.set j (.row v' e size (m+m') (xs++news)))) (hS:Sl w u size m' news)
  (hx:ev σ x=v) (hy:ev σ y=u) (ht:P.underlying t=some (.slice e)) (hie:P.info? e=some ie) (hz:ie.zero=some z)
  (hsize:ie.size=size) (hby:ie.bytes=bytes) (hzs:z.cells.size=size) (hsz:0<size) (h1:∀u∈news,u.oneCell'=true)
  (hbytes:(m+m')*bytes<=140737488355328) (h63:m+m'<=maxLen)
  (hk:∀v' w',Hp w0 w' (Xz.set j (.row v' e size (m+m') (xs++news)))->AN P n l (fun w=>Hp w0 w L') k fuel (listed.setIfInBounds i true) (me σ d v') w'):AO P n l (fun w=>Hp w0 w L') k fuel listed σ w i:=by
 obtain⟨v',w',hr,h2,h3,h4⟩:=tB (P:=P) (ty:=ty) ht hie hz hsize hby hzs hsz (hH.get hL) hS h1 h63 hbytes hH.size
 have hH':=hH.yN hL h2 h3 h4
 exact CB hi hg hd (th hx hy hr) (hH'.sub (hs v')) (hk v' w' hH')
end awJ
end
end Go.Proofs.YtlhjdflgjbkpmaaGreatDoor.E
namespace Go.Proofs.YtlhjdflgjbkpmaaGreatDoor.M
def vP(P:Int->Bool)(n:Int):Int×Bool:=match(upto n).find? P with
 |some u=>(u,true)
 |none=>(0,false)
theorem adE{n:Int}:∀(k:Nat),(k:Int)<=n->upto n=upto k++((List.range (n.toNat-k)).map fun(i:Nat)=>((k+i:Nat):Int)):=fun k h=>by
 rw[upto,upto,show n.toNat=k+(n.toNat-k)by omega,Ym,gP]
 simp
theorem qG{P:Int->Bool}{n k:Int}(h0:0<=k)(hk:k<n)(hp:P k=true)(hf:∀j:Int,0<=j->j<k->P j=false):vP P n=(k,true):=by
 have h:(upto n).find? P=some k:=by
  rw[adE k.toNat J,List.find?_append]
  have h1:(upto (k.toNat:Int)).find? P=none:=by
   rw[List.find?_eq_none]
   intro x hx
   have:=cJ.1 hx
   rw[hf x this.1 J];simp
  rw[h1,show n.toNat-k.toNat=(n.toNat-k.toNat-1)+1 by omega,XV]
  simp only[Option.none_or,lZ,LL,gm h0,List.find?_cons,hp]
 rw[vP,h]
theorem tF{P:Int->Bool}{n:Int}(hf:∀j:Int,0<=j->j<n->P j=false):vP P n=(0,false):=by grind[upto,cJ,vP]
theorem oC(P:Int->Bool)(n:Int):(∃k:Int,0<=k/\k<n/\P k=true/\(∀j:Int,0<=j->j<k->P j=false)/\vP P n=(k,true))\/((∀j:Int,0<=j->j<n->P j=false)/\vP P n=(0,false)):=by
 have key:∀m:Nat,(∃k:Int,0<=k/\k<m/\P k=true/\∀j:Int,0<=j->j<k->P j=false)\/∀j:Int,0<=j->j<m->P j=false:=fun m=>by
  induction m with
  |zero=>exact .inr fun j h1 h2=>by omega
  |succ m ih=>
   rcases ih with⟨k,h1,h2,h3,h4⟩|h
   .exact .inl ⟨k,h1,J,h3,h4⟩
   .cases hm:P m with
    |true=>exact .inl ⟨m,J,J,hm,h⟩
    |false=>
     refine .inr fun j h1 h2=> ?_
     by_cases e:j=m
     .rw[e];exact hm
     exact h j h1 J
 rcases key n.toNat with⟨k,h1,h2,h3,h4⟩|h
 .exact .inl ⟨k,h1,J,h3,h4,qG h1 J h3 h4⟩
 exact .inr ⟨fun j h1 h2=>h j h1 J,tF fun j h1 h2=>h j h1 J⟩
def gx(r:Rl)(i:Int):BitVec 64:=upR r (k8 [i])
def bQ(r:Rl)(i:Int):BitVec 64:=if BG r i then EF r (k8 [i])else 0#64
theorem SA(i j:Int):hasB (k8 [i]) j=true↔j=i/\0<=i/\i<64:=by grind[uW,hasB,ig,UO]
theorem eY(r:Rl)(i j:Int):hasB (gx r i) j=bL r i j:=by
 have hp:=dA r
 rw[gX,lj,gx,agO]
 constructor
 .rintro⟨h1,x,h2,h3⟩
  rw[gm h1.1]at h3
  rw[<-((SA i x).1 h2).1];exact h3
 intro h
 have hb:=kM h
 refine⟨J,i,(SA i i).2 ⟨rfl,J⟩,?_⟩
 rw[gm hb.2.1];exact h
theorem agX(r:Rl)(i j:Int):hasB (EF r (k8 [i])) j=bL r j i:=by
 have hp:=dA r
 rw[gX,lj,Mo]
 constructor
 .rintro⟨h1,x,h2,h3⟩
  rw[gm h1.1]at h3
  rw[<-((SA i x).1 h2).1];exact h3
 intro h
 have hb:=kM h
 refine⟨J,i,(SA i i).2 ⟨rfl,J⟩,?_⟩
 rw[gm hb.1.1];exact h
theorem dM(r:Rl)(i j:Int):hasB (bQ r i) j=bL r j i:=by grind[bQ,BG,agX,vO,Sy]
theorem rG{a b:BitVec 64}(h:∀j:Int,hasB a j=hasB b j):a=b:=eL fun j hj=>by
 have:=h j
 rw[hasB,hasB,Ad,gY J]at this
 simpa using this
theorem eW{a b:BitVec 64}:ep a b=true↔∀j:Int,hasB a j=true->hasB b j=true:=by
 rw[Gw]
 constructor
 .intro h j hj
  have:=lj.1 hj
  exact lj.2 ⟨this.1,h _ J this.2⟩
 intro h i hi hb
 have:=lj.1 (h i (amt hb))
 simpa using this.2
def oD(g:Int->BitVec 64)(i j u:Int):Bool:=hasB (g i&&&g j) u&&ep (g i&&&g j) (g u)
def Bi(g:Int->BitVec 64)(n i j:Int):Int×Bool:=vP (oD g i j) n
theorem awL{s:BitVec 64}{a b:Int}(h0:0<=a)(hb:b<(gK s).length)(h:a<b):(gK s).getD a.toNat 0<(gK s).getD b.toNat 0:=by grind[List.pairwise_iff_getElem,qp,List.getElem?_eq_getElem]
theorem abl{s:BitVec 64}{j:Int}(h:hasB s j=true):∃a:Int,0<=a/\a<(gK s).length/\(gK s).getD a.toNat 0=j:=by
 obtain⟨k,hk,he⟩:=ur ((fF _ _).2 h)
 refine⟨k,J,J,?_⟩
 rw[eV,eC,eF hk,he];rfl
theorem agY{g:Int->BitVec 64}{n i j a:Int}(hn:∀u,hasB (g i&&&g j) u=true->u<n)(a0:0<=a)(a1:a<(gK (g i&&&g j)).length)(h:ep (g i&&&g j) (g ((gK (g i&&&g j)).getD a.toNat 0))=true)
  (hf:∀b:Int,0<=b->b<a->ep (g i&&&g j) (g ((gK (g i&&&g j)).getD b.toNat 0))=false):Bi g n i j=((gK (g i&&&g j)).getD a.toNat 0,true):=by
 have h1:=YV a0 a1
 have h2:=PR a0 a1
 refine qG h2.1 (hn _ h1) (by rw[oD,h1,h];rfl) fun x x0 x1=> ?_
 rw[oD]
 cases hc:hasB (g i&&&g j) x with
 |false=>rfl
 |true=>
  obtain⟨b,b0,b1,hb⟩:=abl hc
  have hba:b<a:=by
   rcases Ya b a with h3|h3|h3
   .exact h3
   .subst h3;omega
   have:=awL a0 b1 h3;omega
  rw[<-hb,hf b b0 hba];rfl
theorem amv{g:Int->BitVec 64}{n i j a:Int}(a1:¬a<(gK (g i&&&g j)).length)(hf:∀b:Int,0<=b->b<a->ep (g i&&&g j) (g ((gK (g i&&&g j)).getD b.toNat 0))=false):Bi g n i j=(0,false):=by grind[gK,ep,Bi,tF,oD,hasB,abl]
def jf(r:Rl)(i j:Int):Int×Bool:=Bi (gx r) (pts r) i j
def rA(r:Rl)(i j:Int):Int×Bool:=Bi (bQ r) (pts r) i j
theorem agZ{r:Rl}{i j u:Int}(h:hasB (gx r i&&&gx r j) u=true):u<pts r:=by
 rw[fy,cL,eY]at h;exact(kM h.1).2.2
theorem adF{r:Rl}{i j u:Int}(h:hasB (bQ r i&&&bQ r j) u=true):u<pts r:=by
 rw[fy,cL,dM]at h;exact(kM h.1).1.2
def EG(r:Rl)(i j u v:Int):Bool:=bL r i u&&bL r j u&&(upto v).all fun x=> !(bL r i x&&bL r j x&& !bL r u x)
def EH(r:Rl)(i j u v:Int):Bool:=bL r u i&&bL r u j&&(upto v).all fun x=> !(bL r x i&&bL r x j&& !bL r x u)
theorem Yv{r:Rl}{i j u v:Int}(h0:0<=v):EG r i j u (v+1)=(EG r i j u v&& !(bL r i v&&bL r j v&& !bL r u v)):=by grind[EG,iX]
theorem Yw{r:Rl}{i j u v:Int}(h0:0<=v):EH r i j u (v+1)=(EH r i j u v&& !(bL r v i&&bL r v j&& !bL r v u)):=by grind[EH,iX]
theorem IC(r:Rl)(i j u:Int){v:Int}(hv:v=pts r):oD (gx r) i j u=EG r i j u v:=by
 subst hv
 rw[oD,EG,fy,eY,eY,gX,cL,cL (_&&_)]
 refine Yj fun _=> ?_
 rw[eW,iQ]
 constructor
 .intro h x hx
  have:=h x
  rw[fy,eY,eY,eY,cL]at this
  cases h1:bL r i x with
  |false=>rfl
  |true=>cases h2:bL r j x with
   |false=>rfl
   |true=>rw[this ⟨h1,h2⟩];rfl
 intro h x hx
 rw[fy,eY,eY,cL]at hx
 have h3:=h x (cJ.2 (kM hx.1).2)
 rw[hx.1,hx.2]at h3
 rw[eY];simpa using h3
theorem ID(r:Rl)(i j u:Int){v:Int}(hv:v=pts r):oD (bQ r) i j u=EH r i j u v:=by
 subst hv
 rw[oD,EH,fy,dM,dM,gX,cL,cL (_&&_)]
 refine Yj fun _=> ?_
 rw[eW,iQ]
 constructor
 .intro h x hx
  have:=h x
  rw[fy,dM,dM,dM,cL]at this
  cases h1:bL r x i with
  |false=>rfl
  |true=>cases h2:bL r x j with
   |false=>rfl
   |true=>rw[this ⟨h1,h2⟩];rfl
 intro h x hx
 rw[fy,dM,dM,cL]at hx
 have h3:=h x (cJ.2 (kM hx.1).1)
 rw[hx.1,hx.2]at h3
 rw[dM];simpa using h3
theorem UU{r:Rl}{i j u v:Int}(u0:0<=u)(u1:u<pts r)(hv:v=pts r)(h:EG r i j u v=true)(hf:∀x:Int,0<=x->x<u->oD (gx r) i j x=false):jf r i j=(u,true):=
 qG u0 u1 (by rw[IC r i j u hv];exact h) hf
theorem amw{r:Rl}{i j u:Int}(u1:¬u<pts r)(hf:∀x:Int,0<=x->x<u->oD (gx r) i j x=false):jf r i j=(0,false):=tF fun x h1 h2=>hf x h1 J
theorem UW{r:Rl}{i j u v:Int}(u0:0<=u)(u1:u<pts r)(hv:v=pts r)(h:EH r i j u v=true)(hf:∀x:Int,0<=x->x<u->oD (bQ r) i j x=false):rA r i j=(u,true):=
 qG u0 u1 (by rw[ID r i j u hv];exact h) hf
theorem amx{r:Rl}{i j u:Int}(u1:¬u<pts r)(hf:∀x:Int,0<=x->x<u->oD (bQ r) i j x=false):rA r i j=(0,false):=tF fun x h1 h2=>hf x h1 J
def uO(r:Rl)(i j:Int):Bool:=(jf r i j).2&&(rA r i j).2
def tG(r:Rl):Bool:=decide (1<=r.n/\r.n<=64)&&gq r&&(upto r.n).all fun i=>(upto i).all fun j=>uO r i j
theorem KR{r:Rl}(h:¬(1<=r.n/\r.n<=64)):tG r=false:=by grind[tG]
theorem abm{r:Rl}(h:gq r=false):tG r=false:=by rw[tG,h];simp
theorem KS{r:Rl}{i j:Int}(i0:i<r.n)(j0:0<=j)(j1:j<i)(h:uO r i j=false):tG r=false:=by
 cases hc:tG r with
 |false=>rfl
 |true=>
  rw[tG,cL,iQ]at hc
  have h1:=hc.2 i (cJ.2 ⟨J,i0⟩)
  rw[iQ]at h1
  rw[h1 j (cJ.2 ⟨j0,j1⟩)]at h;cases h
theorem abn{r:Rl}{k:Int}(hn:1<=r.n/\r.n<=64)(ho:gq r=true)(hk:¬k<r.n)(hf:∀i j:Int,0<=j->j<i->i<k->uO r i j=true):tG r=true:=by grind[tG,cJ]
def eZ(r:Rl)(w:BitVec 64):Int×Bool:=vP (fun i=>decide (bQ r i=w)) (pts r)
theorem DU{r:Rl}{w:BitVec 64}{k:Int}(h0:0<=k)(hk:k<pts r)(h:bQ r k=w)(hf:∀j:Int,0<=j->j<k->bQ r j≠w):eZ r w=(k,true):=by grind[Rl,pts,bQ,eZ,qG]
theorem GD{r:Rl}{w:BitVec 64}{k:Int}(hk:¬k<pts r)(hf:∀j:Int,0<=j->j<k->bQ r j≠w):eZ r w=(0,false):=by grind[Rl,pts,bQ,eZ,tF]
def jr(r:Rl)(a b:BitVec 64):BitVec 64:=if((eZ r a).2&&(eZ r b).2&&(jf r (eZ r a).1 (eZ r b).1).2)=true then bQ r (jf r (eZ r a).1 (eZ r b).1).1 else a|||b
theorem IE{r:Rl}{a b:BitVec 64}(h1:(eZ r a).2=true)(h2:(eZ r b).2=true)(h3:(jf r (eZ r a).1 (eZ r b).1).2=true):jr r a b=bQ r (jf r (eZ r a).1 (eZ r b).1).1:=by grind[jr]
theorem IF{r:Rl}{a b:BitVec 64}(h1:(eZ r a).2=false):jr r a b=a|||b:=by rw[jr,h1];rfl
theorem IG{r:Rl}{a b:BitVec 64}(h1:(eZ r b).2=false):jr r a b=a|||b:=by rw[jr,h1];simp
theorem PU{r:Rl}{a b:BitVec 64}(h1:(jf r (eZ r a).1 (eZ r b).1).2=false):jr r a b=a|||b:=by rw[jr,h1];simp
def wT(r:Rl)(g:Int->BitVec 64):Int×Bool:=vP (fun i=>decide (g i=below (pts r))) (pts r)
theorem abo{r:Rl}{g:Int->BitVec 64}{k:Int}(h0:0<=k)(hk:k<pts r)(h:g k=below (pts r))(hf:∀j:Int,0<=j->j<k->g j≠below (pts r)):wT r g=(k,true):=by grind[Rl,pts,below,wT,qG]
theorem ag0{r:Rl}{g:Int->BitVec 64}{k:Int}(hk:¬k<pts r)(hf:∀j:Int,0<=j->j<k->g j≠below (pts r)):wT r g=(0,false):=by grind[Rl,pts,below,wT,tF]
def rH(r:Rl)(i k:Int):List Int:=(upto k).filter (bL r · i)
theorem adG{r:Rl}{i k:Int}(h0:0<=k)(h:bL r k i=true):rH r i k++[k]=rH r i (k+1):=by grind[rH,iX]
theorem ag2{r:Rl}{i k:Int}(h0:0<=k)(h:bL r k i=false):rH r i k=rH r i (k+1):=by grind[rH,iX]
theorem PV{r:Rl}{i k:Int}:(rH r i k).length<=k.toNat:=by grind[rH,nc]
theorem Mx(l:List Int)(j:Int):hasB (k8 l) j=true↔(0<=j/\j<64)/\j∈l:=by grind[lj,ig]
theorem adH{r:Rl}{i k:Int}(hk:k=pts r):k8 (rH r i k)=bQ r i:=rG fun j=>by
 subst hk
 have hp:=dA r
 rw[gX,Mx,dM,rH,sG,cJ]
 constructor
 .exact fun h=>h.2.2
 intro h
 have:=(kM h).1
 exact⟨J,this,h⟩
def FC(r:Rl)(t:Bool)(i k:Int):Bool:=(upto k).all fun x=>if t then bL r x i else bL r i x
theorem adb{r:Rl}{t:Bool}{i k:Int}(h0:0<=k):FC r t i (k+1)=(FC r t i k&&if t then bL r k i else bL r i k):=by grind[FC,iX]
theorem Ai{r:Rl}{i k:Int}(hk:k=pts r):FC r false i k=true↔gx r i=below (pts r):=by
 subst hk
 rw[FC,iQ]
 constructor
 .intro h
  refine rG fun j=> ?_
  rw[gX,eY,mi]
  constructor
  .intro h1;have:=kM h1;have:=dA r;omega
  intro h1;simpa using h j (cJ.2 J)
 intro h x hx
 have h1:=cJ.1 hx
 have hp:=dA r
 have h2:hasB (gx r i) x=true:=by rw[h,mi];omega
 rw[eY]at h2;simpa using h2
theorem My{r:Rl}{i k:Int}(hk:k=pts r):FC r true i k=true↔bQ r i=below (pts r):=by
 subst hk
 rw[FC,iQ]
 constructor
 .intro h
  refine rG fun j=> ?_
  rw[gX,dM,mi]
  constructor
  .intro h1;have:=kM h1;have:=dA r;omega
  intro h1;simpa using h j (cJ.2 J)
 intro h x hx
 have h1:=cJ.1 hx
 have hp:=dA r
 have h2:hasB (bQ r i) x=true:=by rw[h,mi];omega
 rw[dM]at h2;simpa using h2
theorem ag3{r:Rl}{t:Bool}{i k:Int}(i0:0<=i)(i1:i<pts r)(hk:k=pts r)(h:FC r t i k=true)(hg:∀x:Int,0<=x->x<i->FC r t x (pts r)=false):wT r (if t=true then bQ r else gx r)=(i,true):=by grind[abo,My,Ai]
theorem ag4{r:Rl}{t:Bool}{i:Int}(i1:¬i<pts r)(hg:∀x:Int,0<=x->x<i->FC r t x (pts r)=false):wT r (if t=true then bQ r else gx r)=(0,false):=by grind[ag0,My,Ai]
def aMY:Rl:=⟨5,fun i=>[31#64,18#64,20#64,24#64,16#64].getD i 0#64⟩
theorem PW(g:Int->BitVec 64)(n i j:Int):Bi g n i j=Bi g n j i:=by
 rw[Bi,Bi]
 congr 1
 funext u
 rw[oD,oD,BitVec.and_comm]
theorem join_comm(r:Rl)(i j:Int):jf r i j=jf r j i:=PW _ _ _ _
theorem meet_comm(r:Rl)(i j:Int):rA r i j=rA r j i:=PW _ _ _ _
theorem js{r:Rl}(h:tG r=true):(1<=r.n/\r.n<=64)/\gq r=true/\pts r=r.n/\∀i j:Int,0<=j->j<i->i<r.n->uO r i j=true:=by
 rw[tG,cL,cL,eD,iQ]at h
 refine⟨h.1.1,h.1.2,by unfold pts;omega,fun i j h1 h2 h3=> ?_⟩
 have h4:=h.2 i (cJ.2 ⟨J,h3⟩)
 rw[iQ]at h4
 exact h4 j (cJ.2 ⟨h1,h2⟩)
structure IsJ(r:Rl)(i j k:Int):Prop where
 a:bL r i k=true
 b:bL r j k=true
 l:∀v:Int,bL r i v=true->bL r j v=true->bL r k v=true
structure IsM(r:Rl)(i j k:Int):Prop where
 a:bL r k i=true
 b:bL r k j=true
 g:∀v:Int,bL r v i=true->bL r v j=true->bL r v k=true
theorem UX{r:Rl}{i j k:Int}:oD (gx r) i j k=true↔IsJ r i j k:=by
 rw[oD,fy,eY,eY,cL,cL,eW]
 constructor
 .rintro⟨⟨h1,h2⟩,h3⟩
  refine⟨h1,h2,fun v h4 h5=> ?_⟩
  have:=h3 v
  rw[fy,eY,eY,eY,cL]at this
  exact this ⟨h4,h5⟩
 rintro⟨h1,h2,h3⟩
 refine⟨⟨h1,h2⟩,fun v hv=> ?_⟩
 rw[fy,eY,eY,cL]at hv
 rw[eY];exact h3 v hv.1 hv.2
theorem UY{r:Rl}{i j k:Int}:oD (bQ r) i j k=true↔IsM r i j k:=by
 rw[oD,fy,dM,dM,cL,cL,eW]
 constructor
 .rintro⟨⟨h1,h2⟩,h3⟩
  refine⟨h1,h2,fun v h4 h5=> ?_⟩
  have:=h3 v
  rw[fy,dM,dM,dM,cL]at this
  exact this ⟨h4,h5⟩
 rintro⟨h1,h2,h3⟩
 refine⟨⟨h1,h2⟩,fun v hv=> ?_⟩
 rw[fy,dM,dM,cL]at hv
 rw[dM];exact h3 v hv.1 hv.2
theorem yQ{r:Rl}(h:gq r=true){i:Int}(hi:0<=i/\i<pts r):bL r i i=true:=by grind[sN,vN,yP]
theorem KT{r:Rl}(h:tG r=true){i j:Int}(hi:0<=i/\i<r.n)(hj:0<=j/\j<r.n):(jf r i j).2=true/\IsJ r i j (jf r i j).1:=by
 obtain⟨hn,ho,hp,hb⟩:=js h
 rcases oC (oD (gx r) i j) (pts r)with⟨k,k0,k1,k2,-,k3⟩|⟨h1,h2⟩
 .have h3:jf r i j=(k,true):=k3
  rw[h3];exact⟨rfl,UX.1 k2⟩
 have h3:jf r i j=(0,false):=h2
 exfalso
 rcases Ya i j with hl|hl|hl
 .have:=hb j i hi.1 hl hj.2
  rw[uO,cL,join_comm,h3]at this;cases this.1
 .subst hl
  have h4:=h1 i hi.1 J
  have h5:=yQ ho (show 0<=i/\i<pts r by omega)
  rw[UX.2 ⟨h5,h5,fun v hv _=>hv⟩]at h4;cases h4
 have:=hb i j hj.1 hl hi.2
 rw[uO,cL,h3]at this;cases this.1
theorem KU{r:Rl}(h:tG r=true){i j:Int}(hi:0<=i/\i<r.n)(hj:0<=j/\j<r.n):(rA r i j).2=true/\IsM r i j (rA r i j).1:=by
 obtain⟨hn,ho,hp,hb⟩:=js h
 rcases oC (oD (bQ r) i j) (pts r)with⟨k,k0,k1,k2,-,k3⟩|⟨h1,h2⟩
 .have h3:rA r i j=(k,true):=k3
  rw[h3];exact⟨rfl,UY.1 k2⟩
 have h3:rA r i j=(0,false):=h2
 exfalso
 rcases Ya i j with hl|hl|hl
 .have:=hb j i hi.1 hl hj.2
  rw[uO,cL,meet_comm,h3]at this;cases this.2
 .subst hl
  have h4:=h1 i hi.1 J
  have h5:=yQ ho (show 0<=i/\i<pts r by omega)
  rw[UY.2 ⟨h5,h5,fun v hv _=>hv⟩]at h4;cases h4
 have:=hb i j hj.1 hl hi.2
 rw[uO,cL,h3]at this;cases this.2
section aDM
variable{r:Rl}(h:tG r=true){a b c:Int}(ha:0<=a/\a<r.n)(hb:0<=b/\b<r.n)(hc:0<=c/\c<r.n)
include h ha hb
theorem abp:0<=(jf r a b).1/\(jf r a b).1<r.n:=by
 have:=(kM (KT h ha hb).2.a).2
 rw[(js h).2.2.1]at this;exact this
theorem apo:0<=(rA r a b).1/\(rA r a b).1<r.n:=by
 have:=(kM (KU h ha hb).2.a).1
 rw[(js h).2.2.1]at this;exact this
theorem adI:bQ r (rA r a b).1=bQ r a&&&bQ r b:=rG fun j=>by
 have ho:=(js h).2.1
 have hm:=(KU h ha hb).2
 rw[fy,dM,dM,dM,gX,cL]
 exact⟨fun h1=>⟨tD ho h1 hm.a,tD ho h1 hm.b⟩,fun h1=>hm.g j h1.1 h1.2⟩
include hc
end aDM
theorem amy{r:Rl}(h:tG r=true){a b:Int}(ha:0<=a/\a<r.n)(hb:0<=b/\b<r.n):(bL r a b==ep (bQ r a) (bQ r b))=true:=by
 have ho:=(js h).2.1
 rw[Cj,gX,eW]
 constructor
 .intro h1 j hj
  rw[dM]at hj⊢;exact tD ho hj h1
 intro h1
 have:=h1 a
 rw[dM,dM]at this
 exact this (yQ ho (by rw[(js h).2.2.1];exact ha))
theorem amz{r:Rl}(h:tG r=true):∃m:Int,(0<=m/\m<r.n)/\∀x:Int,0<=x->x<r.n->bL r m x=true:=by
 have hs:=js h
 have key:∀k:Nat,(k:Int)<r.n->∃m:Int,(0<=m/\m<r.n)/\∀x:Int,0<=x->x<=k->bL r m x=true:=fun k=>by
  induction k with
  |zero=>exact fun hk=>⟨0,J,fun x h1 h2=>by rw[show x=0 by omega];exact yQ hs.2.1 J⟩
  |succ k ih=>
   intro hk
   obtain⟨m,h1,h2⟩:=ih J
   have hm:=(KU h h1 (show 0<=((k+1:Nat):Int)/\((k+1:Nat):Int)<r.n by omega)).2
   refine⟨_,apo h h1 (show 0<=((k+1:Nat):Int)/\((k+1:Nat):Int)<r.n by omega),fun x h3 h4=> ?_⟩
   by_cases he:x=((k+1:Nat):Int)
   .rw[he];exact hm.b
   exact tD hs.2.1 hm.a (h2 x h3 J)
 obtain⟨m,h1,h2⟩:=key (r.n-1).toNat J
 exact⟨m,h1,fun x h3 h4=>h2 x h3 J⟩
theorem amA{r:Rl}(h:tG r=true):(wT r (gx r)).2=true/\(0<=(wT r (gx r)).1/\(wT r (gx r)).1<r.n)/\∀x:Int,0<=x->x<r.n->bL r (wT r (gx r)).1 x=true:=by
 have hs:=js h
 rcases oC (fun i=>decide (gx r i=below (pts r))) (pts r)with⟨k,k0,k1,k2,-,k3⟩|⟨h1,-⟩
 .have h3:wT r (gx r)=(k,true):=k3
  rw[h3]
  refine⟨rfl,by rw[hs.2.2.1]at k1;exact⟨k0,k1⟩,fun x h4 h5=> ?_⟩
  have:=(Ai (r:=r) (i:=k) O).2 (LB k2)
  rw[FC,iQ]at this
  simpa using this x (cJ.2 J)
 obtain⟨m,hm,hx⟩:=amz h
 have h4:=h1 m hm.1 J
 rw[xg]at h4
 exact absurd ((Ai (r:=r) (i:=m) O).1 (by
  rw[FC,iQ]
  intro x hx2
  have:=cJ.1 hx2
  simpa using hx x this.1 J)) h4
theorem word_inj{r:Rl}(ho:gq r=true){a b:Int}(ha:0<=a/\a<pts r)(hb:0<=b/\b<pts r)(e:bQ r a=bQ r b):a=b:=by
 have h1:hasB (bQ r b) a=true:=by rw[<-e,dM];exact yQ ho ha
 have h2:hasB (bQ r a) b=true:=by rw[e,dM];exact yQ ho hb
 rw[dM]at h1 h2
 exact(vN ho).2 _ _ h1 h2
theorem vR{r:Rl}(ho:gq r=true){a:Int}(ha:0<=a/\a<pts r):eZ r (bQ r a)=(a,true):=by grind[DU,word_inj]
theorem adJ{r:Rl}(h:tG r=true){a b:Int}(ha:0<=a/\a<r.n)(hb:0<=b/\b<r.n):jr r (bQ r a) (bQ r b)=bQ r (jf r a b).1:=by grind[Rl,tG,jr,bQ,jf,js,vR,pts,IE,KT]
def cV(r:Rl):Bool:=decide (1<=r.n/\r.n<=8)&&decide ((eM r).eq (jo r))
theorem e8{r:Rl}(h:cV r=true):(1<=r.n/\r.n<=8)/\pts r=r.n/\(eM r).eq (jo r):=by grind[cV,pts]
theorem II{r:Rl}(h:cV r=true){i:Int}(hi:0<=i/\i<r.n):bL r i i=true:=by simp_all[e8,sN,yP]
theorem KV{r:Rl}(h:cV r=true){i j k:Int}(h1:bL r i j=true)(h2:bL r j k=true):bL r i k=true:=by grind[Rl,cV,bL,e8,sN,nM]
theorem BH{r:Rl}(h:cV r=true){i j:Int}(h1:bL r i j=true):(0<=i/\i<r.n)/\(0<=j/\j<r.n):=by
 have:=kM h1
 rw[(e8 h).2.1]at this;exact this
theorem PX(r:Rl)(s:BitVec 64)(j:Int):hasB (EF r s) j=true↔∃i:Int,hasB s i=true/\bL r j i=true:=by
 have hp:=dA r
 rw[lj,Mo]
 constructor
 .rintro⟨h1,i,h2,h3⟩;rw[gm h1.1]at h3;exact⟨i,h2,h3⟩
 rintro⟨i,h2,h3⟩
 have hb:=kM h3
 exact⟨J,i,h2,by rw[gm hb.1.1];exact h3⟩
def JK(r:Rl)(w:BitVec 64)(o:Int):BitVec 64:=(w>>>(BitVec.ofInt 64 (8*o)).toNat)&&&below r.n
theorem UZ{r:Rl}{w:BitVec 64}{o:Int}(ho:0<=o/\o<8)(hn:r.n<=8)(x:Int):hasB (JK r w o) x=true↔(0<=x/\x<r.n)/\hasB w (8*o+x)=true:=by grind[JK,fy,mi,lj,oz]
def xo(f:Int->BitVec 64)(k:Int):BitVec 64:=(upto k).foldl (fun a o=>a|||(f o<<<(BitVec.ofInt 64 (8*o)).toNat)) 0#64
theorem IJ{f:Int->BitVec 64}{k:Int}(h0:0<=k):xo f k|||(f k<<<(BitVec.ofInt 64 (8*k)).toNat)=xo f (k+1):=by grind[xo,iX]
theorem amB{a:BitVec 64}{o:Int}(ho:0<=o/\o<8)(z:Int):hasB (a<<<(BitVec.ofInt 64 (8*o)).toNat) z=true↔(0<=z/\z<64)/\hasB a (z-8*o)=true:=by grind[lj,oz]
theorem U0{f:Int->BitVec 64}(z:Int):∀k:Nat,k<=8->(hasB (xo f k) z=true↔∃o:Int,(0<=o/\o<k)/\(0<=z/\z<64)/\hasB (f o) (z-8*o)=true)
 |0,_=>by
  rw[show xo f ((0:Nat):Int)=0#64 from O,vO]
  constructor
  .intro h;cases h
  rintro⟨o,h,-⟩;omega
 |k+1,hk=>by
  have e:xo f ((k+1:Nat):Int)=xo f (k:Int)|||(f k<<<(BitVec.ofInt 64 (8*(k:Int))).toNat):=(IJ (k:=(k:Int)) J).symm
  rw[e,KO,qj,U0 z k J,amB J]
  constructor
  .rintro(⟨o,h1,h2⟩|⟨h1,h2⟩)
   .exact⟨o,J,h2⟩
   exact⟨k,J,h1,h2⟩
  rintro⟨o,h1,h2,h3⟩
  by_cases he:o=k
  .subst he;exact .inr ⟨h2,h3⟩
  exact .inl ⟨o,J,h2,h3⟩
theorem U1{f:Int->BitVec 64}{n:Int}(hn:0<=n/\n<=8)(hf:∀o y:Int,0<=o->o<n->hasB (f o) y=true->y<8)(z:Int):hasB (xo f n) z=true↔∃o y:Int,(0<=o/\o<n)/\hasB (f o) y=true/\z=8*o+y:=by
 have h:=U0 (f:=f) z n.toNat J
 rw[gm hn.1]at h
 rw[h]
 constructor
 .rintro⟨o,h1,h2,h3⟩;exact⟨o,z-8*o,h1,h3,J⟩
 rintro⟨o,y,h1,h2,h3⟩
 have:=uW h2
 have:=hf o y h1.1 h1.2 h2
 exact⟨o,h1,J,by rw[show z-8*o=y by omega];exact h2⟩
def IK(r:Rl)(w:BitVec 64)(o:Int):BitVec 64:=xk (fun p=>EF r (JK r w p)) (gK (gx r o))
def gk(r:Rl)(w:BitVec 64):BitVec 64:=if cV r then xo (IK r w) r.n else 0#64
theorem FD{r:Rl}(h:cV r=true)(w:BitVec 64)(o x:Int):hasB (IK r w o) x=true↔∃p y:Int,bL r o p=true/\bL r x y=true/\hasB w (8*p+y)=true:=by
 have hs:=e8 h
 rw[IK,Mu]
 constructor
 .rintro⟨p,hp,h1⟩
  rw[fF,eY]at hp
  have hb:=BH h hp
  rw[PX]at h1
  obtain⟨y,h2,h3⟩:=h1
  rw[UZ J hs.1.2]at h2
  exact⟨p,y,hp,h3,h2.2⟩
 rintro⟨p,y,h1,h2,h3⟩
 have hb:=BH h h1
 refine⟨p,by rw[fF,eY];exact h1,?_⟩
 rw[PX]
 exact⟨y,(UZ J hs.1.2 y).2 ⟨(BH h h2).2,h3⟩,h2⟩
theorem jF{r:Rl}(h:cV r=true)(w:BitVec 64)(z:Int):hasB (gk r w) z=true↔∃o x p y:Int,z=8*o+x/\bL r o p=true/\bL r x y=true/\hasB w (8*p+y)=true:=by
 have hs:=e8 h
 rw[gk,aY h,U1 J (fun o y _ _ hy=>by
  obtain⟨p,q,-,h2,-⟩:=(FD h w o y).1 hy
  have:=BH h h2;omega)]
 constructor
 .rintro⟨o,x,h1,h2,h3⟩
  obtain⟨p,y,h4⟩:=(FD h w o x).1 h2
  exact⟨o,x,p,y,h3,h4⟩
 rintro⟨o,x,p,y,h3,h4⟩
 exact⟨o,x,(BH h h4.1).1,(FD h w o x).2 ⟨p,y,h4⟩,h3⟩
theorem U2{r:Rl}{w:BitVec 64}(h:cV r=false):gk r w=0#64:=by rw[gk,h];rfl
theorem adK{r:Rl}{w:BitVec 64}(h:cV r=true):xo (IK r w) r.n=gk r w:=by rw[gk,h];rfl
def GF(r:Rl)(w:BitVec 64)(o x:Int):Bool:=decide (0<=o/\0<=x/\o<r.n/\x<r.n)&&hasB w (8*o+x)
theorem DV{r:Rl}{w:BitVec 64}{o x:Int}:GF r w o x=true↔(0<=o/\0<=x/\o<r.n/\x<r.n)/\hasB w (8*o+x)=true:=by grind[GF]
def SB(r:Rl)(w:BitVec 64)(o x:Int):Bool:=(upto r.n).any fun p=>(upto r.n).any fun y=>GF r w p y&&bL r o p&&bL r x y
theorem KW{r:Rl}{w:BitVec 64}{o x:Int}:SB r w o x=true↔∃p y:Int,GF r w p y=true/\bL r o p=true/\bL r x y=true:=by
 rw[SB,Ff]
 constructor
 .rintro⟨p,-,h⟩
  rw[Ff]at h
  obtain⟨y,-,h⟩:=h
  rw[cL,cL]at h
  exact⟨p,y,h.1.1,h.1.2,h.2⟩
 rintro⟨p,y,h1,h2,h3⟩
 have hb:=(DV.1 h1).1
 refine⟨p,cJ.2 J,?_⟩
 rw[Ff]
 exact⟨y,cJ.2 J,by rw[h1,h2,h3];rfl⟩
theorem ag5{r:Rl}{w:BitVec 64}{o x k:Int}(hk:¬k<r.n)(hf:∀p y:Int,0<=p->p<k->¬(GF r w p y=true/\bL r o p=true/\bL r x y=true)):SB r w o x=false:=by grind[SB,KW,DV]
def FE(r:Rl)(w:BitVec 64)(o k:Int):List Int:=((upto k).filter (SB r w o ·)).map (8*o+·)
def CF(r:Rl)(w:BitVec 64)(k:Int):List Int:=(upto k).flatMap fun o=>FE r w o r.n
theorem ag6{r:Rl}{w:BitVec 64}{o k:Int}(h0:0<=k)(h:SB r w o k=true):FE r w o k++[8*o+k]=FE r w o (k+1):=by grind[FE,iX]
theorem amC{r:Rl}{w:BitVec 64}{o k:Int}(h0:0<=k)(h:SB r w o k=false):FE r w o k=FE r w o (k+1):=by grind[FE,iX]
theorem U3{r:Rl}{w:BitVec 64}{k x:Int}(h0:0<=k)(hx:x=r.n):CF r w k++FE r w k x=CF r w (k+1):=by grind[CF,iX]
theorem Mz{r:Rl}{w:BitVec 64}{o k:Int}:(FE r w o k).length<=k.toNat:=by grind[FE,nc]
theorem SC{f:Int->List Int}{m:Nat}(h:∀o,(f o).length<=m):∀l:List Int,(l.flatMap f).length<=l.length*m
 |[]=>by simp
 |o::l=>by
  have:=SC h l
  have:=h o
  rw[uM,ed,eG,lF];omega
theorem MA{r:Rl}{w:BitVec 64}{k:Int}(hn:r.n<=8)(hk:k<=8):(CF r w k).length<=64:=by
 have h:=SC (f:=fun o=>FE r w o r.n) (m:=8) (fun o=>kf Mz J) (upto k)
 rw[nc]at h
 have:k.toNat*8<=64:=J
 exact kf h this
theorem U4{r:Rl}{w:BitVec 64}{o k z:Int}:z∈FE r w o k↔∃x:Int,(0<=x/\x<k)/\SB r w o x=true/\z=8*o+x:=by
 rw[FE,fN]
 constructor
 .rintro⟨x,hx,rfl⟩
  rw[sG,cJ]at hx
  exact⟨x,hx.1,hx.2,rfl⟩
 rintro⟨x,h1,h2,rfl⟩
 exact⟨x,sG.2 ⟨cJ.2 h1,h2⟩,rfl⟩
theorem adL{r:Rl}{w:BitVec 64}{k:Int}(h:cV r=true)(hk:k=r.n):k8 (CF r w k)=gk r w:=rG fun z=>by
 subst hk
 have hs:=e8 h
 rw[gX,Mx,jF h,CF,List.mem_flatMap]
 constructor
 .rintro⟨h1,o,ho,hz⟩
  rw[U4]at hz
  obtain⟨x,hx,hf,rfl⟩:=hz
  obtain⟨p,y,h2,h3,h4⟩:=KW.1 hf
  exact⟨o,x,p,y,rfl,h3,h4,(DV.1 h2).2⟩
 rintro⟨o,x,p,y,rfl,h2,h3,h4⟩
 have b1:=BH h h2;have b2:=BH h h3
 refine⟨J,o,cJ.2 b1.1,?_⟩
 rw[U4]
 exact⟨x,b2.1,KW.2 ⟨p,y,DV.2 ⟨J,h4⟩,h2,h3⟩,rfl⟩
def qe(r:Rl)(w:BitVec 64):Bool:=cV r&&decide (gk r w=w)
def aJZ(r:Rl)(s:BitVec 64)(x k:Int):Bool:=(upto k).any fun y=>hasB s y&&bL r y x
def aJ0(r:Rl)(s:BitVec 64)(o k:Int):List Int:=((upto k).filter fun x=> !hasB (upR r s) x).map (8*o+·)
def aDN(o:Int)(s:BitVec 64):Int->BitVec 64:=fun x=>if x=o then s else 0#64
def apq(r:Rl)(o:Int):Bool:=cV r&&decide (0<=o/\o<r.n)
def awM(r:Rl)(o:Int)(s:BitVec 64):BitVec 64:=if apq r o then gk r (xo (aDN o (below r.n&&& ~~~upR r s)) r.n)else 0#64
def ag7(r:Rl)(w:BitVec 64)(o:Int):BitVec 64:=if apq r o then below r.n&&& ~~~JK r w o else 0#64
def aJ1(r:Rl)(w:BitVec 64)(o k:Int):List Int:=(upto k).filter fun x=> !GF r w o x
def aDO(r:Rl)(w:BitVec 64)(k:Int):List Int:=(upto k).filter fun o=>decide (JK r w o≠0#64)
def SD(r:Rl)(w:BitVec 64):BitVec 64:=if cV r then k8 (aDO r w r.n)else 0#64
def Ka(r:Rl):BitVec 64:=if cV r then xo (fun _=>below r.n) r.n else 0#64
theorem arX{r:Rl}(h:cV r=false):Ka r=0#64:=by rw[Ka,h];rfl
theorem SE{r:Rl}(h:cV r=true)(z:Int):hasB (Ka r) z=true↔∃o x:Int,(0<=o/\o<r.n)/\(0<=x/\x<r.n)/\z=8*o+x:=by
 have hs:=e8 h
 rw[Ka,aY h,U1 J fun o y _ _ hy=>by rw[mi]at hy;omega]
 constructor
 .rintro⟨o,x,h1,h2,h3⟩
  rw[mi]at h2
  exact⟨o,x,h1,J,h3⟩
 rintro⟨o,x,h1,h2,h3⟩
 exact⟨o,x,h1,(mi _ _).2 J,h3⟩
def U5(r:Rl)(k:Int):List Int:=(upto k).flatMap fun o=>(upto r.n).map (8*o+·)
theorem adM{r:Rl}{k x:Int}(h0:0<=k)(hx:x=r.n):U5 r k++(upto x).map (8*k+·)=U5 r (k+1):=by grind[U5,iX]
theorem adN{o x:Int}(h0:0<=x):(upto x).map (8*o+·)++[8*o+x]=(upto (x+1)).map (8*o+·):=by grind[iX]
theorem U6{r:Rl}{k:Int}(hn:r.n<=8)(hk:k<=8):(U5 r k).length<=64:=by
 have h:=SC (f:=fun o=>(upto r.n).map (8*o+·)) (m:=8) (fun o=>by rw[gA,nc];omega) (upto k)
 rw[nc]at h
 have:k.toNat*8<=64:=J
 exact kf h this
theorem amD{r:Rl}{k:Int}(h:cV r=true)(hk:k=r.n):k8 (U5 r k)=Ka r:=rG fun z=>by
 subst hk
 have hs:=e8 h
 rw[gX,Mx,SE h,U5,List.mem_flatMap]
 constructor
 .rintro⟨h1,o,ho,hz⟩
  rw[fN]at hz
  obtain⟨x,hx,rfl⟩:=hz
  exact⟨o,x,cJ.1 ho,cJ.1 hx,rfl⟩
 rintro⟨o,x,h1,h2,rfl⟩
 exact⟨J,o,cJ.2 h1,fN.2 ⟨x,cJ.2 h2,rfl⟩⟩
def KX(r:Rl):Int:=if cV r then Bh r (pts r)*Bh r (pts r)else 0
theorem MB{r:Rl}(h:cV r=true):Bh r (pts r)*Bh r (pts r)=KX r:=by rw[KX,h];rfl
theorem ag8{r:Rl}(h:cV r=true)(v:BitVec 64):ep (v&&&Ka r) (gk r v)=true:=eW.2 fun z hz=>by
 rw[fy,cL,SE h]at hz
 obtain⟨h1,o,x,h2,h3,rfl⟩:=hz
 exact(jF h v _).2 ⟨o,x,o,x,rfl,II h h2,II h h3,h1⟩
theorem YY{r:Rl}(h:cV r=true)(v:BitVec 64):ep (gk r v) (Ka r)=true:=eW.2 fun z hz=>by
 obtain⟨o,x,p,y,rfl,h1,h2,-⟩:=(jF h v z).1 hz
 exact(SE h _).2 ⟨o,x,(BH h h1).1,(BH h h2).1,rfl⟩
theorem aDP{o x p y:Int}(hx:0<=x/\x<8)(hy:0<=y/\y<8)(h:8*o+x=8*p+y):o=p/\x=y:=J
theorem SF{r:Rl}(h:cV r=true)(v:BitVec 64):gk r (gk r v)=gk r v:=rG fun z=>by
 have hs:=e8 h
 rw[gX,jF h,jF h]
 constructor
 .rintro⟨o,x,p,y,rfl,h1,h2,h3⟩
  obtain⟨p',y',q,t,e,h4,h5,h6⟩:=(jF h v _).1 h3
  have b1:=BH h h1;have b2:=BH h h2;have b3:=BH h h4;have b4:=BH h h5
  obtain⟨rfl,rfl⟩:=aDP J J e
  exact⟨o,x,q,t,rfl,KV h h1 h4,KV h h2 h5,h6⟩
 rintro⟨o,x,p,y,rfl,h1,h2,h3⟩
 have b1:=BH h h1;have b2:=BH h h2
 exact⟨o,x,o,x,rfl,II h b1.1,II h b2.1,(jF h v _).2 ⟨o,x,p,y,rfl,h1,h2,h3⟩⟩
theorem MC{r:Rl}(h:cV r=true){v w:BitVec 64}(hv:ep v w=true):ep (gk r v) (gk r w)=true:=by grind[eW,jF]
theorem IL{r:Rl}(h:cV r=true){w:BitVec 64}(e:gk r w=w):qe r w=true:=by grind[qe]
theorem awN{r:Rl}(h:cV r=true)(v w:BitVec 64):qe r (gk r v|||gk r w)=true:=IL h (rG fun z=>by
 rw[gX]
 constructor
 .intro hz
  obtain⟨o,x,p,y,e,h1,h2,h3⟩:=(jF h _ z).1 hz
  rw[KO,qj]at h3⊢
  rcases h3 with h3|h3
  .left;rw[<-SF h v];exact(jF h _ z).2 ⟨o,x,p,y,e,h1,h2,h3⟩
  right;rw[<-SF h w];exact(jF h _ z).2 ⟨o,x,p,y,e,h1,h2,h3⟩
 intro hz
 have h1:hasB (Ka r) z=true:=by
  rw[KO,qj]at hz
  rcases hz with hz|hz
  .exact eW.1 (YY h v) z hz
  exact eW.1 (YY h w) z hz
 exact eW.1 (ag8 h _) z (by rw[fy,hz,h1];rfl))
theorem arY{r:Rl}(h:cV r=true)(v w:BitVec 64):qe r (gk r v&&&gk r w)=true:=IL h (rG fun z=>by
 rw[gX]
 constructor
 .intro hz
  have h1:=eW.1 (MC h (Gy (gk r v) (gk r w))) z hz
  have h2:=eW.1 (MC h (v:=gk r v&&&gk r w) (w:=gk r w) (by rw[BitVec.and_comm];exact Gy _ _)) z hz
  rw[SF h]at h1 h2
  rw[fy,h1,h2];rfl
 intro hz
 have h1:hasB (Ka r) z=true:=by
  have hz2:=hz
  rw[fy,cL]at hz2
  exact eW.1 (YY h v) z hz2.1
 exact eW.1 (ag8 h _) z (by rw[fy (gk r v&&&gk r w),hz,h1];rfl))
def aDQ(r:Rl)(i:Int):BitVec 64:=gk r (k8 [i])
def MD(r:Rl)(p:Int):Bool:=decide (0<=p/\p<r.n)&&UQ (jo r) p p
theorem ME{r:Rl}(h:cV r=true)(p:Int):MD r p=true↔(0<=p/\p<r.n)/\∀x:Int,0<=x->x<p->¬(bL r p x=true/\bL r x p=true):=by grind[Rl,cV,MD,bL,e8,UQ,cJ,sN]
theorem YZ{r:Rl}(h:cV r=true):∀(n:Nat) (p:Int),p<=n->0<=p->p<r.n->∃q:Int,q<=p/\MD r q=true/\bL r p q=true/\bL r q p=true
 |n,p,hn,h0,h1=>by
  cases hc:MD r p with
  |true=>exact⟨p,mc _,hc,II h ⟨h0,h1⟩,II h ⟨h0,h1⟩⟩
  |false=>
   have hex:∃x:Int,0<=x/\x<p/\bL r p x=true/\bL r x p=true:=Lo fun hno=>by
    have:MD r p=true:=(ME h p).2 ⟨⟨h0,h1⟩,fun x x0 x1 hx=>hno ⟨x,x0,x1,hx⟩⟩
    rw[hc]at this;cases this
   obtain⟨x,x0,x1,x2,x3⟩:=hex
   cases n with
   |zero=>omega
   |succ n=>
    obtain⟨q,q1,q2,q3,q4⟩:=YZ h n x J x0 J
    exact⟨q,J,q2,KV h x2 q3,KV h q4 x3⟩
def MF(r:Rl)(i:Int):Bool:=MD r (i/8)&&MD r (i%8)
def arZ(r:Rl)(k:Int):List (BitVec 64):=((upto k).filter (MF r)).map (aDQ r)
def aMZ(c:BitVec 64)(l:List (BitVec 64))(j:Int):Bool:=decide (c=0#64)||(l.take j.toNat).any fun w=>decide (w=c)
theorem ag9{r:Rl}(h:cV r=true){o p:Int}(hp:hasB (gx r o) p=true):0<=p/\p<8:=by
 have hs:=e8 h
 rw[eY]at hp
 have:=BH h hp;omega
def aDR:Rl:=⟨2,fun i=>[3#64,2#64].getD i 0#64⟩
theorem aha(A:Int->Bool):((upto 64).filter fun i=>A (i/8)&&A (i%8)).length=((upto 8).filter A).length*((upto 8).filter A).length:=by
 have e:upto 64=(upto 8).flatMap fun p=>(upto 8).map (8*p+·):=by decide+kernel
 have key:∀l:List Int,((l.flatMap fun p=>(upto 8).map (8*p+·)).filter fun i=>A (i/8)&&A (i%8)).length=(l.filter A).length*((upto 8).filter A).length:=fun l=>by
  induction l with
  |nil=>simp
  |cons p l ih=>
   rw[uM,Lz,ed,ih]
   have h1:(((upto 8).map (8*p+·)).filter fun i=>A (i/8)&&A (i%8))=((upto 8).filter fun y=>A p&&A y).map (8*p+·):=by
    rw[List.filter_map]
    congr 1
    refine List.filter_congr fun y hy=> ?_
    have:=cJ.1 hy
    simp only[Function.comp]
    rw[show(8*p+y)/8=p by omega,show(8*p+y)%8=y by omega]
   rw[h1,gA]
   cases hp:A p with
   |true=>
    rw[xP hp,eG,lF]
    simp only[l7]
    show((upto 8).filter A).length+_=_
    omega
   |false=>simp[hp]
 rw[e,key]
theorem adO{r:Rl}(h:cV r=true){k:Int}(hk:k=64):((arZ r k).length:Int)=KX r:=by
 subst hk
 have hs:=e8 h
 have h1:(upto 8).filter (MD r)=(upto (pts r)).filter fun i=>UQ (jo r) i i:=by
  refine Ae ((xn _).filter _) ((xn _).filter _) fun x=> ?_
  rw[sG,sG,cJ,cJ,MD,cL,eD,hs.2.1]
  constructor
  .rintro⟨h2,h3,h4⟩;exact⟨h3,h4⟩
  rintro⟨h2,h3⟩;exact⟨J,h2,h3⟩
 rw[<-MB h,arZ,gA,show MF r=fun i=>MD r (i/8)&&MD r (i%8)from O,aha,h1,Bh]
 push_cast;rfl
abbrev Tx:=ByteArray
def sJ(s:Tx)(i:Int):Int:=((s.data.toList.getD i.toNat 0).toNat:Int)
def jD(c:Int):Bool:=decide (97<=c/\c<=122)
def uN(c:Int):Bool:=decide ((97<=c/\c<=122)\/(48<=c/\c<=57)\/c=95)
def iR(s:Tx):Bool:=decide (1<=s.size/\s.size<=16)&&jD (sJ s 0)&&(upto s.size).all fun i=>uN (sJ s i)
theorem DW{s:Tx}(h:¬(1<=s.size/\s.size<=16)):iR s=false:=by grind[iR]
theorem PY{s:Tx}(h:jD (sJ s 0)=false):iR s=false:=by rw[iR,h];simp
theorem IM{s:Tx}{i:Int}(i0:0<=i)(i1:i<s.size)(h:uN (sJ s i)=false):iR s=false:=by grind[iR,cJ]
theorem PZ{s:Tx}{k:Int}(h1:1<=s.size/\s.size<=16)(h2:jD (sJ s 0)=true)(hk:¬k<s.size)(hf:∀j:Int,0<=j->j<k->uN (sJ s j)=true):iR s=true:=by grind[iR,cJ]
theorem CG{c:Int}(h:jD c=true):uN c=true:=by grind[jD,uN]
def tH(P:Int->Bool)(n:Int):Int:=if(vP P n).2 then(vP P n).1 else-1
theorem vS{P:Int->Bool}{n k:Int}(h0:0<=k)(hk:k<n)(hp:P k=true)(hf:∀j:Int,0<=j->j<k->P j=false):tH P n=k:=by
 rw[tH,qG h0 hk hp hf];rfl
theorem GG{P:Int->Bool}{n:Int}(hf:∀j:Int,0<=j->j<n->P j=false):tH P n= -1:=by
 rw[tH,tF hf];rfl
theorem Y0(P:Int->Bool)(n:Int):(∃k:Int,0<=k/\k<n/\P k=true/\(∀j:Int,0<=j->j<k->P j=false)/\tH P n=k)\/((∀j:Int,0<=j->j<n->P j=false)/\tH P n= -1):=by grind[tH,oC,vS,GG]
abbrev qt:Tx:=⟨#[]⟩
def rI(l:List Tx)(s:Tx):Int:=tH (fun i=>decide (l.getD i.toNat qt=s)) l.length
theorem fG{α:Type}{l:List α}{d:α}{i:Int}(h0:0<=i)(h:i<l.length):l[i.toNat]?=some (l.getD i.toNat d):=by grind
theorem getD_take{α:Type}{l:List α}{d:α}{i k:Int}(h0:0<=i)(h:i<k):(l.take k.toNat).getD i.toNat d=l.getD i.toNat d:=by grind
def yR(l:List Tx):Int:=tH (fun i=>decide (rI l (l.getD i.toNat qt)<i)) l.length
theorem ahb{l:List Tx}{i:Int}(i0:0<=i)(i1:i<l.length):decide (rI (l.take i.toNat) (l.getD i.toNat qt)>=0)=decide (rI l (l.getD i.toNat qt)<i):=by
 rw[gX,eD,eD]
 have hl:((l.take i.toNat).length:Int)=i:=by rw[ef];omega
 rw[rI,hl]
 rcases Y0 (fun j=>decide ((l.take i.toNat).getD j.toNat qt=l.getD i.toNat qt)) i with⟨k,k0,k1,k2,k3,e⟩|⟨h,e⟩
 .rw[e]
  have h1:rI l (l.getD i.toNat qt)=k:=vS k0 J (by rw[<-k2,getD_take k0 k1]) fun j a b=>by
   rw[<-k3 j a b,getD_take a J]
  rw[h1];omega
 rw[e]
 have h1:rI l (l.getD i.toNat qt)=i:=vS i0 i1 aJ fun j a b=>by
  rw[<-h j a b,getD_take a b]
 rw[h1];omega
def aJ2(a b:List Tx):Bool:=decide (a=b)
end Go.Proofs.YtlhjdflgjbkpmaaGreatDoor.M
namespace Go.Proofs.YtlhjdflgjbkpmaaGreatDoor.E
section
open Go Go.RowKit Go.Proofs.YtlhjdflgjbkpmaaGreatDoor.M
abbrev S(s:Tx):Value:= .string s
abbrev JL(l:List Tx):List Value:=l.map Value.string
theorem CH{l:List Tx}{k:Int}(h:0<=k/\k<l.length):(JL l)[k.toNat*1]?=some (S (l.getD k.toNat qt)):=by grind
theorem iu{w:World}{v:Value}{sz n:Nat}{c:List Value}(h:Sl w v sz n c):v.oneCell'=true/\v.cells=#[v]:=by
 obtain⟨a,cap,rfl,-,-⟩:=h.shape;exact⟨rfl,rfl⟩
theorem Sl.aDS{w:World}{v:Value}{l:List Tx}{n:Int}(h:Sl w v 1 l.length (JL l))(hn:0<=n/\n<=l.length):Sl w (wR v n.toNat) 1 (l.take n.toNat).length (JL (l.take n.toNat)):=
 (h.cut n.toNat J).conv (by rw[ef];omega) (by rw[l9];exact Cg.symm)
theorem ar0{s:Tx}:s=qt↔s.size=0:=by
 constructor
 .intro h;rw[h];rfl
 intro h
 cases s with
 |mk d=>
  have:d.size=0:=h
  have e:d=#[]:=afE this
  rw[e]
section runs
variable{P:Program}{σ:Env}{w:World}{dst:Option Tmp}{ty t u:TypeId}{pos:String}{bO:Array Edge}{g:Option (Nat×Bool)}{x y:Operand}{a b:Tx}{k:IntKind}{i:Int}
theorem ar1(a b:Tx):(a.toList==b.toList)=decide (a=b):=by
 rw[ByteArray.toList_eq,ByteArray.toList_eq,gX,Cj,eD]
 constructor
 .exact fun h=>WideShapes.bytes_inj h
 exact fun h=>by rw[h]
theorem ahc{op:BinOp}{v:Value}(hx:ev σ x=S a)(hy:ev σ y=S b)(h:(binOp op t (S a) (S b)).run P w= .ok v w):
  (execOp (ev σ) ⟨dst,.binOp op t x y u,ty,pos,bO,g⟩).run P w= .ok (.value v) w:=by
 have he:(eqGuard op t x y (S a) (S b))=pure ():=by cases op<;>rfl
 simp[execOp,hx,hy,he,h]
theorem MG(hx:ev σ x=S a)(hy:ev σ y=S b):(execOp (ev σ) ⟨dst,.binOp .eql t x y u,ty,pos,bO,g⟩).run P w= .ok (.value (.bool (decide (a=b)))) w:=
 ahc hx hy (by rw[binOp_string_eql,ar1];rfl)
theorem tJ(ht:P.underlying t=some .string)(hx:ev σ x=S a)(hy:ev σ y= .int k i)(h:0<=i/\i<a.size):(execOp (ev σ) ⟨dst,.index t x y,ty,pos,bO,g⟩).run P w= .ok (.value (.int .u8 (sJ a i))) w:=by
 have h1:=run_index_string (P:=P) w t a k i ht
 rw[dif_pos h]at h1
 have h2:((a[i.toNat]'J).toNat:Int)=sJ a i:=by
  have hl:i.toNat<a.data.toList.length:=by
   have:a.data.toList.length=a.size:=by cases a;rfl
   omega
  rw[sJ,eV,eF hl]
  cases a;rfl
 rw[h2]at h1
 simp[execOp,hx,hy,h1]
end runs
abbrev Vu:=Nat->Obj->Prop
def Kw(w:World):Vu:=fun b o=>w.heap[b]?=some o
def Kz(K:Vu)(Z:List bu):Vu:=fun b o=>K b o\/bu.blk b o∈Z
def P0(K:Vu)(b j:Nat)(c:Value):Prop:=∃cs e fr,K b (.cells cs e fr)/\cs[j]?=some c
structure oE(K:Vu)(v:Value)(sz n:Nat)(cells:List Value):Prop where
 shape:∃a cap,v= .slice a n cap/\n<=cap/\(0<n->a=some ⟨sb v,so v,none⟩)
 len:cells.length=n*sz
 cell:∀j c,cells[j]?=some c->P0 K (sb v) (so v+j) c
 small:n<=maxLen
def Le(K K':Vu):Prop:=∀b o,K b o->K' b o
theorem Le.refl(K:Vu):Le K K:=fun _ _ h=>h
theorem Le.trans{K K' K'':Vu}(h:Le K K')(h':Le K' K''):Le K K'':=fun b o hb=>h' b o (h b o hb)
theorem Le.z(K:Vu)(Z:List bu):Le K (Kz K Z):=fun _ _ h=> .inl h
theorem Le.zz{K:Vu}{Z Z':List bu}(h:∀x,x∈Z->x∈Z'):Le (Kz K Z) (Kz K Z'):=fun b o hb=>hb.imp id (h _)
theorem Le.kk{K:Vu}{Z Z':List bu}:Le (Kz (Kz K Z) Z') (Kz K (Z'++Z)):=fun b o hb=>by
 rcases hb with(hb|hb)|hb
 .exact .inl hb
 .exact .inr (by simp[hb])
 exact .inr (by simp[hb])
theorem P0.mono{K K':Vu}{b j:Nat}{c:Value}(h:P0 K b j c)(hl:Le K K'):P0 K' b j c:=by
 obtain⟨cs,e,fr,h1,h2⟩:=h;exact⟨cs,e,fr,hl _ _ h1,h2⟩
theorem oE.mono{K K':Vu}{v:Value}{sz n:Nat}{cells:List Value}(h:oE K v sz n cells)(hl:Le K K'):oE K' v sz n cells:=⟨h.shape,h.len,fun j c hc=>(h.cell j c hc).mono hl,h.small⟩
theorem oE.nil(K:Vu)(sz:Nat):oE K (.slice none 0 0) sz 0 []:=⟨⟨none,0,rfl,eu _,fun h=>J⟩,aJ,fun j c h=>by simp at h,fT⟩
section
variable{w0 w w':World}{L L' Z:List bu}{K:Vu}{v:Value}{sz n:Nat}{cells:List Value}
theorem oE.sl(h:oE (Kw w) v sz n cells):Sl w v sz n cells:=⟨h.shape,h.len,fun j c hc=>by
 obtain⟨cs,e,fr,h1,h2⟩:=h.cell j c hc
 rw[xX w _ _ cs e fr h1];exact h2,h.small⟩
theorem adP{b j:Nat}{c:Value}(h1:w.cell? ⟨b,j,none⟩=some c):P0 (Kw w) b j c:=by
 unfold World.cell? at h1
 cases hq:w.heap[b]? with
 |none=>simp[hq]at h1
 |some o=>
  cases o with
  |cells cs e fr=>simp[hq]at h1;exact⟨cs,e,fr,hq,h1⟩
  |_=>simp[hq]at h1
theorem Sl.slv(h:Sl w v sz n cells):oE (Kw w) v sz n cells:=⟨h.shape,h.len,fun j c hc=>adP (h.cell j c hc),h.small⟩
theorem Kw.below(hb:Below w.heap.size w w'):Le (Kw w) (Kw w'):=fun b o h=>by
 show w'.heap[b]?=some o
 rw[hb.block b (Ca.1 h).1];exact h
theorem Hp.kw(h:Hp w0 w L):Le (Kw w0) (Kw w):=Kw.below h.below
theorem Hp.kz(h:Hp w0 w L)(hK:Le K (Kw w0))(hZ:∀x,x∈Z->x∈L):Le (Kz K Z) (Kw w):=fun b o hb=>by
 rcases hb with hb|hb
 .exact h.kw _ _ (hK _ _ hb)
 exact(h.ok _ (hZ _ hb)).2
theorem Hp.GH(h:Hp w0 w L)(hz:Hp w w' Z):Hp w0 w' (Z++L):=by
 have h':=h.call hz.below
 refine⟨h'.below,fun x hx=> ?_,Fe.2 ⟨hz.L8,h'.L8,fun x hx y hy=> ?_⟩⟩
 .rcases fh.1 hx with hx|hx
  .have h1:=hz.ok x hx
   rcases x with⟨b,o⟩|⟨v,e,sz,n,xs⟩
   .exact⟨kf h.size h1.1,h1.2⟩
   refine⟨h1.1,?_⟩
   rcases h1.2 with hn|⟨gb,cap,cur,rfl,h2,rest⟩
   .exact .inl hn
   exact .inr ⟨gb,cap,cur,rfl,kf h.size h2,rest⟩
  exact h'.ok x hx
 .cases hf:x.sK with
  |none=>exact .inl O
  |some b=>
   refine .inr fun e=> ?_
   have h1:=(bu.JI (hz.ok x hx) b hf).1
   have h2:=(bu.JI (h.ok y hy) b (by rw[<-e])).2
   omega
theorem Hp.Gh(h:Hp w0 w (Z++(L++L'))):Hp w0 w (L++(Z++L')):=by grind[Hp]
theorem Hp.SG{e:TypeId}{xs:List Value}(h:Hp w0 w (.row v e sz n xs::L))(K:Vu):∃Z:List bu,Hp w0 w (Z++L)/\oE (Kz K Z) v sz n xs/\(∀x∈Z,∃b c e,x= .blk b (.cells c e (0,0))):=by
 have h1:=h.ok _ (rj ..)
 obtain⟨hl,h2⟩:=h1
 rcases h2 with⟨rfl,rfl⟩|⟨gb,cap,cur,rfl,hb,hg,hn,hm,hs,ht⟩
 .have:xs=[]:=zK (by simpa using hl)
  subst this
  exact⟨[],h.tail,oE.nil _ _,fun x hx=>by simp at hx⟩
 refine⟨[.blk gb (.cells cur e (0,0))],⟨h.below,fun x hx=> ?_,?_⟩,⟨⟨_,cap,rfl,hn,fun _=>rfl⟩,hl,fun j c hj=>⟨cur,e,(0,0),.inr (by simp[sb]),?_⟩,kf hn hm⟩,fun x hx=> ?_⟩
 .rcases c8.1 hx with rfl|hx
  .exact⟨hb,hg⟩
  exact h.ok x (gd _ hx)
 .exact List.Pairwise.cons (fun y hy=>(lY.1 h.L8).1 y hy) (lY.1 h.L8).2
 .simp only[so,gQ]
  rw[<-ht,vx]at hj
  split at hj
  .simpa using hj
  .cases hj
 simp at hx;exact⟨_,_,_,hx⟩
theorem GI{b:Nat}{c:List Value}{e:TypeId}(hZ:bu.blk b (.cells c.toArray e (0,0))∈Z)(hl:c.length=n*sz)(hn:n<=maxLen):oE (Kz K Z) (.slice (some ⟨b,0,none⟩) n n) sz n c:=
 ⟨⟨_,n,rfl,eu _,fun _=>rfl⟩,hl,fun j u hu=>⟨c.toArray,e,(0,0),.inr hZ,by simp only[so,gQ];simpa using hu⟩,hn⟩
end
def EI(K:Vu)(p:Vu->Value->Prop)(w:World):Ending->World->Prop:=j3 fun u w'=>∃Z:List bu,Hp w w' Z/\p (Kz K Z) u
section calls
variable{P:Program}{n:Nat}{ops:Array Oper}{k:K}{rest:List Oper}{σ:Env}{w0 w:World}{L:List bu}{op:Op}{ty:TypeId}{pos:String}{bO:Array Edge}{d:Nat}{Kv:Vu}{p:Vu->Value->Prop}
theorem IN{f:FuncId}{args:Array Value}(hd:Nat.blt d n=true)(hH:Hp w0 w L)(hc:Calls P f args w (EI Kv p w))
  (hr:(execOp (ev σ) ⟨some d,op,ty,pos,bO,none⟩).run P w= .ok (.enter f args) w)
  (hk:∀v w' Z,Hp w0 w' (Z++L)->p (Kz Kv Z) v->RL P n ops k rest (me σ d v) w'):RL P n ops k (⟨some d,op,ty,pos,bO,none⟩::rest) σ w:=
 Im hd hr hc fun u w' ⟨Z,hz,hp⟩=>hk u w' Z (hH.GH hz) hp
variable{l:List Oper}{i fuel:Nat}{listed:Array Bool}{g:Option (Nat×Bool)}{L':List bu}
theorem SH{f:FuncId}{args:Array Value}(hi:l[i]?=some ⟨some d,op,ty,pos,bO,g⟩)(hg:∀a,Is n σ a->Region.wanted ⟨some d,op,ty,pos,bO,g⟩ (yielded l.toArray a.tmps)=true)(hd:Nat.blt d n=true)
  (hH:Hp w0 w L') (hs:L.Sublist L') (hc:Calls P f args w (EI Kv p w)) (hr:(execOp (ev σ) ⟨some d,op,ty,pos,bO,g⟩).run P w= .ok (.enter f args) w)
  (h:∀v w' Z,Hp w0 w' (Z++L')->p (Kz Kv Z) v->AN P n l (fun w=>Hp w0 w L) k fuel (listed.setIfInBounds i true) (me σ d v) w'):AO P n l (fun w=>Hp w0 w L) k fuel listed σ w i:=
 St hi hg hd hc hr fun u w' ⟨Z,hz,hp⟩=>⟨(hH.GH hz).sub (List.Sublist.trans hs (XO _ _)),h u w' Z (hH.GH hz) hp⟩
end calls
section flat
variable{α:Type}{cl:α->List Value}{sz:Nat}
theorem flat_get(hsz:∀a,(cl a).length=sz):∀(l:List α) (k:Nat) (a:α),l[k]?=some a->∀j c,(cl a)[j]?=some c->(l.flatMap cl)[k*sz+j]?=some c
 |[],k,a,h=>by simp at h
 |p::l,0,a,h=>fun j c hj=>by
  simp at h;subst h
  rw[uM,zL (by have:=(n7.1 hj).1;omega),RR,gQ];exact hj
 |p::l,k+1,a,h=>fun j c hj=>by
  have:=flat_get hsz l k a yc j c hj
  rw[uM,E9 (by rw[hsz,lF];omega),hsz,show(k+1)*sz+j-sz=k*sz+j by rw[lF];omega];exact this
theorem fO(hsz:∀a,(cl a).length=sz)(l:List α):(l.flatMap cl).length=l.length*sz:=by
 induction l with
 |nil=>simp
 |cons a l ih=>rw[uM,ed,hsz,ih,eG,lF];omega
variable{P:Program}{σ:Env}{w:World}{dst:Option Tmp}{ty t:TypeId}{pos:String}{bO:Array Edge}{g:Option (Nat×Bool)}{x:Operand}{v:Value}{l:List α}{k:Int}
theorem dY{d:TypeDesc}{dv:α}(hsz:∀a,(cl a).length=sz)(hS:Sl w v sz l.length (l.flatMap cl))(hu:P.underlying t=some d)(hd:d.isRow=true)(hi:(P.info? t).map (·.size)=some sz)
  (hx:ev σ x= .pointer (some ⟨sb v,so v+k.toNat*sz,none⟩)) (hk:0<=k/\k<l.length):
  (execOp (ev σ) ⟨dst,.load t x,ty,pos,bO,g⟩).run P w= .ok (.value (.agg (cl (l.getD k.toNat dv)).toArray)) w:=by
 refine cC hu hd (by rw[hsz];exact hi) hx fun j c hj=> ?_
 have:=hS.cell _ _ (flat_get hsz l k.toNat _ (fG hk.1 hk.2) j c hj)
 rw[xW];exact this
theorem gC{d:TypeDesc}{dv:α}{off:Nat}{c:Value}(hsz:∀a,(cl a).length=sz)(hS:Sl w v sz l.length (l.flatMap cl))(hu:P.underlying t=some d)(hd:d.isRow=false)
  (hx:ev σ x= .pointer (some ⟨sb v,so v+k.toNat*sz+off,none⟩)) (hk:0<=k/\k<l.length) (hc:(cl (l.getD k.toNat dv))[off]?=some c):
  (execOp (ev σ) ⟨dst,.load t x,ty,pos,bO,g⟩).run P w= .ok (.value c) w:=by
 refine aE hu hd hx ?_
 have:=hS.cell _ _ (flat_get hsz l k.toNat _ (fG hk.1 hk.2) off c hc)
 rw[xW];exact this
theorem mj{d:TypeDesc}{dv:α}{off:Nat}{cs:List Value}(hsz:∀a,(cl a).length=sz)(hS:Sl w v sz l.length (l.flatMap cl))(hu:P.underlying t=some d)(hd:d.isRow=true)(hi:(P.info? t).map (·.size)=some cs.length)
  (hx:ev σ x= .pointer (some ⟨sb v,so v+k.toNat*sz+off,none⟩)) (hk:0<=k/\k<l.length) (hc:∀j c,cs[j]?=some c->(cl (l.getD k.toNat dv))[off+j]?=some c):
  (execOp (ev σ) ⟨dst,.load t x,ty,pos,bO,g⟩).run P w= .ok (.value (.agg cs.toArray)) w:=by
 refine cC hu hd hi hx fun j c hj=> ?_
 have:=hS.cell _ _ (flat_get hsz l k.toNat _ (fG hk.1 hk.2) (off+j) c (hc j c hj))
 rw[xW,xW];exact this
end flat
end
end Go.Proofs.YtlhjdflgjbkpmaaGreatDoor.E
namespace Go.Proofs.YtlhjdflgjbkpmaaGreatDoor.M
section
open Go
abbrev El:=Nat->BitVec 64
def sx(a b:El):Prop:=∀i,i<8->a i=b i
instance(a b:El):Decidable (sx a b):=inferInstanceAs (Decidable (∀i,i<8->a i=b i))
def df:El:=fun _=>0#64
def tK(e:El)(i:Nat)(x:BitVec 64):El:=fun j=>if j=i then x else e j
structure Fc where
 kind:Int
 names:List Tx
 rel:Rl
structure Sh where
 tuple:Bool
 a6:List Fc
def vV:Fc:=⟨0,[],Rl.none⟩
def iv(l:List Tx):Bool:=decide (1<=l.length/\l.length<=64)&&decide (yR l<0)&&l.all iR
theorem DX{l:List Tx}(h:¬(1<=l.length/\l.length<=64)):iv l=false:=by grind[iv]
theorem P3{l:List Tx}(h:¬yR l<0):iv l=false:=by grind[iv]
theorem P4{l:List Tx}{k:Int}(k0:0<=k)(k1:k<l.length)(h:iR (l.getD k.toNat qt)=false):iv l=false:=by
 cases hc:iv l with
 |false=>rfl
 |true=>
  rw[iv,cL,iQ]at hc
  rw[hc.2 _ (lX (fG (d:=qt) k0 k1))]at h;cases h
theorem qH{l:List Tx}{k:Int}(h1:1<=l.length/\l.length<=64)(h2:yR l<0)(hk:¬k<l.length)(hf:∀j:Int,0<=j->j<k->iR (l.getD j.toNat qt)=true):iv l=true:=by
 rw[iv,gY h1,gY h2,l7,l7,iQ]
 intro x hx
 obtain⟨i,hi,rfl⟩:=ur hx
 have:=hf i J J
 rw[eC,eV,eF hi]at this
 exact this
def cZ(f:Fc):Bool:=iv f.names&&
 (if f.kind=1\/f.kind=2 then decide (pts f.rel=0)else if f.kind=3 then decide (f.rel.n=f.names.length)&&cV f.rel else if f.kind=4 then decide (f.rel.n=f.names.length)&&tG f.rel else false)
theorem adQ(r:Rl):(eM r).eq (eM Rl.none)↔pts r=0:=by
 have hp:=dA r
 constructor
 .intro h;exact h.1
 intro h
 refine⟨h,fun i hi=> ?_⟩
 show(if(i:Int)<pts r then vM r i else 0#64)=(if(i:Int)<0 then vM Rl.none i else 0#64)
 rw[aW J,aW J]
def mJ(s:Sh):Bool:=decide (1<=s.a6.length/\s.a6.length<=8)&&(s.tuple||decide (s.a6.length=1))&&s.a6.all cZ
theorem KY{s:Sh}(h:¬(1<=s.a6.length/\s.a6.length<=8)):mJ s=false:=by grind[mJ]
theorem abq{s:Sh}(h:s.tuple=false)(h2:¬s.a6.length=1):mJ s=false:=by grind[mJ]
theorem KZ{s:Sh}{k:Int}(k0:0<=k)(k1:k<s.a6.length)(h:cZ (s.a6.getD k.toNat vV)=false):mJ s=false:=by
 cases hc:mJ s with
 |false=>rfl
 |true=>
  rw[mJ,cL,iQ]at hc
  rw[hc.2 _ (lX (fG (d:=vV) k0 k1))]at h;cases h
theorem K0{s:Sh}{k:Int}(h1:1<=s.a6.length/\s.a6.length<=8)(h2:s.tuple=true\/s.a6.length=1)(hk:¬k<s.a6.length)(hf:∀j:Int,0<=j->j<k->cZ (s.a6.getD j.toNat vV)=true):mJ s=true:=by
 have h3:(s.tuple||decide (s.a6.length=1))=true:=by rcases h2 with h2|h2<;>simp[h2]
 rw[mJ,gY h1,h3,l7,l7,iQ]
 intro x hx
 obtain⟨i,hi,rfl⟩:=ur hx
 have:=hf i J J
 rw[eC,eV,eF hi]at this
 exact this
theorem n9{s:Sh}(h:mJ s=true):(1<=s.a6.length/\s.a6.length<=8)/\(s.tuple=true\/s.a6.length=1)/\∀f∈s.a6,cZ f=true:=by grind[mJ]
theorem PJ{s:Sh}(h:mJ s=true){k:Int}(k0:0<=k)(k1:k<s.a6.length):cZ (s.a6.getD k.toNat vV)=true:=by simp_all[Sh,mJ,cZ,vV,n9,fG,k1]
theorem pO{f:Fc}(h:cZ f=true):(1<=f.names.length/\f.names.length<=64)/\((f.kind=1/\pts f.rel=0)\/(f.kind=2/\pts f.rel=0)\/(f.kind=3/\f.rel.n=f.names.length/\cV f.rel=true)\/(f.kind=4/\f.rel.n=f.names.length/\tG f.rel=true)):=by grind[cZ,iv]
def ar3(a b:Fc):Bool:=decide (a.kind=b.kind)&&decide (a.names=b.names)&&decide ((eM a.rel).eq (eM b.rel))
def aJ4(a b:Sh):Bool:=decide (a.tuple=b.tuple)&&decide (a.a6.length=b.a6.length)&&(upto a.a6.length).all fun i=>ar3 (a.a6.getD i.toNat vV) (b.a6.getD i.toNat vV)
def kG(f:Fc)(w:BitVec 64):Bool:=if f.kind=1 then(level f.names.length w).2 else if f.kind=2 then ep w (below f.names.length)else if f.kind=3 then qe f.rel w else(eZ f.rel w).2
def cI(s:Sh)(e:El):Bool:=mJ s&&(upto 8).all fun i=>if i<s.a6.length then kG (s.a6.getD i.toNat vV) (e i.toNat)else decide (e i.toNat=0#64)
theorem U7{s:Sh}{e:El}(h:mJ s=false):cI s e=false:=by rw[cI,h];rfl
theorem U8{s:Sh}{e:El}{k:Int}(k0:0<=k)(k1:k<8)(h:k<s.a6.length)(h2:kG (s.a6.getD k.toNat vV) (e k.toNat)=false):cI s e=false:=by
 cases hc:cI s e with
 |false=>rfl
 |true=>
  rw[cI,cL,iQ]at hc
  have:=hc.2 k (cJ.2 ⟨k0,k1⟩)
  rw[aY h,h2]at this;cases this
theorem MH{s:Sh}{e:El}{k:Int}(k0:0<=k)(k1:k<8)(h:¬k<s.a6.length)(h2:e k.toNat≠0#64):cI s e=false:=by
 cases hc:cI s e with
 |false=>rfl
 |true=>
  rw[cI,cL,iQ]at hc
  have:=hc.2 k (cJ.2 ⟨k0,k1⟩)
  rw[aW h,eD]at this;exact absurd this h2
def EJ(s:Sh)(e:El)(k:Int):Prop:=∀j:Int,0<=j->j<k->(j<s.a6.length->kG (s.a6.getD j.toNat vV) (e j.toNat)=true)/\(¬j<s.a6.length->e j.toNat=0#64)
theorem MI{s:Sh}{e:El}{k:Int}(h:mJ s=true)(hk:¬k<8)(hf:EJ s e k):cI s e=true:=by
 rw[cI,h,l7,iQ]
 intro i hi
 have h1:=cJ.1 hi
 have h2:=hf i h1.1 J
 split
 .rename_i h3;exact h2.1 h3
 rename_i h3;exact gY (h2.2 h3)
theorem EJ.none(s:Sh)(e:El):EJ s e 0:=fun j a b=>absurd b J
theorem EJ.next{s:Sh}{e:El}{k:Int}(h:EJ s e k)(h1:k<s.a6.length->kG (s.a6.getD k.toNat vV) (e k.toNat)=true)(h2:¬k<s.a6.length->e k.toNat=0#64):EJ s e (k+1):=fun j a b=>by
 by_cases he:j=k
 .subst he;exact⟨h1,h2⟩
 exact h j a J
def cS(a b:El):Bool:=(upto 8).all fun i=>ep (a i.toNat) (b i.toNat)
theorem ahd{a b:El}{k:Int}(k0:0<=k)(k1:k<8)(h:ep (a k.toNat) (b k.toNat)=false):cS a b=false:=by
 cases hc:cS a b with
 |false=>rfl
 |true=>
  rw[cS,iQ]at hc
  rw[hc k (cJ.2 ⟨k0,k1⟩)]at h;cases h
theorem abr{a b:El}{k:Int}(hk:¬k<8)(hf:∀j:Int,0<=j->j<k->ep (a j.toNat) (b j.toNat)=true):cS a b=true:=by grind[cS,cJ]
def U9(s:Sh)(a b:El)(i:Nat):BitVec 64:=if(i:Int)<s.a6.length/\(s.a6.getD i vV).kind=4 then jr (s.a6.getD i vV).rel (a i) (b i)else a i|||b i
def eo(s:Sh)(a b:El):El:=fun i=>U9 s a b i
def pe(a b:El):El:=fun i=>a i&&&b i
def ng(a b:El)(k:Int):El:=fun i=>if(i:Int)<k then a i else b i
theorem vX(a b:El):ng a b 0=b:=funext fun i=>aW J
theorem uX{a b:El}{k:Int}{x:BitVec 64}(k0:0<=k)(h:x=a k.toNat):tK (ng a b k) k.toNat x=ng a b (k+1):=by grind[tK,ng]
theorem Y1{a b:El}{k:Int}(k0:0<=k):ng a b k k.toNat=b k.toNat:=aW J
theorem amb{a b:El}{k:Int}(hk:¬k<8):sx (ng a b k) a:=fun i hi=>aY J
def ez(f:Fc):BitVec 64:=if f.kind≠4 then 0#64 else bQ f.rel (wT f.rel (gx f.rel)).1
def FF(f:Fc):BitVec 64:=if f.kind=1 then awD f.names.length else if f.kind=2 then below f.names.length else if f.kind=3 then Ka f.rel else bQ f.rel (wT f.rel (bQ f.rel)).1
def gI(s:Sh)(f:Fc->BitVec 64):El:=fun i=>if mJ s=true/\(i:Int)<s.a6.length then f (s.a6.getD i vV)else 0#64
def yS(f:Fc):Int:=if f.kind=1 then f.names.length-1 else if f.kind=2 then f.names.length else if f.kind=3 then KX f.rel else(abi f.rel).1
def CI(s:Sh)(k:Int):Int:=((upto k).map fun i=>yS (s.a6.getD i.toNat vV)).sum
theorem ahe{s:Sh}{k:Int}(k0:0<=k):CI s k+yS (s.a6.getD k.toNat vV)=CI s (k+1):=by grind[CI,iX]
def gJ(s:Sh):Int:=if mJ s then CI s s.a6.length else 0
end
end Go.Proofs.YtlhjdflgjbkpmaaGreatDoor.M
namespace Go.Proofs.YtlhjdflgjbkpmaaGreatDoor.E
section
open Go Go.RowKit Go.Proofs.YtlhjdflgjbkpmaaGreatDoor.M
def pM(e:El):List Value:=(List.range 8).map fun i=>U (e i)
@[irreducible] def iM(e:El):Array Value:=(pM e).toArray
theorem iq(e:El):iM e=(pM e).toArray:=by unfold iM;rfl
theorem cY(e:El):(pM e).length=8:=by simp[pM]
theorem Gp(e:El):(iM e).size=8:=by rw[iq];simp[pM]
theorem jM(e:El){i:Nat}(h:i<8):(iM e)[0+i*1]?=some (U (e i)):=by grind[iq,pM]
theorem ar4(e:El){k:Int}(h:0<=k/\k<8):(iM e)[k.toNat]?=some (U (e k.toNat)):=by grind[iq,pM]
theorem oa(e:El)(i:Nat)(x:BitVec 64):(iM e).setIfInBounds (0+i*1) (U x)=iM (tK e i x):=by grind[iq,cY,pM,tK]
theorem mo{a b:El}(h:sx a b):iM a=iM b:=by simp_all[El,sx,iM,iq,pM]
theorem ahf:iM df=Array.replicate 8 (U 0#64):=by rw[iq];rfl
theorem abt(e:El):∀u∈iM e,u.oneCell'=true:=by
 rw[iq];simp[pM]
 exact fun _ _=>rfl
structure qI where
 kind:Int
 nv:Value
 names:List Tx
 rel:Rl
def qI.fc(f:qI):Fc:=⟨f.kind,f.names,f.rel⟩
def sS(f:qI):List Value:=I f.kind::f.nv::wS f.rel
theorem fC(f:qI):(sS f).length=67:=by simp[sS,pQ]
abbrev uY(f:qI):Array Value:=(sS f).toArray
def iB:qI:=⟨0,.slice none 0 0,[],Rl.none⟩
theorem MJ(f:qI):∀j c,(wS f.rel)[j]?=some c->(sS f)[2+j]?=some c:=by grind[sS]
structure wU(K:Vu)(f:qI):Prop where
 names:oE K f.nv 1 f.names.length (JL f.names)
theorem wU.mono{K K':Vu}{f:qI}(h:wU K f)(hl:Le K K'):wU K' f:=⟨h.names.mono hl⟩
structure kW where
 tuple:Bool
 fv:Value
 a6:List qI
def kW.sh(s:kW):Sh:=⟨s.tuple,s.a6.map qI.fc⟩
abbrev qW(s:kW):Array Value:=#[B s.tuple,s.fv]
structure lm(K:Vu)(s:kW):Prop where
 a6:oE K s.fv 67 s.a6.length (s.a6.flatMap sS)
 each:∀f∈s.a6,wU K f
theorem lm.mono{K K':Vu}{s:kW}(h:lm K s)(hl:Le K K'):lm K' s:=⟨h.a6.mono hl,fun f hf=>(h.each f hf).mono hl⟩
theorem pB(s:kW):s.sh.a6.length=s.a6.length:=by simp[kW.sh]
theorem iE(s:kW)(k:Int):s.sh.a6.getD k.toNat vV=(s.a6.getD k.toNat iB).fc:=by
 rw[kW.sh,eV,eV,qC]
 cases s.a6[k.toNat]?<;>rfl
theorem lm.at{K:Vu}{s:kW}(h:lm K s){k:Int}(h0:0<=k)(h1:k<s.a6.length):wU K (s.a6.getD k.toNat iB):=h.each _ (lX (fG (d:=iB) h0 h1))
section runs
variable{P:Program}{σ:Env}{w:World}{dst:Option Tmp}{ty t u e:TypeId}{pos:String}{bO:Array Edge}{g:Option (Nat×Bool)}{x y:Operand}{b:Nat}{fr:Nat×Nat}
structure ElT(P:Program)(t e:TypeId):Prop where
 u:P.underlying t=some (.array 8 e)
 ue:P.underlying e=some (.int .u64)
 se:∀w,(sizeOf e).run P w= .ok 1 w
 ae:∀w,(isAgg e).run P w= .ok false w
 eg:P.eqGuardType P.depth t=false
theorem ElT.eql(T:ElT P t e)(a b:El)(w:World):(Op.equalIn 10000 t (.agg (iM a)) (.agg (iM b))).run P w= .ok (decide (sx a b)) w:=by
 rw[iq,iq]
 exact apl 9998 a b T.u T.ue T.se T.ae
theorem IP{a b:El}(T:ElT P t e)(hx:ev σ x= .agg (iM a))(hy:ev σ y= .agg (iM b)):
  (execOp (ev σ) ⟨dst,.binOp .eql t x y u,ty,pos,bO,g⟩).run P w= .ok (.value (.bool (decide (sx a b)))) w:=by
 have h:=run_eql_struct (P:=P) w t (iM a) (iM b)
 rw[T.eql]at h
 simp only[execOp,hx,hy,uw,Yi w .eql t x y _ _ T.eg,xR]
 simp[h]
theorem adR{a b:El}(T:ElT P t e)(hx:ev σ x= .agg (iM a))(hy:ev σ y= .agg (iM b)):
  (execOp (ev σ) ⟨dst,.binOp .neq t x y u,ty,pos,bO,g⟩).run P w= .ok (.value (.bool (!decide (sx a b)))) w:=by
 have h:=run_neq_struct (P:=P) w t (iM a) (iM b)
 rw[T.eql]at h
 simp only[execOp,hx,hy,uw,Yi w .neq t x y _ _ T.eg,xR]
 simp[h]
theorem cN{a:El}{d:TypeDesc}(hu:P.underlying t=some d)(hd:d.isRow=true)(hi:(P.info? t).map (·.size)=some 8)(hx:ev σ x= .pointer (some ⟨b,0,none⟩))
 (hg:w.heap[b]?=some (.cells (iM a) e fr)):(execOp (ev σ) ⟨dst,.load t x,ty,pos,bO,g⟩).run P w= .ok (.value (.agg (iM a))) w:=by grind[iq,cC,cY,bj]
theorem cR{a a0:El}(hi:(P.info? t).map (·.size)=some 8)(hx:ev σ x= .pointer (some ⟨b,0,none⟩))(hy:ev σ y= .agg (iM a))(hg:w.heap[b]?=some (.cells (iM a0) e (0,0))):
 (execOp (ev σ) ⟨dst,.store t x y,ty,pos,bO,g⟩).run P w= .ok .skip (w.setRow b (iM a)):=by grind[dK,Gp,abt]
theorem yT{f:qI}{d:TypeDesc}(hu:P.underlying t=some d)(hd:d.isRow=true)(hi:(P.info? t).map (·.size)=some 67)(hx:ev σ x= .pointer (some ⟨b,0,none⟩))
 (hg:w.heap[b]?=some (.cells (uY f) e fr)):(execOp (ev σ) ⟨dst,.load t x,ty,pos,bO,g⟩).run P w= .ok (.value (.agg (uY f))) w:=by grind[cC,fC,bj]
theorem jG{K:Vu}{v:Value}{sz n:Nat}{c:List Value}(h:oE K v sz n c):v.oneCell'=true/\v.cells=#[v]:=by
 obtain⟨a,cap,rfl,-,-⟩:=h.shape;exact⟨rfl,rfl⟩
theorem Vb{K:Vu}{f:qI}(h:wU K f):∀u∈sS f,u.oneCell'=true:=by
 intro u hu
 rw[sS,c8,c8]at hu
 rcases hu with rfl|rfl|hu
 .rfl
 .exact(jG h.names).1
 exact Ml f.rel u (by rw[jq];simpa using hu)
theorem sU{K:Vu}{f f0:qI}(h:wU K f)(hi:(P.info? t).map (·.size)=some 67)(hx:ev σ x= .pointer (some ⟨b,0,none⟩))(hy:ev σ y= .agg (uY f))(hg:w.heap[b]?=some (.cells (uY f0) e (0,0))):
 (execOp (ev σ) ⟨dst,.store t x y,ty,pos,bO,g⟩).run P w= .ok .skip (w.setRow b (uY f)):=by grind[dK,fC,Vb]
theorem gy{d:TypeDesc}{v:Value}{l:List El}{k:Int}(hS:Sl w v 8 l.length (l.flatMap pM))(hu:P.underlying t=some d)(hd:d.isRow=true)(hi:(P.info? t).map (·.size)=some 8)
 (hx:ev σ x= .pointer (some ⟨sb v,so v+k.toNat*8,none⟩)) (hk:0<=k/\k<l.length):(execOp (ev σ) ⟨dst,.load t x,ty,pos,bO,g⟩).run P w= .ok (.value (.agg (iM (l.getD k.toNat df)))) w:=by grind[iq,dY,cY]
theorem qJ{w0:World}{fn:Func}{L:List bu}{i p:Nat}{q:Value->World->Prop}{d:TypeDesc}{c:Array Value}(h:fn.results=#[.cell p ty])(hp:σ p= .pointer (some ⟨b,0,none⟩))(hH:Hp w0 w L)
  (hi:L[i]?=some (.blk b (.cells c e fr))) (hu:P.underlying ty=some d) (hd:d.isRow=true) (hz:(P.info? ty).map (·.size)=some c.size) (hq:q (.agg c) w):Out P fn q σ w:=
 fun n a ha=>⟨_,results_cell_row h _ w b e c fr d (by rw[ha.get,hp]) (hH.blk hi) hu (by cases d<;>simp_all) hz,hq⟩
theorem Vc{d:TypeDesc}{v:Value}{l:List qI}{k:Int}(hS:Sl w v 67 l.length (l.flatMap sS))(hu:P.underlying t=some d)(hd:d.isRow=true)(hi:(P.info? t).map (·.size)=some 65)
  (hx:ev σ x= .pointer (some ⟨sb v,so v+k.toNat*67+2,none⟩)) (hk:0<=k/\k<l.length):
  (execOp (ev σ) ⟨dst,.load t x,ty,pos,bO,g⟩).run P w= .ok (.value (.agg (dV (l.getD k.toNat iB).rel))) w:=by
 rw[jq]
 exact mj fC hS hu hd (by rw[pQ];exact hi) hx hk (MJ _)
theorem iT{d:TypeDesc}{f:qI}(hu:P.underlying t=some d)(hd:d.isRow=true)(hi:(P.info? t).map (·.size)=some 65)(hx:ev σ x= .pointer (some ⟨b,0+2,none⟩))
  (hg:w.heap[b]?=some (.cells (uY f) e fr)):(execOp (ev σ) ⟨dst,.load t x,ty,pos,bO,g⟩).run P w= .ok (.value (.agg (dV f.rel))) w:=by
 rw[jq]
 refine cC hu hd (by rw[pQ];exact hi) hx fun j c hj=> ?_
 rw[xX w b _ _ e fr hg]
 simpa using MJ f j c hj
end runs
end
end Go.Proofs.YtlhjdflgjbkpmaaGreatDoor.E
namespace Go.Proofs.YtlhjdflgjbkpmaaGreatDoor.M
theorem tL(a:BitVec 64):ep a a=true:=eW.2 fun _ h=>h
theorem mq{a b c:BitVec 64}(h:ep a b=true)(h':ep b c=true):ep a c=true:=by grind[eW]
theorem Vd{a b:BitVec 64}(h:ep a b=true)(h':ep b a=true):a=b:=rG fun j=>gX.2 ⟨eW.1 h j,eW.1 h' j⟩
theorem GJ(a b:BitVec 64):ep b (a|||b)=true:=by grind[ep,Iv]
theorem ahg(a b:BitVec 64):ep (a&&&b) b=true:=by grind[ep,Gy]
theorem Y2{a b c:BitVec 64}(h:ep a c=true)(h':ep b c=true):ep (a|||b) c=true:=by grind[eW,KO]
theorem amE{a b c:BitVec 64}(h:ep c a=true)(h':ep c b=true):ep c (a&&&b)=true:=by grind[eW,fy]
theorem zero_sub(a:BitVec 64):ep 0#64 a=true:=by grind[eW,vO]
theorem CJ{n:Int}{w:BitVec 64}(h:(level n w).2=true):(1<=n/\n<=64)/\∃k:Int,(0<=k/\k<n)/\w=below k:=by grind[Fx,Md]
theorem MK{n k:Int}(hn:1<=n/\n<=64)(hk:0<=k/\k<n):(level n (below k)).2=true:=by
 have:=YS (n:=n) (k:=k) ⟨hn.1,hn.2,hk.1,hk.2⟩
 rw[vh ⟨hn.1,hn.2,hk.1,hk.2⟩]at this
 rw[this]
theorem ahh{r:Rl}{w:BitVec 64}(h:(eZ r w).2=true):∃k:Int,(0<=k/\k<pts r)/\w=bQ r k:=by
 rcases oC (fun i=>decide (bQ r i=w)) (pts r)with⟨k,k0,k1,k2,-,-⟩|⟨-,e⟩
 .exact⟨k,⟨k0,k1⟩,(LB k2).symm⟩
 have:eZ r w=(0,false):=e
 rw[this]at h;cases h
def xp(f:Fc)(a b:BitVec 64):BitVec 64:=if f.kind=4 then jr f.rel a b else a|||b
theorem P5{f:Fc}(h:f.kind=1)(w:BitVec 64):kG f w=(level f.names.length w).2:=by rw[kG,aY h]
theorem P6{f:Fc}(h:f.kind=2)(w:BitVec 64):kG f w=ep w (below f.names.length):=by grind[kG]
theorem P7{f:Fc}(h:f.kind=3)(w:BitVec 64):kG f w=qe f.rel w:=by grind[kG]
theorem apr{f:Fc}(h:f.kind=4)(w:BitVec 64):kG f w=(eZ f.rel w).2:=by grind[kG]
theorem vi{r:Rl}{w:BitVec 64}(h:qe r w=true):cV r=true/\gk r w=w:=by grind[qe]
theorem GK{f:Fc}(h:f.kind≠4)(a b:BitVec 64):xp f a b=a|||b:=by rw[xp,aW h]
structure aDT(f:Fc):Prop where
 l:tG f.rel=true
 n:pts f.rel=f.rel.n
theorem Kb{f:Fc}(h:cZ f=true)(h4:f.kind=4):aDT f:=by
 have hs:=(pO h).2
 rcases hs with hs|hs|hs|hs
 .omega
 .omega
 .omega
 exact⟨hs.2.2,(js hs.2.2).2.2.1⟩
theorem mr{f:Fc}(h:cZ f=true)(h4:f.kind=4){w:BitVec 64}(hw:kG f w=true):∃k:Int,(0<=k/\k<f.rel.n)/\w=bQ f.rel k:=by
 rw[apr h4]at hw
 obtain⟨k,hk,e⟩:=ahh hw
 rw[(Kb h h4).n]at hk
 exact⟨k,hk,e⟩
theorem ML{f:Fc}(h:cZ f=true)(h4:f.kind=4){k:Int}(hk:0<=k/\k<f.rel.n):kG f (bQ f.rel k)=true:=by
 have ht:=Kb h h4
 rw[apr h4,vR (js ht.l).2.1 (by rw[ht.n];exact hk)]
theorem ahi{f:Fc}(h:cZ f=true)(h4:f.kind=4){i j:Int}(hi:0<=i/\i<f.rel.n)(hj:0<=j/\j<f.rel.n):xp f (bQ f.rel i) (bQ f.rel j)=bQ f.rel (jf f.rel i j).1:=by
 rw[xp,aY h4,adJ (Kb h h4).l hi hj]
theorem Y3{f:Fc}(h:cZ f=true)(h4:f.kind=4){i j:Int}(hi:0<=i/\i<f.rel.n)(hj:0<=j/\j<f.rel.n):ep (bQ f.rel i) (bQ f.rel j)=bL f.rel i j:=by grind[Fc,cZ,ep,bQ,bL,amy,Kb]
theorem vY{f:Fc}(h:cZ f=true):f.kind=1\/f.kind=2\/(f.kind=3/\cV f.rel=true)\/f.kind=4:=by grind[Fc,cZ,cV,pO]
section one
variable{f:Fc}(h:cZ f=true){a b c:BitVec 64}(ha:kG f a=true)(hb:kG f b=true)(hc:kG f c=true)
include h ha hb
theorem ar5:kG f (xp f a b)=true:=by
 rcases vY h with k|k|⟨k,hr⟩|k
 .rw[GK J]
  rw[P5 k]at*
  obtain⟨hn,i,hi,rfl⟩:=CJ ha
  obtain⟨-,j,hj,rfl⟩:=CJ hb
  rw[ags];exact MK hn J
 .rw[GK J]
  rw[P6 k]at*;exact Y2 ha hb
 .rw[GK J]
  rw[P7 k]at*
  have:=awN hr a b
  rwa[(vi ha).2,(vi hb).2]at this
 obtain⟨i,hi,rfl⟩:=mr h k ha
 obtain⟨j,hj,rfl⟩:=mr h k hb
 rw[ahi h k hi hj];exact ML h k (abp (Kb h k).l hi hj)
theorem ar6:kG f (a&&&b)=true:=by
 rcases vY h with k|k|⟨k,hr⟩|k
 .rw[P5 k]at*
  obtain⟨hn,i,hi,rfl⟩:=CJ ha
  obtain⟨-,j,hj,rfl⟩:=CJ hb
  rw[adp];exact MK hn J
 .rw[P6 k]at*;exact mq (Gy a b) ha
 .rw[P7 k]at*
  have:=arY hr a b
  rwa[(vi ha).2,(vi hb).2]at this
 obtain⟨i,hi,rfl⟩:=mr h k ha
 obtain⟨j,hj,rfl⟩:=mr h k hb
 rw[<-adI (Kb h k).l hi hj];exact ML h k (apo (Kb h k).l hi hj)
theorem aDU:ep a (xp f a b)=true/\ep b (xp f a b)=true:=by
 by_cases k:f.kind=4
 .obtain⟨i,hi,rfl⟩:=mr h k ha
  obtain⟨j,hj,rfl⟩:=mr h k hb
  have hl:=Kb h k
  have hJ:=(KT hl.l hi hj).2
  rw[ahi h k hi hj,Y3 h k hi (abp hl.l hi hj),Y3 h k hj (abp hl.l hi hj)]
  exact⟨hJ.a,hJ.b⟩
 rw[GK k];exact⟨Iv a b,GJ a b⟩
include hc
theorem awP(h1:ep a c=true)(h2:ep b c=true):ep (xp f a b) c=true:=by
 by_cases k:f.kind=4
 .obtain⟨i,hi,rfl⟩:=mr h k ha
  obtain⟨j,hj,rfl⟩:=mr h k hb
  obtain⟨m,hm,rfl⟩:=mr h k hc
  have hl:=Kb h k
  rw[Y3 h k hi hm]at h1;rw[Y3 h k hj hm]at h2
  rw[ahi h k hi hj,Y3 h k (abp hl.l hi hj) hm]
  exact(KT hl.l hi hj).2.l m h1 h2
 rw[GK k];exact Y2 h1 h2
end one
theorem amF{f:Fc}(h:cZ f=true):kG f (ez f)=true/\∀a,kG f a=true->ep (ez f) a=true:=by
 have hn:=(pO h).1
 rcases vY h with k|k|⟨k,hr⟩|k
 .rw[ez,aY J]
  refine⟨?_,fun a _=>zero_sub a⟩
  rw[P5 k,show(0#64)=below 0 from O];exact MK J J
 .rw[ez,aY J]
  exact⟨by rw[P6 k];exact zero_sub _,fun a _=>zero_sub a⟩
 .rw[ez,aY J]
  refine⟨?_,fun a _=>zero_sub a⟩
  rw[P7 k]
  refine IL hr (rG fun z=> ?_)
  rw[vO]
  cases hc:hasB (gk f.rel 0#64) z with
  |false=>rfl
  |true=>
   obtain⟨o,x,p,y,-,-,-,h4⟩:=(jF hr _ z).1 hc
   rw[vO]at h4;cases h4
 have ht:=Kb h k
 have he:=amA ht.l
 rw[ez,aW J]
 refine⟨ML h k he.2.1,fun a ha=> ?_⟩
 obtain⟨i,hi,rfl⟩:=mr h k ha
 rw[Y3 h k he.2.1 hi];exact he.2.2 i hi.1 hi.2
theorem qK{s:Sh}{e:El}(h:cI s e=true):mJ s=true/\∀i:Nat,i<8->(((i:Int)<s.a6.length->kG (s.a6.getD i vV) (e i)=true)/\(¬(i:Int)<s.a6.length->e i=0#64)):=by
 rw[cI,cL,iQ]at h
 refine⟨h.1,fun i hi=> ?_⟩
 have:=h.2 (i:Int) (cJ.2 J)
 rw[eC]at this
 split at this
 .rename_i h3;exact⟨fun _=>this,fun h4=>absurd h3 h4⟩
 rename_i h3;exact⟨fun h4=>absurd h4 h3,fun _=>LB this⟩
theorem SI{s:Sh}{e:El}(h:mJ s=true)(hf:∀i:Nat,i<8->(((i:Int)<s.a6.length->kG (s.a6.getD i vV) (e i)=true)/\(¬(i:Int)<s.a6.length->e i=0#64))):cI s e=true:=
 MI h (k:=8) J fun j j0 j1=>by
  have:=hf j.toNat J
  rw[gm j0]at this;exact this
theorem qf{a b:El}:cS a b=true↔∀i:Nat,i<8->ep (a i) (b i)=true:=by grind[cS,List.all_eq_true,cJ,Int.toNat_natCast]
theorem MM{s:Sh}{a b:El}{i:Nat}(h:(i:Int)<s.a6.length):eo s a b i=xp (s.a6.getD i vV) (a i) (b i):=by simp_all[Sh,El,eo,xp,vV,U9]
theorem IQ{s:Sh}{a b:El}{i:Nat}(h:¬(i:Int)<s.a6.length):eo s a b i=a i|||b i:=by
 show U9 s a b i=_
 rw[U9,aW (fun hc=>h hc.1)]
theorem CK{s:Sh}(h:mJ s=true){i:Nat}(hi:(i:Int)<s.a6.length):cZ (s.a6.getD i vV)=true:=by grind[PJ,Int.toNat_natCast]
section elems
variable{s:Sh}{a b c:El}(ha:cI s a=true)(hb:cI s b=true)(hc:cI s c=true)
include ha hb
theorem IS:cI s (eo s a b)=true:=by grind[qK,SI,MM,ar5,CK,IQ]
theorem ar7:cI s (pe a b)=true:=by grind[cI,pe,qK,SI,ar6,CK]
theorem Y4:cS a (eo s a b)=true/\cS b (eo s a b)=true:=by grind[qK,qf,MM,aDU,CK,IQ,Iv,GJ]
include hc
theorem abu(h1:cS a c=true)(h2:cS b c=true):cS (eo s a b) c=true:=by grind[qK,qf,MM,awP,CK,IQ,Y2]
end elems
theorem ar8(a b:El):cS (pe a b) a=true/\cS (pe a b) b=true:=by simp_all[El,cS,pe,qf,Gy,ahg]
theorem awQ{a b c:El}(h1:cS c a=true)(h2:cS c b=true):cS c (pe a b)=true:=by simp_all[El,cS,pe,qf,amE]
theorem Y5{a b:El}(h1:cS a b=true)(h2:cS b a=true):sx a b:=fun i hi=>Vd (qf.1 h1 i hi) (qf.1 h2 i hi)
theorem SJ{s:Sh}{f:Fc->BitVec 64}{i:Nat}(h:mJ s=true)(hi:(i:Int)<s.a6.length):gI s f i=f (s.a6.getD i vV):=aY ⟨h,hi⟩
theorem Ve{s:Sh}{f:Fc->BitVec 64}{i:Nat}(hi:¬(i:Int)<s.a6.length):gI s f i=0#64:=aW fun h=>hi h.2
theorem P8{s:Sh}(h:mJ s=true):cI s (gI s ez)=true/\∀a,cI s a=true->cS (gI s ez) a=true:=by grind[SI,Ve,qf,SJ,amF,CK,qK,zero_sub]
def MO(r:Rl)(k:Int):Nat:=((List.range 65).filter fun v=>decide (1<=v)&&hasB (zG r v) k).length
theorem adS{r:Rl}(ho:gq r=true){k:Int}(hk:0<=k/\k<pts r):∀m:Nat,hasB (zG r m) k=true->(∀v,m<v->hasB (zG r v) k=false)->MO r k=m:=fun m hm hno=>by
 have hp:=dA r
 have hlt:=agV ho hm
 have e:((List.range 65).filter fun v=>decide (1<=v)&&hasB (zG r v) k)=(List.range m).map (· +1):=by
  have h1:List.range 65=0::((List.range m).map (· +1)++(List.range (64-m)).map (· +(m+1))):=by
   rw[show 65=(m+(64-m))+1 by omega,XV,Ym,gP,RT]
   simp only[LG,true_and]
   congr 1
   refine HR fun x _=> ?_
   simp only[Function.comp];omega
  rw[h1,zM aJ,Lz]
  have h2:((List.range m).map (· +1)).filter (fun v=>decide (1<=v)&&hasB (zG r v) k)=(List.range m).map (· +1):=by
   rw[List.filter_eq_self]
   intro v hv
   rw[fN]at hv
   obtain⟨x,hx,rfl⟩:=hv
   rw[ou]at hx
   rw[US (show x+1<=m by omega) hm];simp
  have h3:((List.range (64-m)).map (· +(m+1))).filter (fun v=>decide (1<=v)&&hasB (zG r v) k)=[]:=by
   rw[List.filter_eq_nil_iff]
   intro v hv
   rw[fN]at hv
   obtain⟨x,-,rfl⟩:=hv
   rw[hno _ J];simp
  rw[h2,h3,mG]
 rw[MO,e,gA,RD]
theorem SK{r:Rl}(ho:gq r=true){k:Int}(hk:0<=k/\k<pts r):∃m:Nat,hasB (zG r m) k=true/\(∀v,m<v->hasB (zG r v) k=false)/\MO r k=m:=by
 have hp:=dA r
 have h0:hasB (zG r 0) k=true:=(mi _ _).2 J
 have key:∀n:Nat,(∃m,m<=n/\hasB (zG r m) k=true/\∀v,m<v->v<=n->hasB (zG r v) k=false):=fun n=>by
  induction n with
  |zero=>exact⟨0,eu _,h0,fun v h1 h2=>J⟩
  |succ n ih=>
   obtain⟨m,h1,h2,h3⟩:=ih
   cases hc:hasB (zG r (n+1)) k with
   |true=>exact⟨n+1,eu _,hc,fun v h4 h5=>J⟩
   |false=>
    refine⟨m,J,h2,fun v h4 h5=> ?_⟩
    by_cases he:v=n+1
    .rw[he];exact hc
    exact h3 v h4 J
 obtain⟨m,h1,h2,h3⟩:=key 64
 have hno:∀v,m<v->hasB (zG r v) k=false:=fun v hv=>by
  by_cases hv2:v<=64
  .exact h3 v hv hv2
  .cases hc:hasB (zG r v) k with
   |false=>rfl
   |true=>have:=agV ho hc;omega
 exact⟨m,h2,hno,adS ho hk m h2 hno⟩
theorem amG{r:Rl}(ho:gq r=true){i j:Int}(h:bL r i j=true)(hne:j≠i):MO r i<MO r j:=by
 have hb:=kM h
 obtain⟨m,h1,h2,h3⟩:=SK ho hb.1
 obtain⟨m',h4,h5,h6⟩:=SK ho hb.2
 rw[h3,h6]
 have h7:=agU m h1 h hne
 by_cases hle:m'<=m
 .rw[h5 (m+1) J]at h7;cases h7
 omega
theorem adT{r:Rl}(ho:gq r=true){k:Int}(hk:0<=k/\k<pts r):(MO r k:Int)<=(abi r).1:=by
 obtain⟨m,h1,h2,h3⟩:=SK ho hk
 obtain⟨t,h4,h5,h6⟩:=IB ho 65 0 O (.inl O)
 have h4':Mr r 65 (below (pts r)) 0=(t:Int):=h4
 rw[abi,aY ho,h4',h3]
 by_cases hle:m<=t
 .show(m:Int)<=t;omega
 have:=US (show t+1<=m by omega) h1
 rw[h5,vO]at this;cases this
def vZ(f:Fc)(w:BitVec 64):Nat:=if f.kind=3 then((upto 64).filter fun i=>MF f.rel i&&hasB w i).length else if f.kind=4 then MO f.rel (eZ f.rel w).1 else(gK w).length
theorem filter_lt{A B:Int->Bool}:∀l:List Int,(∀x∈l,A x=true->B x=true)->(∃x∈l,B x=true/\A x=false)->(l.filter A).length<(l.filter B).length
 |[],_,h=>by obtain⟨x,hx,_⟩:=h;simp at hx
 |y::l,h1,h2=>by
  have hle:∀m:List Int,(∀x∈m,A x=true->B x=true)->(m.filter A).length<=(m.filter B).length:=fun m hm=>by
   induction m with
   |nil=>simp
   |cons z m ih=>
    have:=ih fun x hx=>hm x rz
    have hz:=hm z aJ
    cases ha:A z with
    |true=>rw[xP ha,xP (hz ha)];simp;omega
    |false=>
     rw[zM (by simp[ha])]
     cases hb:B z with
     |true=>rw[xP hb];simp;omega
     |false=>rw[zM (by simp[hb])];exact this
  have hl:=hle l fun x hx=>h1 x rz
  have hy:=h1 y aJ
  obtain⟨x,hx,hbx,hax⟩:=h2
  rcases c8.1 hx with rfl|hx
  .rw[zM (by simp[hax]),xP hbx];simp;omega
  have ih:=filter_lt l (fun z hz=>h1 z (by simp[hz])) ⟨x,hx,hbx,hax⟩
  cases ha:A y with
  |true=>rw[xP ha,xP (hy ha)];simp;omega
  |false=>
   rw[zM (by simp[ha])]
   cases hb:B y with
   |true=>rw[xP hb];simp;omega
   |false=>rw[zM (by simp[hb])];exact ih
theorem ar9{a b:BitVec 64}(h:ep a b=true)(hne:a≠b):∃j:Int,hasB b j=true/\hasB a j=false:=by grind[Vd,eW,hasB]
theorem MP{r:Rl}(h:cV r=true){w:BitVec 64}(hw:gk r w=w){o x p y:Int}(h1:bL r o p=true)(h2:bL r x y=true)(h3:hasB w (8*p+y)=true):hasB w (8*o+x)=true:=by grind[jF]
theorem Vf{f:Fc}(h:cZ f=true){a b:BitVec 64}(ha:kG f a=true)(hb:kG f b=true)(hs:ep a b=true)(hne:a≠b):vZ f a<vZ f b:=by
 obtain⟨j,hj1,hj2⟩:=ar9 hs hne
 by_cases k3:f.kind=3
 .have hr:cV f.rel=true:=by
   rcases vY h with k|k|⟨-,hr⟩|k
   .omega
   .omega
   .exact hr
   omega
  rw[P7 k3]at ha hb
  have ca:=(vi ha).2;have cb:=(vi hb).2
  rw[vZ,vZ,aY k3,aY k3]
  refine filter_lt _ (fun x _ hx=> ?_) ?_
  .rw[cL]at hx⊢;exact⟨hx.1,eW.1 hs x hx.2⟩
  have hsp:=e8 hr
  have awR:=hj1
  rw[<-cb]at awR
  obtain⟨o,x,p,y,rfl,h1,h2,-⟩:=(jF hr b j).1 awR
  have b1:=BH hr h1;have b2:=BH hr h2
  obtain⟨q,q1,q2,q3,q4⟩:=YZ hr o.toNat o J b1.1.1 b1.1.2
  obtain⟨t,t1,t2,t3,t4⟩:=YZ hr x.toNat x J b2.1.1 b2.1.2
  have nq:=(ME hr q).1 q2;have nt:=(ME hr t).1 t2
  refine⟨8*q+t,cJ.2 J,?_,?_⟩
  .rw[MF,show(8*q+t)/8=q by omega,show(8*q+t)%8=t by omega,q2,t2,MP hr cb q4 t4 hj1];rfl
  .cases hc:hasB a (8*q+t)with
   |false=>simp
   |true=>rw[MP hr ca q3 t3 hc]at hj2;cases hj2
 by_cases k4:f.kind=4
 .obtain⟨i,hi,rfl⟩:=mr h k4 ha
  obtain⟨m,hm,rfl⟩:=mr h k4 hb
  have ht:=Kb h k4
  have ho:=(js ht.l).2.1
  rw[Y3 h k4 hi hm]at hs
  rw[vZ,vZ,aW k3,aW k3,aY k4,aY k4,vR ho (by rw[ht.n];exact hi),vR ho (by rw[ht.n];exact hm)]
  exact amG ho hs fun e=>hne (by have e2:m=i:=e;rw[e2])
 rw[vZ,vZ,aW k3,aW k3,aW k4,aW k4]
 exact agR (eW.1 hs) hj1 hj2
theorem P9{k:Int}(h0:0<=k)(h:k<=64):(gK (below k)).length=k.toNat:=by
 have e:gK (below k)=upto k:=Ae (qp _) (xn _) fun x=>by rw[fF,mi,cJ];omega
 rw[e,nc]
theorem ahj{f:Fc}(h:cZ f=true){a:BitVec 64}(ha:kG f a=true):(vZ f a:Int)<=yS f:=by
 have hn:=(pO h).1
 rcases vY h with k|k|⟨k,hr⟩|k
 .rw[P5 k]at ha
  obtain⟨-,i,hi,rfl⟩:=CJ ha
  rw[vZ,aW J,aW J,yS,aY k,P9 hi.1 J];omega
 .rw[P6 k]at ha
  rw[vZ,aW J,aW J,yS,aW J,aY k]
  have:=Iz (gK a) (gK (below f.names.length)) (IA a) fun x hx=>(fF _ _).2 (eW.1 ha x ((fF _ _).1 hx))
  rw[P9 J J]at this;omega
 .rw[vZ,aY k,yS,aW J,aW J,aY k,<-adO hr O,arZ,gA]
  have:∀l:List Int,(l.filter fun i=>MF f.rel i&&hasB a i).length<=(l.filter (MF f.rel)).length:=fun l=>by
   induction l with
   |nil=>simp
   |cons z l ih=>
    cases hg:MF f.rel z with
    |true=>
     rw[xP hg]
     cases hz:hasB a z with
     |true=>rw[xP (by simp[hg,hz])];simp;omega
     |false=>rw[zM (by simp[hz])];simp;omega
    |false=>rw[zM (by simp[hg]),zM (by simp[hg])];exact ih
  have:=this (upto 64)
  omega
 obtain⟨i,hi,rfl⟩:=mr h k ha
 have ht:=Kb h k
 have ho:=(js ht.l).2.1
 rw[vZ,aW J,aY k,yS,aW J,aW J,aW J,vR ho (by rw[ht.n];exact hi)]
 exact adT ho (by rw[ht.n];exact hi)
def FG(s:Sh)(e:El)(k:Int):Int:=((upto k).map fun i=>(vZ (s.a6.getD i.toNat vV) (e i.toNat):Int)).sum
def nh(s:Sh)(e:El):Int:=FG s e s.a6.length
theorem SL{F G:Int->Int}:∀l:List Int,(∀x∈l,F x<=G x)->(l.map F).sum<=(l.map G).sum
 |[],_=>by simp
 |y::l,h=>by
  have:=SL l fun x hx=>h x rz
  have:=h y aJ
  simp;omega
theorem ahk{F G:Int->Int}:∀l:List Int,(∀x∈l,F x<=G x)->(∃x∈l,F x<G x)->(l.map F).sum<(l.map G).sum
 |[],_,h=>by obtain⟨x,hx,_⟩:=h;simp at hx
 |y::l,h,h2=>by
  have hle:=SL l fun x hx=>h x rz
  have hy:=h y aJ
  obtain⟨x,hx,Ui⟩:=h2
  rcases c8.1 hx with rfl|hx
  .simp;omega
  have:=ahk l (fun z hz=>h z (by simp[hz])) ⟨x,hx,Ui⟩
  simp;omega
theorem ahl(s:Sh)(e:El):0<=nh s e:=by
 have:=SL (F:=fun _=>0) (G:=fun i=>(vZ (s.a6.getD i.toNat vV) (e i.toNat):Int)) (upto s.a6.length) fun x _=>by omega
 rw[nh,FG]
 refine LM ?_ this
 have hz:∀l:List Int,(l.map fun _=>(0:Int)).sum=0:=fun l=>by
  induction l with
  |nil=>rfl
  |cons y l ih=>rw[lZ,Fj,ih];rfl
 rw[hz];exact mc _
theorem ahm{s:Sh}{e:El}(h:cI s e=true):nh s e<=gJ s:=by
 have hf:=qK h
 have hs:=n9 hf.1
 rw[gJ,aY hf.1,nh,FG,CI]
 refine SL _ fun x hx=> ?_
 have:=cJ.1 hx
 have h2:=(hf.2 x.toNat J).1 J
 exact ahj (CK hf.1 J) h2
theorem ahn{s:Sh}{a b:El}(ha:cI s a=true)(hb:cI s b=true)(hl:cS a b=true)(hne:¬sx b a):nh s a<nh s b:=by
 have fa:=qK ha;have fb:=qK hb
 have hs:=n9 fa.1
 rw[qf]at hl
 have hex:∃i:Nat,i<8/\b i≠a i:=Lo fun hno=>hne fun i hi=>Lo fun h=>hno ⟨i,hi,h⟩
 obtain⟨i,hi,hd⟩:=hex
 have hin:(i:Int)<s.a6.length:=Lo fun h=>hd (by rw[(fb.2 i hi).2 h,(fa.2 i hi).2 h])
 rw[nh,nh,FG,FG]
 refine ahk _ (fun x hx=> ?_) ⟨i,cJ.2 J,?_⟩
 .have:=cJ.1 hx
  have hx8:x.toNat<8:=J
  have Ui:((x.toNat:Nat):Int)<s.a6.length:=J
  by_cases he:a x.toNat=b x.toNat
  .rw[he];exact mc _
  have:=Vf (CK fa.1 Ui) ((fa.2 _ hx8).1 Ui) ((fb.2 _ hx8).1 Ui) (hl _ hx8) he
  omega
 rw[eC]
 have:=Vf (CK fa.1 hin) ((fa.2 i hi).1 hin) ((fb.2 i hi).1 hin) (hl i hi) (fun e=>hd e.symm)
 omega
theorem MQ{f:Fc}(h:iv f.names=false):cZ f=false:=by rw[cZ,h];rfl
theorem Y6{f:Fc}(h:iv f.names=true)(hk:f.kind=1\/f.kind=2):cZ f=decide (pts f.rel=0):=by grind[cZ]
theorem abv{f:Fc}(h:iv f.names=true)(hk:f.kind=1\/f.kind=2):cZ f=decide ((eM f.rel).eq (eM Rl.none)):=by grind[Y6,adQ]
theorem awS{f:Fc}(h:iv f.names=true)(hk:f.kind=3):cZ f=(decide (f.rel.n=f.names.length)&&cV f.rel):=by grind[cZ]
theorem awT{f:Fc}(h:iv f.names=true)(hk:f.kind=4):cZ f=(decide (f.rel.n=f.names.length)&&tG f.rel):=by grind[cZ]
theorem aps{f:Fc}(h1:¬f.kind=1)(h2:¬f.kind=2)(h3:¬f.kind=3)(h4:¬f.kind=4):cZ f=false:=by grind[cZ]
theorem aho{f:Fc}(hk:f.kind=3)(h:¬f.rel.n=f.names.length):cZ f=false:=by grind[cZ]
theorem ahp{f:Fc}(hk:f.kind=4)(h:¬f.rel.n=f.names.length):cZ f=false:=by grind[cZ]
theorem ahq{f:Fc}(h:iv f.names=true)(hk:f.kind=3)(hn:f.rel.n=f.names.length):cZ f=cV f.rel:=by grind[awS]
theorem ahr{f:Fc}(h:iv f.names=true)(hk:f.kind=4)(hn:f.rel.n=f.names.length):cZ f=tG f.rel:=by grind[awT]
theorem apt{f:Fc}(h1:¬f.kind=1)(h2:¬f.kind=2)(h3:¬f.kind=3)(w:BitVec 64):kG f w=(eZ f.rel w).2:=by grind[kG]
theorem asa{f:Fc}(h:cZ f=true)(hk:f.kind=3)(w:BitVec 64):kG f w=decide (gk f.rel w=w):=by grind[P7,qe,vY]
theorem amH{f:Fc}(h:cZ f=true):0<=yS f/\yS f<=64:=by
 have hn:=(pO h).1
 rcases(pO h).2 with k|k|⟨k,k2,k3⟩|⟨k,k2,k3⟩
 .rw[yS,aY k.1];omega
 .rw[yS,aW J,aY k.1];omega
 .rw[yS,aW J,aW J,aY k,<-MB k3]
  have hs:=e8 k3
  have hb:= @arV f.rel (pts f.rel) J
  have h1:0<=Bh f.rel (pts f.rel)*Bh f.rel (pts f.rel):=Int.mul_nonneg hb.1 hb.1
  have h2:Bh f.rel (pts f.rel)*Bh f.rel (pts f.rel)<=8*8:=Int.mul_le_mul J J hb.1 J
  omega
 rw[yS,aW J,aW J,aW J]
 obtain⟨m,h1,-,h3⟩:=IB (js k3).2.1 65 0 O (.inl O)
 have h1':Mr f.rel 65 (below (pts f.rel)) 0=(m:Int):=h1
 rw[abi,aY (js k3).2.1,h1']
 have hp:=dA f.rel
 rcases h3 with h3|h3
 .subst h3;exact⟨mc _,J⟩
 have:=KQ (js k3).2.1 m h3
 have:=abj h3
 show 0<=(m:Int)/\(m:Int)<=64
 omega
theorem SM{s:Sh}(h:mJ s=true):∀k:Nat,(k:Int)<=s.a6.length->0<=CI s k/\CI s k<=64*k
 |0,_=>⟨mc _,mc _⟩
 |k+1,hk=>by
  have ih:=SM h k J
  have h1:=ahe (s:=s) (k:=(k:Int)) J
  have h2:=amH (PJ h (k:=(k:Int)) J J)
  have h3:CI s ((k+1:Nat):Int)=CI s ((k:Int)+1):=rfl
  rw[h3,<-h1];omega
theorem amI{s:Sh}(h:mJ s=true){k:Int}(k0:0<=k)(hk:k<=s.a6.length):0<=CI s k/\CI s k<=512:=by
 have h1:=SM h k.toNat J
 have h2:=(n9 h).1
 rw[gm k0]at h1;omega
theorem Vg{s:Sh}{f:Fc->BitVec 64}{k:Int}(hk:k=s.a6.length):sx (ng (gI s f) df k) (gI s f):=fun i hi=>by
 unfold ng
 by_cases h:(i:Int)<k
 .rw[aY h]
 rw[aW h,Ve J];rfl
theorem abw{s:Sh}{f:Fc->BitVec 64}(h:mJ s=false):sx df (gI s f):=fun i hi=>by
 rw[gI,aW (by rw[h];simp)];rfl
theorem CL{s:Sh}{f:Fc->BitVec 64}{e:El}{k:Int}(h:mJ s=true)(he:e=ng (gI s f) df k)(k0:0<=k)(k1:k<s.a6.length):tK e k.toNat (f (s.a6.getD k.toNat vV))=ng (gI s f) df (k+1):=by grind[uX,SJ]
theorem adU{s:Sh}{f:Fc->BitVec 64}{e:El}{k:Int}(h:mJ s=true)(he:e=ng (gI s f) df k)(k0:0<=k)(k1:k<s.a6.length)(hf:f (s.a6.getD k.toNat vV)=0#64):e=ng (gI s f) df (k+1):=by
 subst he
 funext i
 unfold ng
 by_cases h1:(i:Int)<k
 .rw[aY h1,aY J]
 rw[aW h1]
 by_cases h2:(i:Int)<k+1
 .rw[aY h2,show i=k.toNat by omega,SJ h J,hf];rfl
 rw[aW h2]
theorem ahs{a b e:El}{k:Int}(he:e=ng (pe a b) a k)(k0:0<=k):tK e k.toNat (e k.toNat&&&b k.toNat)=ng (pe a b) a (k+1):=by
 subst he
 exact uX k0 (by rw[Y1 k0];rfl)
theorem adV{a b e:El}{k:Int}(he:e=ng (pe a b) df k)(k0:0<=k):tK e k.toNat (a k.toNat&&&b k.toNat)=ng (pe a b) df (k+1):=by
 subst he
 exact uX k0 O
theorem amJ(e:El)(i:Nat)(x y:BitVec 64):tK (tK e i x) i y=tK e i y:=by grind[tK]
theorem abx{s:Sh}{a b:El}{k:Int}(k0:0<=k)(k1:k<s.a6.length)(h4:(s.a6.getD k.toNat vV).kind=4):eo s a b k.toNat=jr (s.a6.getD k.toNat vV).rel (a k.toNat) (b k.toNat):=aY ⟨J,h4⟩
theorem aby{s:Sh}{a b:El}{k:Int}(k0:0<=k)(h:¬(k<s.a6.length/\(s.a6.getD k.toNat vV).kind=4)):eo s a b k.toNat=a k.toNat|||b k.toNat:=aW fun hc=>h ⟨J,hc.2⟩
def IT(t:Bool):Fc->BitVec 64:=if t=true then FF else ez
theorem aht:IT false=ez:=rfl
theorem Y7:IT true=FF:=rfl
theorem awU{f:Fc}{t:Bool}(h:f.kind=4):bQ f.rel (wT f.rel (if t=true then bQ f.rel else gx f.rel)).1=IT t f:=by
 cases t with
 |true=>
  show bQ f.rel (wT f.rel (bQ f.rel)).1=FF f
  rw[FF,aW J,aW J,aW J]
 |false=>
  show bQ f.rel (wT f.rel (gx f.rel)).1=ez f
  rw[ez,aW J]
theorem awV{f:Fc}{t:Bool}(ht:t=true)(h:f.kind=3):Ka f.rel=IT t f:=by simp_all[Y7,FF]
theorem awW{f:Fc}{t:Bool}(ht:t=true)(h:f.kind=2):below f.names.length=IT t f:=by simp_all[Y7,FF]
theorem end_1{f:Fc}{t:Bool}(hf:cZ f=true)(ht:t=true)(h2:¬f.kind=2)(h3:¬f.kind=3)(h4:¬f.kind=4):below (f.names.length-1)=IT t f:=by
 subst ht
 have hn:=(pO hf).1
 rcases vY hf with k|k|k|k
 .rw[Y7,FF,aY k,awD,aY J]
 .exact absurd k h2
 .exact absurd k.1 h3
 exact absurd k h4
theorem awX{f:Fc}{t:Bool}(ht:t=false)(h4:¬f.kind=4):IT t f=0#64:=by simp_all[aht,ez]
def Pc(l:List Tx):Bool:=decide (70<l.length)||l.any fun t=>decide (40<t.size)
def Vh(s:Sh):Bool:=decide (12<s.a6.length)||s.a6.any fun f=>Pc f.names
theorem awY{s:Sh}(h:12<s.a6.length):Vh s=true:=by grind[Vh]
theorem apu{s:Sh}{k:Int}(k0:0<=k)(k1:k<s.a6.length)(h:Pc (s.a6.getD k.toNat vV).names=true):Vh s=true:=by
 rw[Vh,qj,Ff]
 exact .inr ⟨_,lX (fG (d:=vV) k0 k1),h⟩
theorem asb{l:List Tx}(h:70<l.length):Pc l=true:=by grind[Pc]
theorem asc{l:List Tx}{k:Int}(k0:0<=k)(k1:k<l.length)(h:40<(l.getD k.toNat qt).size):Pc l=true:=by
 rw[Pc,qj,Ff]
 exact .inr ⟨_,lX (fG (d:=qt) k0 k1),gY h⟩
theorem amK{l:List Tx}{k:Int}(h:¬70<l.length)(hk:¬k<l.length)(hf:∀j:Int,0<=j->j<k->¬40<(l.getD j.toNat qt).size):Pc l=false:=by
 rw[Pc,hG h,Bool.false_or,Yb]
 intro x hx
 obtain⟨i,hi,rfl⟩:=ur hx
 have:=hf i J J
 rw[eC,eV,eF hi]at this
 simpa using this
theorem asd{s:Sh}{k:Int}(h:¬12<s.a6.length)(hk:¬k<s.a6.length)(hf:∀j:Int,0<=j->j<k->Pc (s.a6.getD j.toNat vV).names=false):Vh s=false:=by
 rw[Vh,hG h,Bool.false_or,Yb]
 intro x hx
 obtain⟨i,hi,rfl⟩:=ur hx
 have:=hf i J J
 rw[eC,eV,eF hi]at this
 simpa using this
end Go.Proofs.YtlhjdflgjbkpmaaGreatDoor.M
namespace Go.Proofs.YtlhjdflgjbkpmaaGreatDoor.E
section
open Go Go.RowKit Go.Proofs.YtlhjdflgjbkpmaaGreatDoor.M
theorem adW{s:kW}{a b e:El}{k:Int}(he:e=ng (eo s.sh a b) a k)(k0:0<=k)(k1:k<s.a6.length)(h4:(s.a6.getD k.toNat iB).kind=4):tK e k.toNat (jr (s.a6.getD k.toNat iB).rel (e k.toNat) (b k.toNat))=ng (eo s.sh a b) a (k+1):=by
 subst he
 exact uX k0 (by rw[Y1 k0,abx k0 (by rw[pB];exact k1) (by rw[iE];exact h4),iE];rfl)
theorem Qa{s:kW}{a b e:El}{k:Int}(he:e=ng (eo s.sh a b) a k)(k0:0<=k)(h:¬(k<s.a6.length/\(s.a6.getD k.toNat iB).kind=4)):tK e k.toNat (e k.toNat|||b k.toNat)=ng (eo s.sh a b) a (k+1):=by
 subst he
 exact uX k0 (by rw[Y1 k0,aby k0 (by rw[pB,iE];exact h)])
theorem Y8{s:kW}{a b e:El}{k:Int}{x:BitVec 64}(he:e=ng (eo s.sh a b) df k)(k0:0<=k)(k1:k<s.a6.length)(h4:(s.a6.getD k.toNat iB).kind=4):tK (tK e k.toNat x) k.toNat (jr (s.a6.getD k.toNat iB).rel (a k.toNat) (b k.toNat))=ng (eo s.sh a b) df (k+1):=by
 subst he
 rw[amJ]
 exact uX k0 (by rw[abx k0 (by rw[pB];exact k1) (by rw[iE];exact h4),iE];rfl)
theorem MR{s:kW}{a b e:El}{k:Int}(he:e=ng (eo s.sh a b) df k)(k0:0<=k)(h:¬(k<s.a6.length/\(s.a6.getD k.toNat iB).kind=4)):tK e k.toNat (a k.toNat|||b k.toNat)=ng (eo s.sh a b) df (k+1):=by
 subst he
 exact uX k0 (by rw[aby k0 (by rw[pB,iE];exact h)])
def yj(s:kW):List Value:=[B s.tuple,s.fv]
theorem MS(s:kW):(yj s).length=2:=rfl
def Ed:kW:=⟨false,.slice none 0 0,[]⟩
structure Qb(K:Vu)(l:List kW):Prop where
 each:∀s∈l,lm K s
theorem Qb.at{K:Vu}{l:List kW}(h:Qb K l){k:Int}(h0:0<=k)(h1:k<l.length):lm K (l.getD k.toNat Ed):=h.each _ (lX (fG (d:=Ed) h0 h1))
theorem Qb.mono{K K':Vu}{l:List kW}(h:Qb K l)(hl:Le K K'):Qb K' l:=⟨fun s hs=>(h.each s hs).mono hl⟩
structure tM(K:Vu)(l:List qI):Prop where
 each:∀f∈l,wU K f
theorem tM.mono{K K':Vu}{l:List qI}(h:tM K l)(hl:Le K K'):tM K' l:=⟨fun s hs=>(h.each s hs).mono hl⟩
theorem tM.nil(K:Vu):tM K []:=⟨fun f hf=>by simp at hf⟩
theorem tM.snoc{K:Vu}{l:List qI}{f:qI}(h:tM K l)(hf:wU K f):tM K (l++[f]):=⟨fun x hx=>by
 rcases fh.1 hx with hx|hx
 .exact h.each x hx
 simp at hx;subst hx;exact hf⟩
theorem tM.app{K:Vu}{l m:List qI}(h:tM K l)(hf:tM K m):tM K (l++m):=⟨fun x hx=>by
 rcases fh.1 hx with hx|hx
 .exact h.each x hx
 exact hf.each x hx⟩
theorem tM.at{K:Vu}{l:List qI}(h:tM K l){k:Int}(h0:0<=k)(h1:k<l.length):wU K (l.getD k.toNat iB):=h.each _ (lX (fG (d:=iB) h0 h1))
def Bj(l:List kW):List Fc:=l.flatMap fun s=>s.sh.a6
theorem adX{l:List kW}{k:Int}(h0:0<=k)(h1:k<l.length):Bj (l.take (k+1).toNat)=Bj (l.take k.toNat)++(l.getD k.toNat Ed).sh.a6:=by
 have h2:k.toNat<l.length:=J
 rw[show(k+1).toNat=k.toNat+1 by omega,xS,Bj,Gn,eV,eF h2]
 simp[Bj]
theorem ahu{l:List kW}{k:Int}(h:¬k<l.length):Bj (l.take k.toNat)=Bj l:=by grind[List.take_of_length_le]
theorem IU{l:List qI}{k:Int}(h0:0<=k)(h1:k<l.length):(l.take (k+1).toNat).map qI.fc=(l.take k.toNat).map qI.fc++[(l.getD k.toNat iB).fc]:=by
 have h2:k.toNat<l.length:=J
 rw[show(k+1).toNat=k.toNat+1 by omega,xS,gP,eV,eF h2]
 simp
theorem amL{b:Bool}{v:Value}(h:v.oneCell'=true):∀u∈(#[B b,v]:Array Value),u.oneCell'=true:=fun u hu=>by
 simp only[LF,c8,List.not_mem_nil,Ck]at hu
 rcases hu with rfl|rfl
 .rfl
 exact h
theorem amM{Z L:List bu}{i:Nat}{x:bu}(h:L[i]?=some x):(Z++L)[Z.length+i]?=some x:=by grind
theorem MT{K:Vu}{f:qI}(h:wU K f):∀u∈[f].flatMap sS,u.oneCell'=true:=by simpa using Vb h
theorem adY{K:Vu}{f:qI}{v:Value}(h:wU K f)(hv:v.oneCell'=true):∀u∈sS {f with nv:=v},u.oneCell'=true:=by
 intro u hu
 rw[sS,c8,c8]at hu
 rcases hu with rfl|rfl|hu
 .rfl
 .exact hv
 exact Ml f.rel u (by rw[jq];simpa using hu)
section runs
variable{P:Program}{σ:Env}{w:World}{dst:Option Tmp}{ty t u e:TypeId}{pos:String}{bO:Array Edge}{g:Option (Nat×Bool)}{x y:Operand}{b:Nat}{fr:Nat×Nat}
theorem Y9{f f0:qI}(h:∀u∈sS f,u.oneCell'=true)(hi:(P.info? t).map (·.size)=some 67)(hx:ev σ x= .pointer (some ⟨b,0,none⟩))(hy:ev σ y= .agg (uY f))(hg:w.heap[b]?=some (.cells (uY f0) e (0,0))):
 (execOp (ev σ) ⟨dst,.store t x y,ty,pos,bO,g⟩).run P w= .ok .skip (w.setRow b (uY f)):=by grind[dK,fC]
theorem Za{f:qI}{v:Value}(hi:(P.info? t).map (·.size)=some 1)(hx:ev σ x= .pointer (some ⟨b,0+1,none⟩))(hy:ev σ y=v)(hv:v.cells=#[v])(h1:v.oneCell'=true)(hg:w.heap[b]?=some (.cells (uY f) e (0,0))):
  (execOp (ev σ) ⟨dst,.store t x y,ty,pos,bO,g⟩).run P w= .ok .skip (w.setRow b (uY {f with nv:=v})):=by
 have h:=bK (P:=P) (dst:=dst) (ty:=ty) (pos:=pos) (bO:=bO) (g:=g) hi hx hy hv h1 hg (by simp[fC])
 rw[h];congr 2
theorem ahv{K:Vu}{s:kW}(h:lm K s):∀u∈qW s,u.oneCell'=true:=by
 intro u hu
 have h1:=jG h.a6
 simp at hu
 rcases hu with rfl|rfl
 .rfl
 exact h1.1
theorem DY{K:Vu}{s:kW}{c:Array Value}(h:lm K s)(hi:(P.info? t).map (·.size)=some 2)(hx:ev σ x= .pointer (some ⟨b,0,none⟩))(hy:ev σ y= .agg (qW s))(hg:w.heap[b]?=some (.cells c e (0,0)))(hc:c.size=2):
 (execOp (ev σ) ⟨dst,.store t x y,ty,pos,bO,g⟩).run P w= .ok .skip (w.setRow b (qW s)):=by grind[dK,ahv]
theorem Aj{len:Nat}{ps:List (Nat×Operand)}{l:List qI}{ie:TypeInfo}{z:Value}
  (hu:P.underlying t=some (.slice e)) (hie:P.info? e=some ie) (hz:ie.zero=some z) (hsz:ie.size=67) (hl:l.length=len) (hsmall:¬len*67>2^24) (hpos:¬len*67=0)
  (h:ps.map (fun p=>(p.1,ev σ p.2))=((l.map fun f=>Value.agg (uY f)).zipIdx.map fun p=>(p.2,p.1))):
  (execOp (ev σ) ⟨dst,.buildSlice t len ps.toArray,ty,pos,bO,g⟩).run P w= .ok (.value (.slice (some ⟨w.heap.size,0,none⟩) len len)) (w.alloc (.cells (l.flatMap sS).toArray e)):=by
 have h2:=cA (P:=P) (σ:=σ) (w:=w) (dst:=dst) (ty:=ty) (pos:=pos) (bO:=bO) (g:=g) (vs:=l.map fun f=>Value.agg (uY f)) (sz:=67) hu hie hz hsz (by rw[gA];exact hl) hsmall hpos h (by
  rw[iQ];intro v hv
  rw[fN]at hv
  obtain⟨r,_,rfl⟩:=hv
  simp[Value.cells,fC])
 have h3:(l.map fun f=>Value.agg (uY f)).flatMap (·.cells.toList)=l.flatMap sS:=by
  rw[Yf];rfl
 rw[h3]at h2;exact h2
theorem MU{len:Nat}{ps:List (Nat×Operand)}{l:List kW}{ie:TypeInfo}{z:Value}
  (hu:P.underlying t=some (.slice e)) (hie:P.info? e=some ie) (hz:ie.zero=some z) (hsz:ie.size=2) (hl:l.length=len) (hsmall:¬len*2>2^24) (hpos:¬len*2=0)
  (h:ps.map (fun p=>(p.1,ev σ p.2))=((l.map fun f=>Value.agg (qW f)).zipIdx.map fun p=>(p.2,p.1))):
  (execOp (ev σ) ⟨dst,.buildSlice t len ps.toArray,ty,pos,bO,g⟩).run P w= .ok (.value (.slice (some ⟨w.heap.size,0,none⟩) len len)) (w.alloc (.cells (l.flatMap yj).toArray e)):=by
 have h2:=cA (P:=P) (σ:=σ) (w:=w) (dst:=dst) (ty:=ty) (pos:=pos) (bO:=bO) (g:=g) (vs:=l.map fun f=>Value.agg (qW f)) (sz:=2) hu hie hz hsz (by rw[gA];exact hl) hsmall hpos h (by
  rw[iQ];intro v hv
  rw[fN]at hv
  obtain⟨r,_,rfl⟩:=hv
  simp[Value.cells])
 have h3:(l.map fun f=>Value.agg (qW f)).flatMap (·.cells.toList)=l.flatMap yj:=by
  rw[Yf];rfl
 rw[h3]at h2;exact h2
theorem Hp.gR{w0 w:World}{L:List bu}{i b:Nat}{α:Type}{cl:α->List Value}{sz:Nat}{l:List α}{e:TypeId}(hsz:∀a,(cl a).length=sz)(h:Hp w0 w L)(hi:L[i]?=some (.blk b (.cells (l.flatMap cl).toArray e (0,0))))(hs:l.length<=maxLen):
  Sl w (.slice (some ⟨b,0,none⟩) l.length l.length) sz l.length (l.flatMap cl):=by
 have h2:=h.dU (n:=l.length) (sz:=sz) hi (by rw[vz,fO hsz]) hs
 exact h2
def aDX(v:Value)(sz i j:Nat):Value:=
 match v with
 | .slice (some a) _ c=> .slice (some ⟨a.block,a.off+i*sz,none⟩) (j-i) (c-i)
 |v=>v
theorem Sl.part{v:Value}{sz n:Nat}{cells:List Value}(h:Sl w v sz n cells){i j:Nat}(hij:i<j)(hj:j<=n):Sl w (aDX v sz i j) sz (j-i) ((cells.drop (i*sz)).take ((j-i)*sz)):=by
 obtain⟨a,cap,hv,hnc,ha⟩:=h.shape
 have ha':=ha J
 subst ha'
 rw[hv]at ha⊢
 have hb1:sb v=sb (.slice (some ⟨sb v,so v,none⟩) n cap):=rfl
 refine⟨⟨_,cap-i,rfl,J,fun _=>rfl⟩,?_,fun k c hc=> ?_,by have:=h.small;omega⟩
 .have h1:i*sz+(j-i)*sz<=n*sz:=by
   rw[<-lF];exact sr _ J
  rw[ef,yK,h.len];omega
 rw[vx]at hc
 split at hc
 .rw[Cb]at hc
  have:=h.cell _ _ hc
  show w.cell? ⟨sb v,so v+i*sz+k,none⟩=some c
  rw[xW];exact this
 .cases hc
end runs
theorem Hp.amN{w0 w:World}{Z L:List bu}(h:Hp w0 w (Z++L)):Hp w0 w (L++Z):=h.perm uq
theorem Vi{s:Sh}{a b:El}(hs:s.a6.length<=8)(h:sx a b):nh s a=nh s b:=by
 rw[nh,nh,FG,FG]
 congr 1
 refine HR fun x hx=> ?_
 have:=cJ.1 hx
 rw[h x.toNat J]
def aDY:List Tx:=[⟨#[97]⟩,⟨#[98]⟩,⟨#[99]⟩]
def aDZ:List Tx:=[⟨#[120]⟩,⟨#[121]⟩]
def aM1:Sh:=⟨true,[⟨1,aDY,Rl.none⟩,⟨2,aDZ,Rl.none⟩]⟩
theorem aD0{P:Program}{n:Nat}{k:K}{xs:List (Nat×K)}{r:K}{σ:Env}{w:World}{x y:Code}(ws:List Nat)(R:K)(h:CW P n x (fun s w=>Fr ws σ s/\R s w) xs r σ w)(h':∀s w,Fr ws σ s->R s w->CW P n y k xs r s w):CW P n (.seq x y) k xs r σ w:=by grind[aga]
theorem asf{P:Program}{n:Nat}{l:List Oper}{S:World->Prop}{k:K}{σ:Env}{w:World}{fuel:Nat}{listed:Array Bool}(i j m:Nat)(hr:Region.ready .any l.toArray listed=[i,j,m])(h1:AO P n l S k fuel listed σ w i)(h2:AO P n l S k fuel listed σ w j)(h3:AO P n l S k fuel listed σ w m):AN P n l S k (fuel+1) listed σ w:=by simp_all[abb]
section runs
variable{P:Program}{σ:Env}{w:World}{dst:Option Tmp}{ty t u e:TypeId}{pos:String}{bO:Array Edge}{g:Option (Nat×Bool)}{x y:Operand}{b:Nat}{fr:Nat×Nat}
theorem iN{d:TypeDesc}{o:Nat}{cs:Array Value}{sub:List Value}(hu:P.underlying t=some d)(hd:d.isRow=true)(hi:(P.info? t).map (·.size)=some sub.length)(hx:ev σ x= .pointer (some ⟨b,o,none⟩))
  (hg:w.heap[b]?=some (.cells cs e fr)) (hc:(cs.toList.drop o).take sub.length=sub):(execOp (ev σ) ⟨dst,.load t x,ty,pos,bO,g⟩).run P w= .ok (.value (.agg sub.toArray)) w:=by
 refine cC hu hd hi hx fun j c hj=> ?_
 rw[xX w _ _ _ _ _ hg]
 have hl:=(n7.1 hj).1
 rw[<-hc,vx,aY hl,Cb]at hj
 simpa using hj
theorem Qc{o:Nat}{c:Array Value}{sub c':List Value}(hi:(P.info? t).map (·.size)=some sub.length)(hx:ev σ x= .pointer (some ⟨b,o,none⟩))(hy:ev σ y= .agg sub.toArray)(h1:∀u∈sub,u.oneCell'=true)
  (hg:w.heap[b]?=some (.cells c e (0,0))) (ho:o+sub.length<=c.size) (hc:c.toList.take o++sub++c.toList.drop (o+sub.length)=c'):
  (execOp (ev σ) ⟨dst,.store t x y,ty,pos,bO,g⟩).run P w= .ok .skip (w.setRow b c'.toArray):=by
 have hs:=Aa (P:=P) (off:=o) hg sub ho h1
 have hz:(sizeOf t).run P w= .ok sub.length w:=by
  cases hq:P.info? t with
  |none=>simp[hq]at hi
  |some i=>simp[hq]at hi;simp[sizeOf,typeInfo,hq,hi]
 rw[hc]at hs
 simp[execOp,hx,hy,Instr.storeAt,Instr.sureAddr,storeVar,Value.cells,hz,hs]
variable{α:Type}{cl:α->List Value}{sz:Nat}
theorem lJ{len:Nat}{ps:List (Nat×Operand)}{l:List α}{ie:TypeInfo}{z:Value}(oF:∀a,(cl a).length=sz)
  (hu:P.underlying t=some (.slice e)) (hie:P.info? e=some ie) (hz:ie.zero=some z) (hsz:ie.size=sz) (hl:l.length=len) (hsmall:¬len*sz>2^24) (hpos:¬len*sz=0)
  (h:ps.map (fun p=>(p.1,ev σ p.2))=((l.map fun f=>Value.agg (cl f).toArray).zipIdx.map fun p=>(p.2,p.1))):
  (execOp (ev σ) ⟨dst,.buildSlice t len ps.toArray,ty,pos,bO,g⟩).run P w= .ok (.value (.slice (some ⟨w.heap.size,0,none⟩) len len)) (w.alloc (.cells (l.flatMap cl).toArray e)):=by
 have h2:=cA (P:=P) (σ:=σ) (w:=w) (dst:=dst) (ty:=ty) (pos:=pos) (bO:=bO) (g:=g) (vs:=l.map fun f=>Value.agg (cl f).toArray) (sz:=sz) hu hie hz hsz (by rw[gA];exact hl) hsmall hpos h (by
  rw[iQ];intro v hv
  rw[fN]at hv
  obtain⟨r,_,rfl⟩:=hv
  simp[Value.cells,oF])
 have h3:(l.map fun f=>Value.agg (cl f).toArray).flatMap (·.cells.toList)=l.flatMap cl:=by
  rw[Yf]
  show(l.flatMap fun f=>(cl f).toArray.toList)=_
  simp
 rw[h3]at h2;exact h2
theorem bZ{w1:World}{v:Value}{n1 n2:Nat}{cells:List Value}{d:TypeDesc}{o:Nat}(_hS:Sl w1 v n1 n2 cells)(hu:P.underlying t=some d)(hd:d.isRow=false)(hx:ev σ x= .pointer (some ⟨b,o,none⟩))(hc:w.cell? ⟨b,o,none⟩=some v):
 (execOp (ev σ) ⟨dst,.load t x,ty,pos,bO,g⟩).run P w= .ok (.value v) w:=aE hu hd hx hc
theorem ahw{a cs:List Value}{o:Nat}(h:(a.drop o).take cs.length=cs):∀(j:Nat) (c:Value),cs[j]?=some c->a[o+j]?=some c:=by grind
end runs
structure aD1(P:Program)(d:Nat)(xs ys:Array Value)(f:Field)(b:Bool):Prop where
 nm:f.name≠ "_"
 run:∃u v,(∀w,(part f.type xs f.offset).run P w= .ok u w)/\(∀w,(part f.type ys f.offset).run P w= .ok v w)/\∀w,(Op.equalIn d f.type u v).run P w= .ok b w
inductive Vj(P:Program)(d:Nat)(xs ys:Array Value):List Field->List Bool->Prop
 |nil:Vj P d xs ys [] []
 |cons {f:Field} {fs:List Field} {b:Bool} {bs:List Bool} (h:aD1 P d xs ys f b) (hs:Vj P d xs ys fs bs):Vj P d xs ys (f::fs) (b::bs)
theorem Vj.eq{P:Program}{d:Nat}{xs ys:Array Value}{fs:List Field}{bs:List Bool}(h:Vj P d xs ys fs bs)(w:World):(Op.eqFields d xs ys fs).run P w= .ok (bs.all id) w:=by
 induction h with
 |nil=>rfl
 |cons h _ ih=>
  obtain⟨u,v,h1,h2,h3⟩:=h.run
  rename_i b bs _
  simp only[Op.eqFields,h.nm,ne_eq,X9,uB,uw,h1,h2,h3,xR]
  cases b with
  |true=>simpa using ih
  |false=>simp
structure EqT(P:Program)(t:TypeId)(xs ys:Array Value)(c:Bool):Prop where
 eg:P.eqGuardType P.depth t=false
 eq:∀w,(Op.equalIn 10000 t (.agg xs) (.agg ys)).run P w= .ok c w
theorem EqT.conv{P:Program}{t:TypeId}{xs ys:Array Value}{c c':Bool}(h:EqT P t xs ys c)(e:c=c'):EqT P t xs ys c':=e▸h
section
variable{P:Program}{d:Nat}{xs ys:Array Value}{f:Field}
end
section
variable{P:Program}{σ:Env}{w:World}{dst:Option Tmp}{ty t u:TypeId}{pos:String}{bO:Array Edge}{g:Option (Nat×Bool)}{x y:Operand}{xs ys:Array Value}{c:Bool}
end
theorem FH{P:Program}{n:Nat}{k:K}{xs:List (Nat×K)}{r:K}{σ:Env}{w0 w:World}{x y:Code}{L:List bu}{G:Type}(_hH:Hp w0 w L)(ws:List Nat)(up:List bu->G->List bu)(Q:G->Env->Prop)
 (h:CW P n x (fun s w'=>Fr ws σ s/\∃g,Hp w0 w' (up L g)/\Q g s) xs r σ w) (h':∀g s w',Fr ws σ s->Hp w0 w' (up L g)->Q g s->CW P n y k xs r s w'):CW P n (.seq x y) k xs r σ w:=by grind[aga]
theorem Le.Gh{K:Vu}{Z Y:List bu}:Le (Kz K Z) (Kz K (Y++Z)):=by grind[Le.zz]
def aM2(q:Value->World->Prop)(e:Ending)(w:World):Prop:=j3 q e w
section calls
variable{P:Program}{n:Nat}{ops:Array Oper}{k:K}{rest:List Oper}{σ:Env}{w0 w:World}{L:List bu}{op:Op}{ty:TypeId}{pos:String}{bO:Array Edge}{d:Nat}{q:Value->World->Prop}
theorem cG{f:FuncId}{args:Array Value}(hd:Nat.blt d n=true)(hc:Calls P f args w (j3 q))
  (hr:(execOp (ev σ) ⟨some d,op,ty,pos,bO,none⟩).run P w= .ok (.enter f args) w)
  (hk:∀v w',q v w'->RL P n ops k rest (me σ d v) w'):RL P n ops k (⟨some d,op,ty,pos,bO,none⟩::rest) σ w:=
 Im hd hr hc hk
variable{l:List Oper}{i fuel:Nat}{listed:Array Bool}{g:Option (Nat×Bool)}{L':List bu}
theorem yl{f:FuncId}{args:Array Value}(hi:l[i]?=some ⟨some d,op,ty,pos,bO,g⟩)(hg:∀a,Is n σ a->Region.wanted ⟨some d,op,ty,pos,bO,g⟩ (yielded l.toArray a.tmps)=true)(hd:Nat.blt d n=true)
 (hc:Calls P f args w (j3 q)) (hr:(execOp (ev σ) ⟨some d,op,ty,pos,bO,g⟩).run P w= .ok (.enter f args) w)
 (hs:∀v w',q v w'->Hp w0 w' L)
 (h:∀v w',q v w'->AN P n l (fun w=>Hp w0 w L) k fuel (listed.setIfInBounds i true) (me σ d v) w'):AO P n l (fun w=>Hp w0 w L) k fuel listed σ w i:=by grind[St]
end calls
section
variable{P:Program}{fn:Func}{w0 w:World}{L:List bu}{i j p p2 t:Nat}{q:Value->World->Prop}{d d2:TypeDesc}{c c2:Array Value}{ty ty2 e e2:TypeId}{b b2:Nat}{fr Vk:Nat×Nat}{σ:Env}{v:Value}
theorem EK(h:fn.results=#[.cell p ty,.tmp t])(hp:σ p= .pointer (some ⟨b,0,none⟩))(ht:σ t=v)(hH:Hp w0 w L)
  (hi:L[i]?=some (.blk b (.cells c e fr))) (hu:P.underlying ty=some d) (hd:d.isRow=true) (hz:(P.info? ty).map (·.size)=some c.size) (hq:q (.tuple #[.agg c,v]) w):Out P fn q σ w:=
 fun n a ha=>⟨_,by
  have h1:a.tmps[p]?.getD undef= .pointer (some ⟨b,0,none⟩):=by have:=ha.get p;rw[hp]at this;simpa using this
  have h2:a.tmps[t]?.getD undef=v:=by have:=ha.get t;rw[ht]at this;simpa using this
  simp[results,h,h1,h2,asAddr,run_loadVar_row (P:=P) w b e ty c fr d (hH.blk hi) hu (by cases d<;>simp_all) hz],hq⟩
end
end
end Go.Proofs.YtlhjdflgjbkpmaaGreatDoor.E
namespace Go.Proofs.YtlhjdflgjbkpmaaGreatDoor.M
section
open Go
structure sV where
 name:Tx
 kind:Int
 bf:Int
deriving DecidableEq
structure Wd where
 text:Tx
 place:Int
structure Flt where
 cls:Int
 place:Int
deriving DecidableEq
def awZ:Flt:=⟨0,0⟩
def wd0:Wd:=⟨qt,0⟩
def fq:sV:=⟨qt,0,0⟩
def aw0(b f:Flt):Flt:=if f.cls≠0/\(b.cls=0\/f.cls<b.cls\/(f.cls=b.cls/\f.place<b.place))then f else b
def aCG(l:List Flt)(k:Int):Flt:=(l.take k.toNat).foldl aw0 awZ
def aD3(l:List Wd):List Tx:=l.map Wd.text
end
end Go.Proofs.YtlhjdflgjbkpmaaGreatDoor.M
namespace Go.Proofs.YtlhjdflgjbkpmaaGreatDoor.E
section
open Go Go.RowKit Go.Proofs.YtlhjdflgjbkpmaaGreatDoor.M
structure Ee where
 name:Tx
 zH:kW
def mP:Ee:=⟨qt,Ed⟩
def MV(l:Ee):List Value:=[S l.name,B l.zH.tuple,l.zH.fv]
theorem oG(l:Ee):(MV l).length=3:=rfl
def O8(v:sV):List Value:=[S v.name,I v.kind,I v.bf]
theorem tN(v:sV):(O8 v).length=3:=rfl
def wdL(x:Wd):List Value:=[S x.text,I x.place]
def aM3(f:Flt):List Value:=[I f.cls,I f.place]
structure lQ where
 lv:Value
 aq:List Ee
 vv:Value
 vars:List sV
abbrev MW(s:lQ):Array Value:=#[s.lv,s.vv]
structure Ef(K:Vu)(s:lQ):Prop where
 aq:oE K s.lv 3 s.aq.length (s.aq.flatMap MV)
 vars:oE K s.vv 3 s.vars.length (s.vars.flatMap O8)
 each:∀l∈s.aq,lm K l.zH
theorem Ef.mono{K K':Vu}{s:lQ}(h:Ef K s)(hl:Le K K'):Ef K' s:=⟨h.aq.mono hl,h.vars.mono hl,fun l hm=>(h.each l hm).mono hl⟩
theorem Ef.at{K:Vu}{s:lQ}(h:Ef K s){k:Int}(h0:0<=k)(h1:k<s.aq.length):lm K (s.aq.getD k.toNat mP).zH:=h.each _ (lX (fG (d:=mP) h0 h1))
theorem Vl{K:Vu}{l:Ee}(h:lm K l.zH):∀u∈(MV l).toArray,u.oneCell'=true:=by
 intro u hu
 have h1:=jG h.a6
 simp[MV]at hu
 rcases hu with rfl|rfl|rfl
 .rfl
 .rfl
 exact h1.1
section
variable{P:Program}{σ:Env}{w:World}{dst:Option Tmp}{ty t e:TypeId}{pos:String}{bO:Array Edge}{g:Option (Nat×Bool)}{x:Operand}{b:Nat}{fr:Nat×Nat}
end
theorem GL{α:Type}{l:List α}{d:α}{P:α->Bool}{k:Int}(h0:0<=k)(h1:k<l.length)(h:P (l.getD k.toNat d)=true):l.any P=true:=by grind
theorem SO{α:Type}{l:List α}{d:α}{P:α->Bool}{k:Int}(hk:¬k<l.length)(h:∀j:Int,0<=j->j<k->P (l.getD j.toNat d)=false):l.any P=false:=by grind[List.any_eq_false,List.getElem_of_mem,Int.toNat_natCast,List.getElem?_eq_getElem]
def Vm(l:Ee):Bool:=Vh l.zH.sh||decide (40<l.name.size)
def asi(v:sV):Bool:=decide (40<v.name.size)
def wc(s:lQ):Bool:=decide (20<s.aq.length\/80<s.vars.length)||s.aq.any Vm||s.vars.any asi
def abz(s:lQ)(t:Tx):Int:=tH (fun i=>decide ((s.aq.getD i.toNat mP).name=t)) s.aq.length
def aCH(s:lQ)(t:Tx):Int:=tH (fun i=>decide ((s.vars.getD i.toNat fq).name=t)) s.vars.length
def aJ8(s:lQ)(l:List Wd):List kW:=l.filterMap fun x=>if 0<=abz s x.text then some (s.aq.getD (abz s x.text).toNat mP).zH else none
inductive fD where
 |mk (kind place:Int) (text:Tx) (nv:Value) (names:List Wd) (kv:Value) (kids:List fD)
def fD.kind:fD->Int
 | .mk k _ _ _ _ _ _=>k
def fD.place:fD->Int
 | .mk _ p _ _ _ _ _=>p
def fD.text:fD->Tx
 | .mk _ _ t _ _ _ _=>t
def fD.nv:fD->Value
 | .mk _ _ _ v _ _ _=>v
def fD.names:fD->List Wd
 | .mk _ _ _ _ l _ _=>l
def fD.kv:fD->Value
 | .mk _ _ _ _ _ v _=>v
def fD.kids:fD->List fD
 | .mk _ _ _ _ _ _ k=>k
def ahx(n:fD):List Value:=[I n.kind,I n.place,S n.text,n.nv,n.kv]
inductive rJ(K:Vu):fD->Prop
 |mk {kind place:Int} {text:Tx} {nv:Value} {names:List Wd} {kv:Value} {kids:List fD} (hn:oE K nv 2 names.length (names.flatMap wdL)) (hk:oE K kv 5 kids.length (kids.flatMap ahx)) (each:∀x∈kids,rJ K x):rJ K (.mk kind place text nv names kv kids)
abbrev Pw:=Wd×Wd
def pwL(p:Pw):List Value:=[S p.1.text,I p.1.place,S p.2.text,I p.2.place]
structure amP where
 op:Int
 place:Int
 name:Wd
 nv:Value
 names:List Wd
 pv:Value
 pairs:List Pw
 pat:Int
 left:fD
 right:fD
def aM5(c:amP):List Value:=[I c.op,I c.place,S c.name.text,I c.name.place,c.nv,c.pv,I c.pat]++ahx c.left++ahx c.right
structure asj(K:Vu)(c:amP):Prop where
 names:oE K c.nv 2 c.names.length (c.names.flatMap wdL)
 pairs:oE K c.pv 4 c.pairs.length (c.pairs.flatMap pwL)
 left:rJ K c.left
 right:rJ K c.right
theorem Ak(l:Ee):∀(j:Nat) (c:Value),(yj l.zH)[j]?=some c->(MV l)[1+j]?=some c:=by grind[Ee,yj,MV]
def pw0:Pw:=(wd0,wd0)
def CM(s:lQ):List Value:=[s.lv,s.vv]
def aM6:lQ:=⟨.slice none 0 0,[],.slice none 0 0,[]⟩
theorem SP{K:Vu}{v:Value}{sz n:Nat}{c:List Value}(h:oE K v sz n c):v.oneCell'=true/\v.cells=#[v]:=jG h
def MX:fD:= .mk 0 0 qt (.slice none 0 0) [] (.slice none 0 0) []
theorem rJ.each{K:Vu}{n:fD}(h:rJ K n):∀x∈n.kids,rJ K x:=by cases h;assumption
theorem rJ.at{K:Vu}{n:fD}(h:rJ K n){k:Int}(h0:0<=k)(h1:k<n.kids.length):rJ K (n.kids.getD k.toNat MX):=h.each _ (lX (fG (d:=MX) h0 h1))
theorem rJ.mono{K K':Vu}(hl:Le K K'){n:fD}(h:rJ K n):rJ K' n:=by
 induction h with
 |mk hn hk _ ih=>exact .mk (hn.mono hl) (hk.mono hl) ih
def aM7:amP:=⟨0,0,wd0,.slice none 0 0,[],.slice none 0 0,[],0,MX,MX⟩
theorem asj.mono{K K':Vu}{c:amP}(h:asj K c)(hl:Le K K'):asj K' c:=⟨h.names.mono hl,h.pairs.mono hl,rJ.mono hl h.left,rJ.mono hl h.right⟩
structure ym(K:Vu)(l:List fD):Prop where
 each:∀x∈l,rJ K x
theorem ym.mono{K K':Vu}{l:List fD}(h:ym K l)(hl:Le K K'):ym K' l:=⟨fun x hx=>rJ.mono hl (h.each x hx)⟩
theorem ym.at{K:Vu}{l:List fD}(h:ym K l){k:Int}(h0:0<=k)(h1:k<l.length):rJ K (l.getD k.toNat MX):=h.each _ (lX (fG (d:=MX) h0 h1))
def ahy(l:List Wd):Bool:=l.all fun x=>iR x.text
abbrev byL(s:Tx):List Value:=Go.Lib.strCells s
theorem qL(a b:Tx):(a++b).size=a.size+b.size:=ByteArray.size_append
def tc(c:UInt8):Tx:=⟨#[c]⟩
section
variable{P:Program}{w0 w:World}{L:List bu}
variable{n:Nat}{ops:Array Oper}{k:K}{rest l:List Oper}{σ:Env}{op:Op}{ty:TypeId}{pos:String}{bO:Array Edge}{d:Nat}{x y:Operand}{dst:Option Tmp}{g:Option (Nat×Bool)}
variable{fuel i:Nat}{listed:Array Bool}{L':List bu}
end
inductive Nd where
 |mk (kind place:Int) (text:Tx) (names:List Wd) (kids:List Nd)
def Nd.kind:Nd->Int
 | .mk k _ _ _ _=>k
def Nd.place:Nd->Int
 | .mk _ p _ _ _=>p
def Nd.text:Nd->Tx
 | .mk _ _ t _ _=>t
def Nd.names:Nd->List Wd
 | .mk _ _ _ n _=>n
def Nd.kids:Nd->List Nd
 | .mk _ _ _ _ k=>k
def nd0:Nd:= .mk 0 0 qt [] []
theorem ahz{C:Nd->Prop}(h:∀n,(∀x∈n.kids,C x)->C n)(n:Nd):C n:=h n fun x hx=>ahz h x
termination_by SizeOf.sizeOf n
decreasing_by
 cases n
 simp only[Nd.kids]at hx
 have:=Ls hx
 simp only[Nd.mk.sizeOf_spec]
 omega
def fD.nd:fD->Nd
 | .mk k p t _ n _ ks=> .mk k p t n (ks.attach.map fun x=>x.1.nd)
termination_by n=>SizeOf.sizeOf n
decreasing_by
 have:=Ls x.2
 simp only[fD.mk.sizeOf_spec]
 omega
def apv(k:Nd):Bool:=decide (k.kind=6)&&iR k.text&&ahy k.names&&decide (k.kids.length=0)
def Zb:Nd->Bool
 | .mk kind _ text names kids=>
  if kind=2 then iR text&&decide (names.length=0/\kids.length=0)
  else if kind=3 then decide (text=qt)&&ahy names&&decide (kids.length=0)
  else if kind=4 then decide (text=qt)&&decide (names.length=0)&&decide (0<kids.length)&&kids.attach.all fun x=>Zb x.1
  else if kind=5 then decide (text=qt)&&decide (names.length=0)&&kids.all apv
  else false
termination_by n=>SizeOf.sizeOf n
decreasing_by
 have:=Ls x.2
 simp only[Nd.mk.sizeOf_spec]
 omega
def xq:List Tx->Tx
 |[]=>qt
 |x::l=>l.foldl (fun a y=>a++tc 44++y) x
def MY(l:List Wd):Tx:=xq (l.map Wd.text)
def uP:Nd->Tx
 | .mk kind _ text names kids=>
  if kind=1\/kind=2 then text
  else if kind=3 then tc 123++MY names++tc 125
  else if kind=4 then tc 40++xq (kids.attach.map fun x=>uP x.1)++tc 41
  else if kind=5 then tc 91++xq (kids.attach.map fun x=>uP x.1)++tc 93
  else if kind=6 then text++⟨#[58,123]⟩++MY names++tc 125
  else qt
termination_by n=>SizeOf.sizeOf n
decreasing_by
 all_goals
  have:=Ls x.2
  simp only[Nd.mk.sizeOf_spec]
  omega
theorem amQ(n:Nd):uP n=if n.kind=1\/n.kind=2 then n.text
  else if n.kind=3 then tc 123++MY n.names++tc 125
  else if n.kind=4 then tc 40++xq (n.kids.map uP)++tc 41
  else if n.kind=5 then tc 91++xq (n.kids.map uP)++tc 93
  else if n.kind=6 then n.text++⟨#[58,123]⟩++MY n.names++tc 125
  else qt:=by
 cases n with
 |mk k p t names kids=>
 have h:(kids.attach.map fun x=>uP x.1)=kids.map uP:=aJ
 rw[uP,h];rfl
section
variable{n:fD}
end
theorem MZ{α:Type}{l:List α}{d:α}{P:α->Bool}{k:Int}(h0:0<=k)(h1:k<l.length)(h:P (l.getD k.toNat d)=false):l.all P=false:=by grind
theorem GM{α:Type}{l:List α}{d:α}{P:α->Bool}{k:Int}(hk:¬k<l.length)(h:∀j:Int,0<=j->j<k->P (l.getD j.toNat d)=true):l.all P=true:=by grind[List.all_eq_true,List.getElem_of_mem,Int.toNat_natCast,List.getElem?_eq_getElem]
abbrev Ex(α:Type):=Except Int α
def aw1(l:List Tx):List Wd->BitVec 64->Ex (BitVec 64)
 |[],s=> .ok s
 |x::w,s=>if rI l x.text<0 then .error x.place else aw1 l w (vK s (rI l x.text))
def abA(l:List Tx)(w:List Wd):Ex (BitVec 64):=aw1 l w 0#64
def FI(f:Fc):List Nd->BitVec 64->Ex (BitVec 64)
 |[],w=> .ok w
 |k::ks,w=>if rI f.names k.text<0 then .error k.place else
  match abA f.names k.names with
  | .error a=> .error a
  | .ok s=>FI f ks (w|||awM f.rel (rI f.names k.text) s)
def aw2(f:Fc):Int:=if f.kind=2 then 3 else if f.kind=3 then 5 else 2
def Zd(f:Fc)(n:Nd):Ex (BitVec 64):=
 if rI f.names n.text<0 then .error n.place
 else if f.kind=4 then .ok (bQ f.rel (rI f.names n.text))
 else .ok (vJ f.names.length (rI f.names n.text)).1
def aw3(f:Fc)(n:Nd):Ex (BitVec 64):=
 if n.kind≠aw2 f then .error n.place
 else if f.kind=2 then abA f.names n.names
 else if f.kind=3 then FI f n.kids 0#64
 else Zd f n
def M0:List (Fc×Nd)->Nat->El->Ex El
 |[],_,e=> .ok e
 |(f,n)::r,i,e=>match aw3 f n with
  | .error a=> .error a
  | .ok w=>M0 r (i+1) (tK e i w)
def ahA(s:Sh)(n:Nd):List Nd:=if s.tuple then n.kids else[n]
def aD4(s:Sh)(n:Nd):Bool:=mJ s&&Zb n&&(!s.tuple||decide (n.kind=4/\n.kids.length=s.a6.length))
def aKa(s:Sh)(n:Nd):Ex El:=if aD4 s n then M0 (s.a6.zip (ahA s n)) 0 df else .error n.place
def aM8:Ex El->El×Flt
 | .ok e=>(e,awZ)
 | .error a=>(df,⟨4,a⟩)
abbrev RS:=Bool×Int
def apw(s:RS)(a:Int):RS:=if s.1 then s else(true,a)
def okR(x:Ex (BitVec 64))(s:RS)(y:BitVec 64)(s':RS):Prop:=match x with
 | .ok z=>y=z/\s'=s
 | .error a=>s'=apw s a
theorem GD{f:Fc}{n:Nd}(h:rI f.names n.text<0):Zd f n= .error n.place:=by rw[Zd,aY h]
def aM9(f:Fc)(ks:List Nd)(k:Int)(m:BitVec 64)(s s1:RS):Prop:=
 (s1=s/\FI f ks 0#64=FI f (ks.drop k.toNat) m)\/∃a,FI f ks 0#64= .error a/\s1=apw s a
structure asl where
 word:BitVec 64
 bad:Bool
 at_:Int
def aNa(g:asl):List Value:=[U g.word,B g.bad,I g.at_]
def aNb:asl:=⟨0#64,false,0⟩
def aNc:Ex (BitVec 64)->asl
 | .ok x=>⟨x,false,0⟩
 | .error a=>⟨0#64,true,a⟩
section ahB
variable{f:qI}{n:fD}{k:Int}{m:BitVec 64}(h0:0<=k)(h1:k<n.kids.length)(hm:FI f.fc n.nd.kids 0#64=FI f.fc (n.nd.kids.drop k.toNat) m)
include h0 h1 hm
end ahB
section amR
variable{f:qI}{n:fD}
end amR
def aNd(l:List (Fc×Nd))(k:Int)(e:El)(s:RS):Prop:=
 (s=(false,0)/\M0 l 0 df=M0 (l.drop k.toNat) k.toNat e)\/∃a,M0 l 0 df= .error a/\s=(true,a)
def abB(l:List Tx)(w:BitVec 64):List Wd:=(gK w).map fun i=>⟨l.getD i.toNat qt,0⟩
def ahC(f:Fc)(w:BitVec 64)(o:Int):Nd:= .mk 6 0 (f.names.getD o.toNat qt) (abB f.names (ag7 f.rel w o)) []
def Ze(f:Fc)(w:BitVec 64):Nd:=
 if f.kind=2 then .mk 3 0 qt (abB f.names w) []
 else if f.kind=3 then .mk 5 0 qt [] ((gK (SD f.rel w)).map (ahC f w))
 else if f.kind=4 then .mk 2 0 (f.names.getD (eZ f.rel w).1.toNat qt) [] []
 else .mk 2 0 (f.names.getD (level f.names.length w).1.toNat qt) [] []
def ahD(s:Sh)(e:El)(k:Int):List Nd:=(upto k).map fun i=>Ze (s.a6.getD i.toNat vV) (e i.toNat)
def aw4(s:Sh)(e:El):Nd:=
 if cI s e then(if s.tuple then .mk 4 0 qt [] (ahD s e s.a6.length)else Ze (s.a6.getD 0 vV) (e 0))else nd0
def ahE(s:Sh)(e:El):Tx:=tc 35++uP (aw4 s e)
abbrev By:=List UInt8
def bl(t:Tx):By:=t.data.toList
def goU(b:UInt8):Bool:=uN (b.toNat:Int)
def Ds(x:By):Prop:=∀b r,x=b::r->goU b=false
theorem Ds.nil:Ds []:=fun b r h=>by cases h
theorem Ds.cons{d:UInt8}(h:goU d=false)(x:By):Ds (d::x):=fun b r e=>by cases e;exact h
def aD6(l:List By):By:=l.flatMap fun y=>44::y
def aNe:List By->By
 |[]=>[]
 |x::l=>x++aD6 l
section
variable{Q:By->Prop}(hQ:∀u v,Q u->Q v->∀x y,Ds x->Ds y->u++x=v++y->u=v/\x=y){d:UInt8}(hd:goU d=false)(h44:d≠44)
include hQ hd h44
end
def wd_(t:Tx):Wd:=⟨t,0⟩
def Rn(n:Nd):Prop:=∃(t:Tx) (ws:List Tx),n= .mk 6 0 t (ws.map wd_) []/\iR t=true/\∀u∈ws,iR u=true
def wtx(a:El):List Fc->Nat->List By
 |[],_=>[]
 |f::r,i=>bl (uP (Ze f (a i)))::wtx a r (i+1)
inductive M1:fD->Prop
 |mk {kind place:Int} {text:Tx} {nv:Value} {names:List Wd} {kv:Value} {kids:List fD} (hl:names.length<=5864062014634) (each:∀x∈kids,M1 x):M1 (.mk kind place text nv names kv kids)
theorem M1.len{n:fD}(h:M1 n):n.names.length<=5864062014634:=by cases h;assumption
theorem M1.each{n:fD}(h:M1 n):∀x∈n.kids,M1 x:=by cases h;assumption
def aD7(s:kW)(n:fD):List fD:=if s.tuple then n.kids else[n]
def aKb(s:kW)(n:fD):Bool:= !s.tuple||decide (n.kind=4/\n.kids.length=s.a6.length)
def aNh(s:kW)(n:fD):List (Fc×Nd):=s.sh.a6.zip (ahA s.sh n.nd)
section
variable{s:kW}{n:fD}
end
section ref
variable{l:List (Fc×Nd)}{k:Int}{e:El}{f:Fc}{m:Nd}(h0:0<=k)(h1:k<l.length)(hm:M0 l 0 df=M0 (l.drop k.toNat) k.toNat e)(hw:l.getD k.toNat (vV,nd0)=(f,m))
include h0 h1 hm hw
end ref
def aNi(q:Int)(x:fD):Bool:=if q=1 then Zb x.nd else apv x.nd
section
variable{n:fD}
end
theorem ym.nil(K:Vu):ym K []:=⟨fun x hx=>by simp at hx⟩
theorem ym.snoc{K:Vu}{l:List fD}{n:fD}(h:ym K l)(hn:rJ K n):ym K (l++[n]):=⟨fun x hx=>by
 rcases fh.1 hx with hx|hx
 .exact h.each x hx
 rw[gG.1 hx];exact hn⟩
def wdN(l:List Tx)(i:Int):Wd:=⟨l.getD i.toNat qt,0⟩
def aCJ(l:List Tx)(w:BitVec 64)(k:Int):List Wd:=((upto k).filter (hasB w)).map (wdN l)
theorem xn(k:Int):(upto k).Pairwise (· <·):=by
 rw[upto,HS]
 exact XU.imp fun h=>by omega
def aNk:Value:= .slice none 0 0
def aKc(k:Int)(t:Tx)(nv:Value)(names:List Wd):fD:= .mk k 0 t nv names (.slice none 0 0) []
def aKd(k:Int)(kv:Value)(kids:List fD):fD:= .mk k 0 qt (.slice none 0 0) [] kv kids
def aCK(f:Fc)(w:BitVec 64)(k:Int):List Nd:=((gK (SD f.rel w)).take k.toNat).map (ahC f w)
def aCL(f:Fc)(w:BitVec 64)(k:Int):List Nd:=((upto k).filter (hasB (SD f.rel w))).map (ahC f w)
def kS:Nd->Nat
 | .mk kind _ text names kids=>(if 0<=kind/\kind<=6 then 4 else 10000000000)+text.size+(names.map fun x=>x.text.size+1).sum+(kids.attach.map fun x=>kS x.1+1).sum
termination_by n=>SizeOf.sizeOf n
decreasing_by
 have:=Ls x.2
 simp only[Nd.mk.sizeOf_spec]
 omega
theorem apx(n:Nd):kS n=(if 0<=n.kind/\n.kind<=6 then 4 else 10000000000)+n.text.size+(n.names.map fun x=>x.text.size+1).sum+(n.kids.map fun x=>kS x+1).sum:=by
 cases n with
 |mk k p t names kids=>
 have h:(kids.attach.map fun x=>kS x.1+1)=kids.map fun x=>kS x+1:=aJ
 rw[kS,h];rfl
theorem Vn{α:Type}{F G:α->Nat}:∀(l:List α),(∀x∈l,F x<=G x)->(l.map F).sum<=(l.map G).sum
 |[],_=>by simp
 |y::l,h=>by
  have h1:=h y (rj ..)
  have h2:=Vn l fun x hx=>h x (gd _ hx)
  simp only[lZ,Fj];omega
structure TxN(n:Nd):Prop where
 sz:kS n<=1000000000
theorem TxN.kind{n:Nd}(h:TxN n):0<=n.kind/\n.kind<=6:=by grind[Nd,TxN,apx]
theorem M3:∀(l:List Tx) (a:Tx),(l.foldl (fun a y=>a++tc 44++y) a).size=a.size+(l.map fun x=>x.size+1).sum
 |[],a=>by simp
 |y::l,a=>by
  rw[pq,M3 l,qL,qL,lZ,Fj,show(tc 44).size=1 from O];omega
theorem Qd(l:List Tx):(xq l).size<=(l.map fun x=>x.size+1).sum:=by
 cases l with
 |nil=>exact eu _
 |cons x l=>
  show(l.foldl (fun a y=>a++tc 44++y) x).size<=_
  rw[M3]
  simp only[lZ,Fj];omega
theorem amS(n:Nd):(uP n).size<=kS n:=ahz (C:=fun n=>(uP n).size<=kS n) (fun n ih=>by
 rw[apx,amQ]
 have h1:(MY n.names).size<=(n.names.map fun x=>x.text.size+1).sum:=by
  have:=Qd (n.names.map Wd.text)
  rw[RT]at this;exact this
 have h2:(xq (n.kids.map uP)).size<=(n.kids.map fun x=>kS x+1).sum:=by
  have h3:=Qd (n.kids.map uP)
  rw[RT]at h3
  exact kf h3 (Vn n.kids fun x hx=>by have:=ih x hx;simp only[Function.comp];omega)
 have h4:∀c:UInt8,(tc c).size=1:=fun _=>rfl
 have h5:((⟨#[58,123]⟩:Tx)).size=2:=rfl
 have h6:qt.size=0:=rfl
 have h7:4<=(if 0<=n.kind/\n.kind<=6 then 4 else 10000000000):=by split<;>omega
 split
 .omega
 split
 .simp only[qL,h4];omega
 split
 .simp only[qL,h4];omega
 split
 .simp only[qL,h4];omega
 split
 .simp only[qL,h4,h5];omega
 omega) n
theorem TxN.text{n:Nd}(h:TxN n):(uP n).size<=1000000000:=kf (amS n) h.sz
theorem SM{α:Type}{F:α->Nat}{m:Nat}:∀(l:List α),(∀x∈l,F x<=m)->(l.map F).sum<=m*l.length
 |[],_=>by simp
 |y::l,h=>by
  have h1:=h y (rj ..)
  have h2:=SM l fun x hx=>h x (gd _ hx)
  simp only[lZ,Fj,eG]
  rw[Nat.mul_add];omega
def aw7(T:Int->Tx)(k:Int):Tx:=xq ((upto k).map T)
def aNl(l:List fD)(i:Int):Tx:=uP (l.getD i.toNat MX).nd
def wdT(l:List Wd)(i:Int):Tx:=(l.getD i.toNat wd0).text
instance:DecidableEq Wd:=fun a b=>if h:a.text=b.text/\a.place=b.place then .isTrue (by cases a;cases b;cases h.1;cases h.2;rfl)else .isFalse (fun e=>h (by rw[e];exact⟨rfl,rfl⟩))
def aD8:List Tx:=[⟨#[112]⟩,⟨#[113]⟩]
def exG:Sh:=⟨false,[⟨3,aD8,aDR⟩]⟩
def exR:Nd:= .mk 6 0 ⟨#[112]⟩ [⟨⟨#[113]⟩,0⟩] []
def aNn:Nd:= .mk 5 0 qt [] [exR]
def aNo(x:Ex El):Bool:=match x with
 | .ok e=>decide (sx e (tK df 0 1#64))
 | .error _=>false
theorem ahF{α:Type}{cl:α->List Value}{sz:Nat}(hsz:∀a,(cl a).length=sz)(hpos:0<sz)(z0:α)(n:Nat):madeCells (cl z0).toArray (n*sz)=((List.replicate n z0).flatMap cl).toArray:=by
 refine RW (uu fun j=> ?_)
 have hl:((List.replicate n z0).flatMap cl).length=n*sz:=by rw[fO hsz,Rv]
 by_cases hj:j<n*sz
 .have h1:j/sz<n:=Nat.div_lt_of_lt_mul (by rw[Nat.mul_comm];exact hj)
  have h2:j%sz<(cl z0).length:=by rw[hsz];exact Nat.mod_lt _ hpos
  have h3:=flat_get hsz (List.replicate n z0) (j/sz) z0 (by rw[XR,aY h1]) (j%sz) (cl z0)[j%sz] (eF h2)
  rw[show j/sz*sz+j%sz=j by rw[Nat.mul_comm];exact Yh j sz]at h3
  show(madeCells (cl z0).toArray (n*sz)).toList[j]?=((List.replicate n z0).flatMap cl)[j]?
  rw[h3,madeCells,Array.toList_map,qC,Array.toList_range,zN hj]
  simp only[rp,vz,hsz]
  congr 1
  rw[getElem!_def]
  simp only[HO,eF h2]
 rw[ot (by rw[show(madeCells (cl z0).toArray (n*sz)).toList.length=n*sz by simp[madeCells]];omega),ot (by rw[show((List.replicate n z0).flatMap cl).toArray.toList.length=n*sz from hl];omega)]
section
variable{P:Program}{σ:Env}{w:World}{dst:Option Tmp}{ty t e:TypeId}{pos:String}{bO:Array Edge}{g:Option (Nat×Bool)}{x y:Operand}{α:Type}{cl:α->List Value}{sz:Nat}
theorem Qe{ie:TypeInfo}{z:Value}{z0:α}{n:Nat}(hsz:∀a,(cl a).length=sz)(hpos:0<sz)(hu:P.underlying t=some (.slice e))(hie:P.info? e=some ie)(hz:ie.zero=some z)(hzc:z.cells=(cl z0).toArray)(hs:ie.size=sz)
  (hx:ev σ x= .int .i64 n) (hy:ev σ y= .int .i64 n) (hb:ie.bytes*n<=281474976710656) (hn:n<=maxLen):
  (execOp (ev σ) ⟨dst,.makeSlice t x y,ty,pos,bO,g⟩).run P w= .ok (.value (.slice (some ⟨w.heap.size,0,none⟩) n n)) (w.alloc (.cells ((List.replicate n z0).flatMap cl).toArray e)):=by
 have hb':(ie.bytes:Int)*n<=281474976710656:=by
  have h:((ie.bytes*n:Nat):Int)<=281474976710656:=J
  rwa[Int.natCast_mul]at h
 have hr:=run_make (P:=P) w t e ie z hu hie hz .i64 .i64 n n J (mc _) hb' (by unfold maxLen at hn;omega)
 rw[hzc,hs,eC,ahF hsz hpos]at hr
 simp[execOp,hx,hy,hr]
end
theorem CN(b o n:Nat):(⟨b,o,none⟩:Addr).add n=⟨b,o+n,none⟩:=by unfold Addr.add;split<;>simp_all
theorem Hp.K1{w0 w:World}{L:List bu}{i:Nat}{v:Value}{e:TypeId}{sz n:Nat}{xs:List Value}(h:Hp w0 w L)(hi:L[i]?=some (.row v e sz n xs))(hn:0<n):
  ∃gb cap,v= .slice (some ⟨gb,0,none⟩) n cap/\n<=cap/\∃cur:Array Value,w.heap[gb]?=some (.cells cur e (0,0))/\cur.size=cap*sz/\cur.toList.take (n*sz)=xs/\
   ∀Kc:Array Value,Kc.size=cur.size->Hp w0 (w.setRow gb Kc) (L.set i (.row v e sz n (Kc.toList.take (n*sz)))):=by
 obtain⟨hl,h2⟩:=h.get hi
 rcases h2 with⟨rfl,rfl⟩|⟨gb,cap,cur,rfl,hb,hg,hnc,hm,hs,ht⟩
 .exact absurd hn (Nat.lt_irrefl 0)
 refine⟨gb,cap,rfl,hnc,cur,hg,hs,ht,fun Kc hc'=> ?_⟩
 have hil:=(n7.1 hi).1
 have h1:Hp w0 w (L.set i (.blk gb (.cells cur e (0,0)))):=⟨h.below,fun y hy=>by
   obtain⟨j,hj,Fw⟩:=vA.1 hy
   rw[zO]at Fw
   split at Fw
   .subst Fw;exact⟨hb,hg⟩
   exact h.ok y (Fw▸qD _),Cz hi O h.L8⟩
 have hi1:(L.set i (.blk gb (.cells cur e (0,0))))[i]?=some (.blk gb (.cells cur e (0,0))):=by rw[List.getElem?_set_self hil]
 have h3:=h1.set (c':=Kc) hi1
 rw[List.set_set]at h3
 have hi3:(L.set i (.blk gb (.cells Kc e (0,0))))[i]?=some (.blk gb (.cells Kc e (0,0))):=by rw[List.getElem?_set_self hil]
 have h4:Hp w0 (w.setRow gb Kc) ((L.set i (.blk gb (.cells Kc e (0,0)))).set i (.row (.slice (some ⟨gb,0,none⟩) n cap) e sz n (Kc.toList.take (n*sz)))):=⟨h3.below,fun y hy=>by
   obtain⟨j,hj,Fw⟩:=vA.1 hy
   rw[zO]at Fw
   split at Fw
   .subst Fw
    have hb3:=h3.get hi3
    refine⟨?_,.inr ⟨gb,cap,Kc,rfl,hb3.1,hb3.2,hnc,hm,by rw[hc',hs],rfl⟩⟩
    rw[ef,qB]
    have:Kc.toList.length=cap*sz:=by rw[E8,hc',hs]
    rw[this];exact sr _ hnc
   exact h3.ok y (Fw▸qD _),Cz hi3 O h3.L8⟩
 rw[List.set_set]at h4;exact h4
def qX(xs:List Value)(o:Nat)(new:List Value):List Value:=xs.take o++new++xs.drop (o+new.length)
theorem GN{cur new:List Value}{o m:Nat}(h:o+new.length<=m)(hm:m<=cur.length):(cur.take o++new++cur.drop (o+new.length)).take m=qX (cur.take m) o new:=by
 rw[qX,List.take_append,List.take_append,jg (l:=new) (by simp only[ef];omega),Ce,Ce,Ye J,qB J]
 congr 1
 simp only[ed,ef]
 rw[List.drop_take,show min o cur.length+new.length=o+new.length by omega]
section
variable{P:Program}{n:Nat}{ops:Array Oper}{k:K}{rest l:List Oper}{σ:Env}{w0 w:World}{L:List bu}{op:Op}{ty t e et:TypeId}{pos:String}{bO:Array Edge}{d:Nat}{x y:Operand}{g:Option (Nat×Bool)}{v:Value}{sz m i:Nat}{xs:List Value}{dst:Option Tmp}
theorem Zg{o:Nat}{new:List Value}(hH:Hp w0 w L)(hi:L[i]?=some (.row v e sz m xs))(hm:0<m)(hx:ev σ x= .pointer (some ⟨sb v,so v+o,none⟩))(hy:ev σ y= .agg new.toArray)(h1:∀u∈new,u.oneCell'=true)(hs:(P.info? t).map (·.size)=some new.length)(ho:o+new.length<=m*sz):
  ∃w',(execOp (ev σ) ⟨dst,.store t x y,ty,pos,bO,g⟩).run P w= .ok .skip w'/\Hp w0 w' (L.set i (.row v e sz m (qX xs o new))):=by
 obtain⟨gb,cap,rfl,hnc,cur,hg,hc,ht,hk⟩:=hH.K1 hi hm
 have hcm:m*sz<=cap*sz:=sr _ hnc
 have hx':ev σ x= .pointer (some ⟨gb,o,none⟩):=by rw[hx];simp only[sb,so,gQ]
 have hr:=Qc (P:=P) (dst:=dst) (ty:=ty) (pos:=pos) (bO:=bO) (g:=g) (c':=cur.toList.take o++new++cur.toList.drop (o+new.length)) hs hx' hy h1 hg J O
 have hl:(cur.toList.take o++new++cur.toList.drop (o+new.length)).length=cur.size:=by
  simp only[ed,ef,yK,E8];omega
 have h2:=hk (cur.toList.take o++new++cur.toList.drop (o+new.length)).toArray (by rw[vz,hl])
 rw[show(cur.toList.take o++new++cur.toList.drop (o+new.length)).toArray.toList=cur.toList.take o++new++cur.toList.drop (o+new.length)from O,GN ho Sj,ht]at h2
 exact⟨_,hr,h2⟩
theorem asn{o:Nat}{new:List Value}(hH:Hp w0 w L)(hi:L[i]?=some (.row v e sz m xs))(hm:0<m)(hx:ev σ x= .pointer (some ⟨sb v,so v+o,none⟩))(hy:ev σ y= .agg new.toArray)(h1:∀u∈new,u.oneCell'=true)(hs:(P.info? t).map (·.size)=some new.length)(ho:o+new.length<=m*sz)
  (hk:∀w',Hp w0 w' (L.set i (.row v e sz m (qX xs o new)))->RL P n ops k rest σ w'):RL P n ops k (⟨none,.store t x y,ty,pos,bO,none⟩::rest) σ w:=by
 obtain⟨w',hr,h2⟩:=Zg (dst:=none) (ty:=ty) (pos:=pos) (bO:=bO) (g:=none) hH hi hm hx hy h1 hs ho
 exact Il hr (hk w' h2)
variable{fuel j:Nat}{listed:Array Bool}{L':List bu}
theorem aEa{o:Nat}{new:List Value}(hj:l[j]?=some ⟨none,.store t x y,ty,pos,bO,g⟩)(hg:∀a,Is n σ a->Region.wanted ⟨none,.store t x y,ty,pos,bO,g⟩ (yielded l.toArray a.tmps)=true)(hH:Hp w0 w L)(hi:L[i]?=some (.row v e sz m xs))(hsub:∀ys,L'.Sublist (L.set i (.row v e sz m ys)))(hm:0<m)
  (hx:ev σ x= .pointer (some ⟨sb v,so v+o,none⟩)) (hy:ev σ y= .agg new.toArray) (h1:∀u∈new,u.oneCell'=true) (hs:(P.info? t).map (·.size)=some new.length) (ho:o+new.length<=m*sz)
  (hk:∀w',Hp w0 w' (L.set i (.row v e sz m (qX xs o new)))->AN P n l (fun w=>Hp w0 w L') k fuel (listed.setIfInBounds j true) σ w'):AO P n l (fun w=>Hp w0 w L') k fuel listed σ w j:=by
 obtain⟨w',hr,h2⟩:=Zg (dst:=none) (ty:=ty) (pos:=pos) (bO:=bO) (g:=g) hH hi hm hx hy h1 hs ho
 exact Iq hj hg hr (h2.sub (hsub _)) (hk w' h2)
theorem Vo{sT:TypeId}{u:Value}{c dLen dCap o m':Nat}{cells:List Value}(hH:Hp w0 w L)(hi:L[i]?=some (.row v e sz m xs))(hm:0<m)(hu:P.underlying t=some (.slice et))(hs:(P.info? et).map (·.size)=some sz)
  (hx:ev σ x= .slice (some ⟨sb v,so v+o*sz,none⟩) dLen dCap) (hy:ev σ y=u) (hS:Sl w u sz m' cells) (hc:Nat.min m' dLen=c) (ho:o+c<=m) (h1:∀q∈cells,q.oneCell'=true):
  ∃w',(execOp (ev σ) ⟨dst,.call {callee:= .builtin .copy,args:=#[x,y],argTypes:=#[t,sT]},ty,pos,bO,g⟩).run P w= .ok (.value (goInt c)) w'/\Hp w0 w' (L.set i (.row v e sz m (qX xs (o*sz) (cells.take (c*sz))))):=by
 obtain⟨gb,cap,rfl,hnc,cur,hg,hcs,ht,hk⟩:=hH.K1 hi hm
 obtain⟨ua,Vp,rfl,huc,hua⟩:=hS.shape
 have oF:=hS.len
 have hcm:m*sz<=cap*sz:=sr _ hnc
 have Zh:c<=m':=by rw[<-hc];exact Nat.min_le_left _ _
 have hlt:(cells.take (c*sz)).length=c*sz:=by rw[ef,oF,qB (sr _ Zh)]
 have hoc:o*sz+c*sz<=m*sz:=by rw[<-lF];exact sr _ ho
 have hx':ev σ x= .slice (some ⟨gb,o*sz,none⟩) dLen dCap:=by rw[hx];simp only[sb,so,gQ]
 have hst:=X7 P gb (o*sz) e (cells.take (c*sz)) 0 cur w hg (by rw[hlt];omega) (fun q hq=>h1 q (uK hq))
 have aw8:(Builtin.firstCells sz c (.slice ua m' Vp)).run P w= .ok (cells.take (c*sz)).toArray w:=by
  by_cases hz:c*sz=0
  .rw[hz,xQ]
   cases ua with
   |none=>simp[Builtin.firstCells,hz]
   |some a=>have:=run_loadCells_list (P:=P) w a [] (fun j v hv=>by simp at hv);simpa[Builtin.firstCells,hz]using this
  have hm0:0<m':=by
   rcases RC m' with h|h
   .rw[show c=0 by omega]at hz;simp at hz
   exact h
  have hl:=run_loadCells_list (P:=P) w ⟨sb (.slice ua m' Vp),so (.slice ua m' Vp),none⟩ (cells.take (c*sz)) (fun j q hq=>by
   rw[CN]
   rw[vx]at hq
   split at hq
   .exact hS.cell j q hq
   .cases hq)
  rw[hlt]at hl
  rw[hua hm0]
  simpa[Builtin.firstCells]using hl
 refine⟨w.setRow gb (cur.toList.take (o*sz)++cells.take (c*sz)++cur.toList.drop (o*sz+(cells.take (c*sz)).length)).toArray,?_,?_⟩
 rotate_left
 .have h2:=hk (cur.toList.take (o*sz)++cells.take (c*sz)++cur.toList.drop (o*sz+(cells.take (c*sz)).length)).toArray (by
   simp only[vz,ed,ef,yK,E8];rw[oF]
   have:min (c*sz) (m'*sz)=c*sz:=qB (sr _ Zh)
   omega)
  rw[show(cur.toList.take (o*sz)++cells.take (c*sz)++cur.toList.drop (o*sz+(cells.take (c*sz)).length)).toArray.toList=cur.toList.take (o*sz)++cells.take (c*sz)++cur.toList.drop (o*sz+(cells.take (c*sz)).length)from O,GN (by rw[hlt];omega) Sj,ht]at h2
  exact h2
 have hq:∃ii,P.info? et=some ii/\ii.size=sz:=by
  cases hq:P.info? et with
  |none=>simp[hq]at hs
  |some ii=>exact⟨ii,rfl,by simpa[hq]using hs⟩
 obtain⟨ii,hii,his⟩:=hq
 rw[LL]at hst
 have hcp:(Builtin.copy_ #[t,sT] ty #[.slice (some ⟨gb,o*sz,none⟩) dLen dCap,.slice ua m' Vp]).run P w= .ok (goInt c) (w.setRow gb (cur.toList.take (o*sz)++cells.take (c*sz)++cur.toList.drop (o*sz+(cells.take (c*sz)).length)).toArray):=by
  have hc2:min m' dLen=c:=hc
  simp[Builtin.copy_,kP hu,Builtin.lenOf,sizeOf,typeInfo,hii,his,hc,hc2,aw8]
  have aw9:=hst
  simp at aw9
  rw[aw9];rfl
 simp[execOp,resolve,invoke,builtin,hx',hy,hcp]
theorem CO{j fuel:Nat}{listed:Array Bool}{L':List bu}{Q:World->Prop}{vv:Value}(hj:l[j]?=some ⟨some d,op,ty,pos,bO,g⟩)(hg:∀a,Is n σ a->Region.wanted ⟨some d,op,ty,pos,bO,g⟩ (yielded l.toArray a.tmps)=true)(hd:Nat.blt d n=true)(h:∃w',(execOp (ev σ) ⟨some d,op,ty,pos,bO,g⟩).run P w= .ok (.value vv) w'/\Q w')(hQ:∀w',Q w'->Hp w0 w' L')
 (hk:∀w',Q w'->AN P n l (fun w=>Hp w0 w L') k fuel (listed.setIfInBounds j true) (me σ d vv) w'):AO P n l (fun w=>Hp w0 w L') k fuel listed σ w j:=by grind[CB]
def pg(v:Value)(sz i:Nat):Value:=
 match v with
 | .slice a n cap=> .slice (if cap=i then a else a.map (·.add (i*sz))) (n-i) (cap-i)
 |v=>v
theorem ahG(hH:Hp w0 w L)(hi:L[i]?=some (.row v e sz m xs))(hm:0<m):∃gb cap,v= .slice (some ⟨gb,0,none⟩) m cap/\m<=cap:=by
 obtain⟨gb,cap,h,h2,-⟩:=hH.K1 hi hm;exact⟨gb,cap,h,h2⟩
theorem ahH(xs:List Value)(o:Nat):qX xs o []=xs:=by simp[qX]
theorem qM{sT:TypeId}{u:Value}{c o m':Nat}{cells:List Value}(hH:Hp w0 w L)(hi:L[i]?=some (.row v e sz m xs))(hm:0<m)(hu:P.underlying t=some (.slice et))(hs:(P.info? et).map (·.size)=some sz)
  (hx:ev σ x=pg v sz o) (hy:ev σ y=u) (hS:Sl w u sz m' cells) (hc:Nat.min m' (m-o)=c) (ho:o<=m) (h1:∀q∈cells,q.oneCell'=true):
  ∃w',(execOp (ev σ) ⟨dst,.call {callee:= .builtin .copy,args:=#[x,y],argTypes:=#[t,sT]},ty,pos,bO,g⟩).run P w= .ok (.value (goInt c)) w'/\Hp w0 w' (L.set i (.row v e sz m (qX xs (o*sz) (cells.take (c*sz))))):=by
 obtain⟨gb,cap,rfl,hcap⟩:=ahG hH hi hm
 have hcm:c<=m-o:=by have h:=Nat.min_le_right m' (m-o);rwa[show min m' (m-o)=c from hc]at h
 by_cases hco:cap=o
 .have h0:c=0:=J
  subst h0
  have hx':ev σ x= .slice (some ⟨sb (.slice (some ⟨gb,0,none⟩) m cap),so (.slice (some ⟨gb,0,none⟩) m cap)+0*sz,none⟩) (m-o) (cap-o):=by rw[hx];simp[pg,hco,sb,so]
  obtain⟨w',hr,h2⟩:=Vo (sT:=sT) (dst:=dst) (ty:=ty) (pos:=pos) (bO:=bO) (g:=g) (o:=0) hH hi hm hu hs hx' hy hS hc J h1
  refine⟨w',hr,?_⟩
  simp only[RR,xQ,ahH]at h2⊢
  exact h2
 refine Vo (dLen:=m-o) (dCap:=cap-o) hH hi hm hu hs ?_ hy hS hc J h1
 rw[hx]
 simp only[pg,aW hco,rp,CN,sb,so]
theorem aEc{Q:World->Prop}{vv:Value}(hd:Nat.blt d n=true)(h:∃w',(execOp (ev σ) ⟨some d,op,ty,pos,bO,none⟩).run P w= .ok (.value vv) w'/\Q w')
 (hk:∀w',Q w'->RL P n ops k rest (me σ d vv) w'):RL P n ops k (⟨some d,op,ty,pos,bO,none⟩::rest) σ w:=by grind[pA]
theorem Sl.fr{cells:List Value}(h:Sl w v sz m cells)(o:Nat)(ho:o<=m):Sl w (pg v sz o) sz (m-o) (cells.drop (o*sz)):=by
 obtain⟨a,cap,rfl,hcap,ha⟩:=h.shape
 have hl:=h.len
 refine⟨?_,by rw[yK,hl,Nat.sub_mul],fun j c hj=> ?_,by have:=h.small;omega⟩
 .by_cases h0:0<m-o
  .have h1:=ha J
   have hco:¬cap=o:=J
   refine⟨_,cap-o,rfl,J,fun _=> ?_⟩
   rw[h1];simp only[pg,aW hco,rp,CN,sb,so]
  exact⟨_,cap-o,rfl,J,fun h=>absurd h h0⟩
 have h0:0<m-o:=by
  rcases RC (m-o)with h0|h0
  .rw[List.drop_eq_nil_of_le (by rw[hl];exact sr _ J)]at hj;cases hj
  exact h0
 rw[Cb]at hj
 have h1:=ha J
 have h2:=h.cell _ _ hj
 have hco:¬cap=o:=J
 have e1:sb (pg (.slice a m cap) sz o)=sb (.slice a m cap):=by rw[h1];simp only[pg,aW hco,rp,CN,sb,so]
 have e2:so (pg (.slice a m cap) sz o)=so (.slice a m cap)+o*sz:=by rw[h1];simp only[pg,aW hco,rp,CN,sb,so]
 rw[e1,e2,xW];exact h2
theorem gD{lo:Operand}{q:Int}{cells:List Value}(hS:Sl w v sz m cells)(hu:P.underlying t=some (.slice et))(hs:∀w,(sizeOf et).run P w= .ok sz w)(hx:ev σ x=v)(hlo:ev σ lo=I q)(h:0<=q/\q<=m):
  (execOp (ev σ) ⟨dst,.slice t x (some lo) none none,ty,pos,bO,g⟩).run P w= .ok (.value (pg v sz q.toNat)) w:=by
 obtain⟨a,cap,rfl,hcap,ha⟩:=hS.shape
 have h1:0<=q/\q<=(m:Int):=h
 have h2:(Instr.slice t (.slice a m cap) (some (I q)) none none).run P w= .ok (pg (.slice a m cap) sz q.toNat) w:=by
  simp[Instr.slice,Instr.sliceBounds,Instr.sliceBound,kP hu,asIntOf,h1,hs,pg]
 have h3:(Instr.sliceAt t (.slice a m cap) (some (I q)) none none).run P w= .ok (pg (.slice a m cap) sz q.toNat) w:=by
  simp[Instr.sliceAt,kP hu,h2]
 simp[execOp,hx,hlo,h3]
end
end
end Go.Proofs.YtlhjdflgjbkpmaaGreatDoor.E

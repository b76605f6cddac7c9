/- Part 1 of the proof of FlowSteps: its plain laws and the walks of its functions. -/
import Derived.WalkKit
import Derived.ProofKit
import Derived.Deep.Quiet
import Derived.Laws.AppendOwn
import Derived.Laws.CopyRow
import Derived.Laws.Tables
import Derived.Deep.MidRow
import Derived.Great.BuildSlice
import Derived.OrdersHeld
import Derived.Laws.CopyOwn
import Derived.WalkLawsBesides
import Derived.Laws.StructEq
import Derived.Laws.Rows
import Derived.Laws.Strings
import Derived.Laws.Concat
import Derived.Lib.AppendStr
import Derived.Laws.BytesArg
import Derived.Laws.MakeOwn
import Derived.MapKept
import Derived.Laws.IdiomRangeMap
import Derived.Scope
import Derived.ArgAppend
import Derived.OpenShut
import Derived.ChangeSlices
import Derived.WideShapes
import Derived.Carry
import Derived.Deep.Strs
import Derived.Test.YtlhjdflgjbkpmaaGreatDoorProg
import Derived.Tactics
import Derived.Tactics2
import Derived.Defers
import Derived.Laws.Pointers
import Derived.Laws.LoneSync
import Derived.RegionTactic
import Derived.RegionCalls
import Derived.ChangeAlike
import Derived.Ground.NamesProg
import Derived.Shelf.Slices.In.SortNone
import Derived.Sort.EveryDepth
import Derived.Sort.OwnSortedInts
import Derived.Test.YtlhjdflgjbkpmaaGreatDoorCards
import Derived.Test.YtlhjdflgjbkpmaaGreatDoorTie
import Derived.Deep.DeepHandedRow
import Derived.Lib.LaidTab
set_option linter.all false
namespace Go.Proofs.YtlhjdflgjbkpmaaGreatDoor
section
open Go Go.RowKit Go.Proofs.Tryz
def bH:=@List.mem_append_right
def aK:=@congrArg
def bx:=@underlying3
def bD:=@underlying99
def bS:=@underlying86
def aT:=@if_neg
def eT:=@List.getD_eq_getElem?_getD
def aX:=@if_pos
def ec:=@List.length_append
def dG:=@List.append_assoc
def aO:=@sizeOf3
def bI:=@underlying37
def bU:=@underlying46
def cM:=@Bool.and_eq_true
def eF:=@List.getElem?_eq_getElem
def dL:=@List.mem_append_left
def cr:=@underlying111
def dW:=@List.length_take
def eA:=@List.length_singleton
def fw:=@List.length_cons
def c8:=@List.mem_cons
def dh:=@underlying100
def fX:=@List.mem_cons_of_mem
def gF:=@List.length_map
def eC:=@Int.toNat_natCast
def eD:=@decide_eq_true_eq
def di:=@underlying31
def dm:=@underlying54
def dw:=@underlying56
def dx:=@underlying88
def gk:=@Int.toNat_of_nonneg
def eN:=@List.nil_append
def gG:=@List.mem_singleton
def dM:=@underlying35
def e8:=@List.mem_append
def jm:=@List.take_of_length_le
def gB:=@List.cons_append
def dX:=@underlying83
def dY:=@underlying90
def cQ:=@sizeOf35
def gZ:=@decide_eq_false
def gV:=@List.map_append
def gH:=@Bool.eq_iff_iff
def jh:=@List.set_cons_zero
def fP:=@underlying222
def nW:=@List.setIfInBounds_toArray
def fg:=@underlying44
def iR:=@List.all_eq_true
def nX:=@List.getElem?_eq_some_iff
def gO:=@Nat.zero_add
def gW:=@decide_eq_true
def fh:=@Nat.le_refl
def fZ:=@List.mem_map
def dH:=@sizeOf99
def lR:=@List.mem_of_getElem?
def hG:=@underlying103
def gI:=@underlying25
def kZ:=@List.set_cons_succ
def ix:=@underlying109
def ia:=@underlying34
def lS:=@List.pairwise_cons
def og:=@List.getElem?_eq_none
def jo:=@underlying128
def iy:=@underlying9
def qt:=@Nat.min_eq_left
def kp:=@run_underlying
def ji:=@underlying22
def fl:=@sizeOf37
def wU:=@Array.getD_eq_getD_getElem?
def wV:=@List.perm_append_comm_assoc
def mY:=@List.append_nil
def nY:=@List.length_set
def wW:=@decide_eq_false_iff_not
def kL:=@Nat.le_trans
def r6:=@Nat.mul_le_mul_right
def r7:=@List.mem_of_mem_take
def kM:=@underlying39
def lT:=@List.map_cons
def Gb:=@List.flatMap_append
def qu:=@List.getElem?_map
def mz:=@underlying105
def mZ:=@underlying220
def lU:=@underlying23
def u7:=@List.Perm.append_left
def jE:=@sizeOf100
def m4:=@underlying40
def m5:=@underlying28
def oh:=@underlying102
def r8:=@List.getElem_mem
def uB:=@Bool.false_eq_true
def nZ:=@underlying26
def Ep:=@Array.getElem?_setIfInBounds
def qv:=@List.mem_range
def pF:=@underlying101
def uC:=@List.flatMap_cons
def yE:=@List.length_drop
def jF:=@sizeOf54
def u9:=@List.getElem?_take
def o4:=@underlying63
def o5:=@underlying98
def zC:=@List.eq_nil_of_length_eq_zero
def sw:=@List.mem_of_mem_drop
def lW:=@underlying193
def p9:=@List.getElem?_set
def vb:=@List.size_toArray
def om:=@List.nodup_cons
def qU:=@List.mem_cons_self
def ud:=@List.perm_append_comm
def mF:=@Bool.true_and
def pg:=@List.foldl_cons
def sx:=@BitVec.getLsbD_and
def ny:=@underlying212
def lz:=@Nat.add_mul
def xJ:=@List.filter_cons_of_pos
def uf:=@List.getElem_of_mem
def mG:=@underlying93
def qa:=@Bool.or_eq_true
def zD:=@List.getElem?_append_left
def EZ:=@List.take_succ_eq_append_getElem
def vc:=@List.mem_iff_getElem
def lX:=@Nat.mul_one
def lY:=@Int.le_refl
def iX:=@sizeOf86
def qV:=@Option.map_some
def B4:=@Array.getElem?_eq_some_iff
def jq:=@sizeOf46
def zE:=@List.filter_cons_of_neg
def kq:=@sizeOf103
def ug:=@List.ext_getElem?
def nM:=@Nat.zero_le
def qW:=@Bool.false_and
def jX:=@Eq.trans
def E0:=@Array.length_toList
def E1:=@List.getElem?_append_right
def xK:=@List.take_zero
def jr:=@call150
def qX:=@underlying117
def qY:=@underlying154
def qb:=@underlying42
def kQ:=@sizeOf39
def zF:=@List.getElem?_range
def HE:=@List.take_succ_cons
def xL:=@Result.andThen_ok
def xM:=@List.take_add_one
def xN:=@List.foldl_append
def uh:=@DataW.trod_int
def kr:=@sizeOf9
def sy:=@underlying84
def sB:=@underlying58
def ve:=@List.take_left
def qZ:=@underlying4
def xO:=@List.range_succ
def xP:=@List.mem_filter
def HF:=@List.mem_take_iff_getElem
def Lf:=@List.take_append_of_le_length
def Lg:=@List.drop_append_of_le_length
def uj:=@Sem.run_bind
def zG:=@List.getElem_set
def B5:=@List.getElem?_drop
def Lh:=@Bool.false_ne_true
def uk:=@underlying91
def ph:=@sizeOf109
def E2:=@List.contains_eq_mem
def E3:=@List.pairwise_append
def xQ:=@Nat.mul_le_mul
def B6:=@Bool.not_eq_true'
def oo:=@sizeOf22
def qc:=@sizeOf220
def B7:=@List.filter_cons
def pn:=@sizeOf83
def po:=@sizeOf90
def HG:=@BitVec.eq_of_toNat_eq
def HH:=@List.getElem?_toArray
def HI:=@List.take_append_drop
def Li:=@Bool.and_false
def nN:=@call149
def Lj:=@Classical.byContradiction
def Lk:=@Decidable.byContradiction
def Rg:=@List.eq_nil_iff_forall_not_mem
def xR:=@underlying59
def HJ:=@Decidable.of_not_not
def qd:=@sizeOf88
def oq:=@sizeOf4
def zH:=@Nat.add_assoc
def zI:=@underlying107
def zJ:=@underlying156
def HK:=@List.map_congr_left
def E4:=@List.any_eq_true
def B8:=@List.take_take
def E5:=@List.perm_middle
def B9:=@Int.le_add_one
def xS:=@cell_of_row
def Ll:=@List.drop_of_length_le
def zK:=@Code.wp_mono
def Lm:=@List.sizeOf_lt_of_mem
def E6:=@List.count_cons
def Ca:=@List.map_take
def Cb:=@underlying119
def HL:=@List.pairwise_map
def Rh:=@List.pairwise_iff_getElem
def Ri:=@List.drop_eq_getElem_cons
def Xw:=@List.set_eq_take_append_cons_drop
def vh:=@sizeOf107
def E7:=@List.drop_left
def HM:=@List.take_length
def HN:=@List.mem_nil_iff
def Cc:=@List.map_nil
def um:=@sizeOf84
def uo:=@sizeOf23
def uq:=@sizeOf98
def Ln:=@List.drop_succ_cons
def Lo:=@Int.sub_lt_sub_left
def E8:=@List.sum_cons
def E9:=@underlying233
def Lp:=@List.map_singleton
def HO:=@List.length_nil
def xT:=@sizeOf102
def Lq:=@Int.toNat_lt_toNat
def Rj:=@BitVec.toNat_shiftLeft
def Rk:=@List.length_pos_of_mem
def vi:=@sizeOf56
def vk:=@sizeOf40
def vp:=@sizeOf26
def Lr:=@of_decide_eq_true
def Ls:=@DataW.trod_string
def Rm:=@Decidable.not_not
def Lt:=@Int.sub_pos_of_lt
def ur:=@if_true
def Ro:=@List.length_replicate
def Fa:=@underlying72
def uu:=@call159
def Xx:=@List.take_length_add_append
def zL:=@false_iff
def zM:=@sizeOf105
def zN:=@sizeOf101
def xU:=@if_false
def Cd:=@beq_iff_eq
def Lu:=@List.mem_toArray
def xV:=@sizeOf58
def xW:=@sizeOf34
def HP:=@underlying143
def Xy:=@List.sublist_append_right
def Lv:=@List.cons.injEq
def Rp:=@BitVec.toNat_ofInt
def Xz:=@BitVec.toNat_ushiftRight
def HQ:=@Addr.add_mid
def Rq:=@BitVec.getLsbD_not
def XA:=@List.length_erase_of_mem
def Rr:=@List.filter_append
def Rs:=@Nat.eq_zero_or_pos
def XB:=@Array.size_setIfInBounds
def zO:=@sizeOf25
def Lw:=@List.drop_zero
def XC:=@List.getElem?_replicate
def Rt:=@List.length_range
def XD:=@Array.getElem?_eq_none
def XE:=@List.pairwise_lt_range
def XF:=@List.range_succ_eq_map
def Lx:=@underlying210
def Lz:=@underlying115
def LA:=@underlying159
def Ru:=@Option.bind_some
def Rv:=@BitVec.toNat_sub
def Rw:=@Nat.shiftLeft_eq
def Rx:=@decide_eq_decide
def Ce:=@or_false
def Ry:=@Option.getD_some
def Cf:=@sizeOf91
def XG:=@List.mem_iff_getElem?
def XH:=@Nat.pow_le_pow_right
def XI:=@BitVec.getLsbD_ofNat
def RA:=@run_equalIn_int
def LB:=@Nat.add_zero
def afr:=@Array.eq_empty_of_size_eq_zero
def LC:=@Int.le_trans
def LD:=@underlying65
def XJ:=@BitVec.getLsbD_zero
def XK:=@Array.getElem?_push
def XL:=@List.Sublist.append
def RB:=@List.drop_drop
def RC:=@List.Perm.refl
def Cg:=@Iff.rfl
def Ch:=@call154
def Fb:=@sizeOf63
def LF:=@Int.lt_succ
def XM:=@BitVec.toNat_ofNat
def XN:=@Nat.lt_of_lt_of_le
def XO:=@Nat.lt_or_gt_of_ne
def afs:=@Nat.testBit_two_pow_sub_one
def afu:=@Nat.testBit_two_pow_mul_add
def XP:=@Array.ext_getElem?
def XQ:=@List.append_of_mem
def HR:=@sizeOf143
def HS:=@sizeOf154
def zP:=@call44
def XR:=@Int.toNat_le_toNat
def afv:=@Int.tdiv_eq_ediv_of_nonneg
def afw:=@BitVec.getLsbD_ushiftRight
def RD:=@underlying162
def RE:=@underlying135
def RF:=@underlying114
def XS:=@Option.some.injEq
def XT:=@run_storeCells_at
def XU:=@BitVec.getLsbD_or
def XV:=@not_false_eq_true
def XW:=@Int.lt_trichotomy
def XX:=@List.any_eq_false
def XY:=@List.count_append
def XZ:=@bne_self_eq_false
def afx:=@Nat.shiftRight_eq_div_pow
def afy:=@Array.getElem?_eq_getElem
def Fe:=@Ne.symm
def Ff:=@call128
def afz:=@Array.getElem?_replicate
def X0:=@BitVec.toNat_inj
def X3:=@Nat.min_eq_right
def RG:=@Nat.sub_self
def RH:=@Nat.zero_mul
def RI:=@List.map_map
def X4:=@List.flatMap_map
def X5:=@List.ext_getElem
def afA:=@List.Pairwise.imp_of_mem
def afB:=@List.sublist_append_left
def HT:=@sizeOf42
def HU:=@sizeOf44
def X6:=@Nat.div_add_mod
def X7:=@run_eqGuard_agg
def X8:=@and_congr_right
def X9:=@Int.min_eq_left
def Ya:=@List.headD_cons
def LG:=@sizeOf233
def LH:=@sizeOf128
def RJ:=@Nat.one_mul
def RK:=@wpAnyH_take
def Yb:=@List.range_add
def HV:=@call179
def HW:=@call199
def HX:=@call144
def RM:=@Array.ext'
def Yc:=@wp_region_any
def Yd:=@wpAny_of_held
def Ye:=@Bool.and_true
def Yf:=@List.map_drop
def Yg:=@Prod.mk.injEq
def Yh:=@run_call_load
def Yi:=@underlying199
def Yj:=@underlying139
def O:=@rfl
theorem J{p:Prop}(h:p:=by omega):p:=h
theorem aW{p:Prop}(h:p:=by (try dsimp only);omega):p:=h
theorem aP{p:Prop}(h:p:=by kernel_rfl):p:=h
theorem az{p:Prop}(h:p:=by decide):p:=h
theorem bA{p:Prop}(h:p:=by conv=>lhs;whnf):p:=h
theorem wX{p:Prop}(h:p:=by have:=(fQ hr h0 ‹k<_› Er ‹¬(List.getD l k.toNat bG).op=1› ‹¬(List.getD l k.toNat bG).op=2›);omega):p:=h
theorem aL{p:Prop}(h:p:=by rfl):p:=h
theorem aJ{p:Prop}(h:p:=by simp):p:=h
theorem iz{p:Prop}(h:p:=by simp only[maxLen];omega):p:=h
theorem Uf{p:Prop}(h:p:=by have afC:=PC ‹mA s.sh=true› h0 (show k<s.sh.aZ.length by omega);rw[iF]at afC;have:=(pG afC).1;have:(s.aZ.getD k.toNat iB).fc.names=(s.aZ.getD k.toNat iB).names:=rfl;omega):p:=h
theorem gX{p:Prop}(h:p:=by simp[Value.oneCell']):p:=h
theorem Ci{p:Prop}(h:p:=by simp only[maxLen];((show 0+((st.length:Int)-(l.getD k.toNat bG).n).toNat+1<=_;omega))):p:=h
theorem Cj{p:Prop}(h:p:=by show(0+((st.length:Int)-(l.getD k.toNat bG).n).toNat+1)*_<=_;omega):p:=h
theorem pq{p:Prop}(h:p:=by simp only[gF,maxLen];omega):p:=h
theorem gd{p:Prop}(h:p:=by simp[maxLen]):p:=h
theorem jL{p:Prop}(h:p:=by rw[Gc];rfl):p:=h
theorem iY{p:Prop}(h:p:=by simp;omega):p:=h
theorem HY{p:Prop}(h:p:=by rw[Dx cY,ec,dW,qt J,Gb,gO];rfl):p:=h
theorem LI{p:Prop}(h:p:=by show _<(lJ _ _ _ _ _).toArray.size;rw[vb,afD];decide):p:=h
theorem RN{p:Prop}(h:p:=by show((st.length:Int)-(l.getD k.toNat bG).n).toNat+1<=_;simp only[maxLen];omega):p:=h
theorem lA{p:Prop}(h:p:=by assumption):p:=h
theorem Ck{p:Prop}(h:p:=by rw[afE i0 hi];simp;omega):p:=h
theorem xX{p:Prop}(h:p:=by simp only[fw];omega):p:=h
theorem q5{p:Prop}(h:p:=by simpa using hu):p:=h
theorem RO{p:Prop}(h:p:=by show(((st.length:Int)-(l.getD k.toNat bG).n).toNat+1)*_<=_;omega):p:=h
theorem Cl{p:Prop}(h:p:=by rw[Yk v0];simp[*]):p:=h
theorem Cm{p:Prop}(h:p:=by rw[Yl v0];simp[*]):p:=h
theorem RP{p:Prop}(h:p:=by rw[Gc];have hln:=(n4 ‹mA s.sh=true›).1;omega):p:=h
theorem xY{p:Prop}(h:p:=by rw[Gc];omega):p:=h
theorem RQ{p:Prop}(h:p:=by rw[Dx cY,ec,dW,qt J,Gb];rfl):p:=h
theorem RR{p:Prop}(h:p:=by first|rfl|(simp only[dG];done)|(simp only[dG];rfl)):p:=h
theorem Fg{p:Prop}(h:p:=by rw[ac2 k0];simp_all):p:=h
theorem RT{p:Prop}(h:p:=by have:=(hpl.at h0 ‹k<_› ‹Fh _=true›).1;omega):p:=h
theorem HZ{p:Prop}(h:p:=by simp only[oP,fw];omega):p:=h
theorem Co{p:Prop}(h:p:=by show min _ _=_;omega):p:=h
theorem xZ{p:Prop}(h:p:=by first|rfl|omega):p:=h
theorem RU{p:Prop}(h:p:=by have hln:=(n4 ‹mA s.sh=true›).1;omega):p:=h
theorem H6{p:Prop}(h:p:=by rw[iF];exact nt ‹_›):p:=h
theorem RV{p:Prop}(h:p:=by simp only[dG,HE,xK,gB,eN];done):p:=h
theorem LJ{p:Prop}(h:p:=by simpa using‹(!cS _ _)=true›):p:=h
theorem RW{p:Prop}(h:p:=by show ls.length+1<=_;simp only[maxLen];omega):p:=h
theorem RX{p:Prop}(h:p:=by show gr.length+1<=_;simp only[maxLen];omega):p:=h
theorem Fi{p:Prop}(h:p:=by simp only[ec];omega):p:=h
theorem x7{p:Prop}(h:p:=by simpa using h):p:=h
theorem afF{p:Prop}(h:p:=by first|(rw[H7 j0 ‹j<_›,aX hqq];done)|(rw[H7 j0 ‹j<_›,aT hqq];done)|(rw[H7 j0 ‹j<_›,aT hqq];rfl)):p:=h
theorem RY{p:Prop}(h:p:=by have:=Ug hr hk ‹¬k<_› Er;omega):p:=h
theorem LK{p:Prop}(h:p:=by rw[hr];exact alU ‹_›):p:=h
theorem LL{p:Prop}(h:p:=by rw[LM,gZ J,Li]):p:=h
theorem LN{p:Prop}(h:p:=by simp[O1,Value.oneCell']):p:=h
theorem H8{p:Prop}(h:p:=by rw[H9];omega):p:=h
theorem RZ{p:Prop}(h:p:=by rw[Uh h0,gV,ec];rfl):p:=h
theorem Ia{p:Prop}(h:p:=by have:=hlc.dep;omega):p:=h
theorem zQ{p:Prop}(h:p:=by simp[undef]):p:=h
theorem q7{p:Prop}(h:p:=by simp[hx]):p:=h
theorem ku{p:Prop}(h:p:=by simp_all):p:=h
theorem zR{p:Prop}(h:p:=by simpa using hi):p:=h
theorem Ib{p:Prop}(h:p:=by rw[zS];omega):p:=h
theorem afG{p:Prop}(h:p:=by have hlc:=nt ‹(!jG (sC s k))=true›;rw[jG,wW]at hlc;rw[uD,wW];omega):p:=h
theorem R2{p:Prop}(h:p:=by show(ls.length+1)*_<=_;omega):p:=h
theorem R3{p:Prop}(h:p:=by show(gr.length+1)*_<=_;omega):p:=h
theorem R4{p:Prop}(h:p:=by show(st.length+1)*_<=_;omega):p:=h
theorem Ym{p:Prop}(h:p:=by show gs.length+1<=_;simp only[maxLen];omega):p:=h
theorem Yn{p:Prop}(h:p:=by rw[half,show(k+1).toNat=k.toNat+1 by omega]):p:=h
theorem afH{p:Prop}(h:p:=by have:=(pH hf (i:=i.toNat) J).1;have:=(pH hf (i:=j.toNat) J).1;omega):p:=h
theorem mH{p:Prop}(h:p:=by cases h):p:=h
theorem Yo{p:Prop}(h:p:=by simp only[ec,dW,iG];omega):p:=h
theorem Yp{p:Prop}(h:p:=by rw[KB h0 ‹k<_›,<-dG];done):p:=h
theorem R5{p:Prop}(h:p:=by rw[PD J];rfl):p:=h
theorem afI{p:Prop}(h:p:=by rw[iF];intro q;have q2:(s.aZ.getD k.toNat iB).kind=4:=q.2;omega):p:=h
theorem LO{p:Prop}(h:p:=by rw[yE];omega):p:=h
theorem R6{p:Prop}(h:p:=by rw[h.llo];exact hp.1):p:=h
theorem R7{p:Prop}(h:p:=by rw[Es];exact Lh):p:=h
theorem Fj{p:Prop}(h:p:=by simpa using h1):p:=h
theorem Yq{p:Prop}(h:p:=by rw[awb J];simp[HA];done):p:=h
theorem afK{p:Prop}(h:p:=by rw[Dx cY,ec,dW,qt J,Gb,gO];done):p:=h
theorem Yr{p:Prop}(h:p:=by show(gs.length+1)*_<=_;omega):p:=h
theorem Ys{p:Prop}(h:p:=by unfold J3;((simp_all;done))):p:=h
theorem LP{p:Prop}(h:p:=by simpa using c):p:=h
theorem Yt{p:Prop}(h:p:=by simp only[gF,dW];omega):p:=h
theorem Yu{p:Prop}(h:p:=by simp only[Instr.fill,h];rfl):p:=h
theorem LQ{p:Prop}(h:p:=by (simp;omega)):p:=h
theorem afL{p:Prop}(h:p:=by show¬(1<=f.names.length/\f.names.length<=64);omega):p:=h
theorem Ic{p:Prop}(h:p:=by simp;done):p:=h
theorem afM{p:Prop}(h:p:=by have:=afN r _ _ ‹(jj r _ _).2=true›;omega):p:=h
theorem R8{p:Prop}(h:p:=by rw[E0];omega):p:=h
theorem R9{p:Prop}(h:p:=by rw[e0];exact zv):p:=h
theorem Yv{p:Prop}(h:p:=by rw[qw];exact HB):p:=h
theorem Sa{p:Prop}(h:p:=by show 0<2;decide):p:=h
theorem Sb{p:Prop}(h:p:=by show 1<2;decide):p:=h
theorem afO{p:Prop}(h:p:=by simp only[maxLen];((show st.length+1<=_;omega))):p:=h
theorem afP{p:Prop}(h:p:=by have:=hui _ (dy (d:=0) h0 ‹k<_›);omega):p:=h
theorem afQ{p:Prop}(h:p:=by rw[uE,nt ‹(!(q9 r i j).2)=true›];simp):p:=h
theorem afR{p:Prop}(h:p:=by exact .inr (nf ‹(!rf s _ 1 x.bf)=false›)):p:=h
theorem afS{p:Prop}(h:p:=by have:leads (bB (cl::A7))=leads cl:=rfl;omega):p:=h
theorem afT{p:Prop}(h:p:=by rw[alV,show(i+1).toNat=i.toNat+1 by omega]):p:=h
theorem afU{p:Prop}(h:p:=by rw[uE,nt ‹(!(jj r i j).2)=true›];rfl):p:=h
theorem afV{p:Prop}(h:p:=by exact .inl ‹¬(List.getD x.code _ _).op=1›):p:=h
theorem Yw{p:Prop}(h:p:=by simp only[gF];omega):p:=h
theorem afW{p:Prop}(h:p:=by show st.length+1<=_;simp only[maxLen];omega):p:=h
theorem afX{p:Prop}(h:p:=by rw[gF];(try rw[nY]);rw[Cp];omega):p:=h
theorem aaY{p:Prop}(h:p:=by have hb:=hbytes;simp only[gO]at hb;omega):p:=h
theorem Sd{p:Prop}(h:p:=by rw[ha.eval];exact hc):p:=h
theorem aaZ{p:Prop}(h:p:=by rw[Ui h0];exact Nat.le_add_right _ _):p:=h
theorem aa0{p:Prop}(h:p:=by exact .inl ‹¬(List.getD l _ _).op=1›):p:=h
theorem KC{p:Prop}(h:p:=by rw[hg];omega):p:=h
theorem aa1{p:Prop}(h:p:=by simp;rcases x8 x y with e|e<;>omega):p:=h
theorem aa2{p:Prop}(h:p:=by exact .inr (Rm.1 ‹¬¬(_/\_)›)):p:=h
theorem aQ{p:Prop}(h:p:=by assumption):p:=h
end
end Go.Proofs.YtlhjdflgjbkpmaaGreatDoor
namespace Go.Proofs.YtlhjdflgjbkpmaaGreatDoor.E
section
open Go Go.RowKit
abbrev Env:=Nat->Value
def lZ(σ:Env)(d:Nat)(v:Value):Env:=fun i=>if i=d then v else σ i
def ev(σ:Env):Operand->Value
 | .tmp t=>σ t
 | .const v=>v
 | .global g=> .pointer (some ⟨g,0,none⟩)
 | .func f=> .func (.func f) #[] #[]
theorem arp(σ:Env)(d:Nat)(v:Value):lZ σ d v d=v:=by simp[lZ]
theorem Yx(σ:Env){d i:Nat}(v:Value)(h:i≠d):lZ σ d v i=σ i:=by simp[lZ,h]
abbrev I(n:Int):Value:= .int .i64 n
abbrev U(x:BitVec 64):Value:= .int .u64 (x.toNat:Int)
abbrev B(b:Bool):Value:= .bool b
structure Is(n:Nat)(σ:Env)(a:Act):Prop where
 size:a.tmps.size=n
 get:∀t,a.tmps.getD t undef=σ t
 defers:a.defers=[]
section basics
variable{n:Nat}{σ:Env}{a:Act}
theorem Is.eval(h:Is n σ a):a.eval=ev σ:=by
 funext x
 cases x with
 |tmp t=>exact h.get t
 |const v=>rfl
 |global g=>rfl
 |func f=>rfl
theorem Is.put(h:Is n σ a){d:Nat}(hd:Nat.blt d n=true)(v:Value):Is n (lZ σ d v) (a.put (some d) v):=by
 have hd':d<n:=by simpa[Nat.blt_eq]using hd
 refine⟨(by simp[Act.put,h.size]),fun t=> ?_,(by simp[Act.put,h.defers])⟩
 have:=h.get t
 simp only[Act.put,lZ,wU]at*
 rw[Ep]
 by_cases ht:d=t
 .subst ht;simp[h.size,hd']
 rw[aT ht,aT (fun e=>ht e.symm)];exact this
theorem Is.look(h:Is n σ a){t:Nat}{v:Value}(hv:σ t=v)(hne:v≠undef):a.tmps[t]?=some v:=by
 have:=h.get t
 rw[hv,wU]at this
 cases hx:a.tmps[t]? with
 |none=>simp[hx]at this;exact absurd this.symm hne
 |some u=>simp[hx]at this;rw[this]
end basics
abbrev K:=Env->World->Prop
def post(n:Nat)(k:K)(xs:List (Nat×K))(r:K):Exit->Act->World->Prop
 | .normal,a,w=>∃σ,Is n σ a/\k σ w
 | .exit id,a,w=>∃σ,Is n σ a/\∃q,xs.lookup id=some q/\q σ w
 | .ret,a,w=>∃σ,Is n σ a/\r σ w
 |_,_,_=>False
def CW(P:Program)(n:Nat)(c:Code)(k:K)(xs:List (Nat×K))(r:K)(σ:Env)(w:World):Prop:=
 ∀a,Is n σ a->c.wp P (post n k xs r) a w
def r9(n:Nat)(k:K):Exit->Act->World->Prop
 | .normal,a,w=>∃σ,Is n σ a/\k σ w
 |_,_,_=>False
def RL(P:Program)(n:Nat)(ops:Array Oper)(k:K)(l:List Oper)(σ:Env)(w:World):Prop:=
 ∀a,Is n σ a->wpList P ops (r9 n k) l a w
section code
variable{P:Program}{n:Nat}{k:K}{xs:List (Nat×K)}{r:K}{σ:Env}{w:World}
theorem CW.mono{c:Code}{k':K}(h:CW P n c k xs r σ w)(hk:∀σ w,k σ w->k' σ w):CW P n c k' xs r σ w:=by
 intro a ha
 refine zK (fun e a' w' hq=> ?_) (h a ha)
 cases e with
 |normal=>obtain⟨σ',h1,h2⟩:=hq;exact⟨σ',h1,hk _ _ h2⟩
 |exit id=>exact hq
 |ret=>exact hq
 |goto l=>exact hq
 |panic c=>exact hq
 |outgrown=>exact hq
theorem an(h:k σ w):CW P n .skip k xs r σ w:=fun a ha=>wp_skip ⟨σ,ha,h⟩
theorem aj(h:r σ w):CW P n .ret k xs r σ w:=fun a ha=>wp_ret ⟨σ,ha,h⟩
theorem a8{id:Nat}{q:K}(hq:xs.lookup id=some q)(h:q σ w):CW P n (.exit id) k xs r σ w:=
 fun a ha=>wp_exit ⟨σ,ha,q,hq,h⟩
theorem ai{x y:Code}(h:CW P n x (fun σ w=>CW P n y k xs r σ w) xs r σ w):CW P n (.seq x y) k xs r σ w:=by
 intro a ha
 refine wp_seq (zK (fun e a' w' hq=> ?_) (h a ha))
 cases e with
 |normal=>obtain⟨σ',h1,h2⟩:=hq;exact h2 _ h1
 |exit id=>exact hq
 |ret=>exact hq
 |goto l=>exact hq
 |panic c=>exact hq
 |outgrown=>exact hq
theorem afY{x y:Code}(m:K)(h:CW P n x m xs r σ w)(h':∀σ w,m σ w->CW P n y k xs r σ w):CW P n (.seq x y) k xs r σ w:=
 ai (h.mono h')
theorem bW{c:Operand}{x y:Code}{t:Bool}(hc:ev σ c= .bool t)(ht:t=true->CW P n x k xs r σ w)
  (hf:t=false->CW P n y k xs r σ w):CW P n (.cond c x y) k xs r σ w:=
 fun a ha=>wp_cond_split Sd (fun h=>ht h a ha) (fun h=>hf h a ha)
theorem ct{c:Operand}{x y:Code}(hc:ev σ c= .bool true)(ht:CW P n x k xs r σ w):CW P n (.cond c x y) k xs r σ w:=
 fun a ha=>wp_cond_true Sd (ht a ha)
theorem cL{c:Operand}{x y:Code}(hc:ev σ c= .bool false)(hf:CW P n y k xs r σ w):CW P n (.cond c x y) k xs r σ w:=
 fun a ha=>wp_cond_false Sd (hf a ha)
theorem aF{c:Operand}{x y:Code}{p:Prop}[inst:Decidable p](hc:ev σ c= .bool (decide p))(ht:p->CW P n x k xs r σ w)
 (hf:¬p->CW P n y k xs r σ w):CW P n (.cond c x y) k xs r σ w:=by grind[bW]
theorem aA{id:Nat}{c:Code}(h:CW P n c k ((id,k)::xs) r σ w):CW P n (.block id c) k xs r σ w:=by
 intro a ha
 refine wp_block (zK (fun e a' w' hq=> ?_) (h a ha))
 cases e with
 |normal=>exact hq
 |exit id'=>
  obtain⟨σ',h1,q,h2,h3⟩:=hq
  simp only[Exit.inBlock]
  by_cases hid:id'=id
  .rw[aX hid];subst hid
   simp only[List.lookup_cons,beq_self_eq_true,XS]at h2
   subst h2;exact⟨σ',h1,h3⟩
  rw[aT hid]
  have hb:(id'==id)=false:=by simpa using hid
  simp only[List.lookup_cons,hb]at h2
  exact⟨σ',h1,q,h2,h3⟩
 |ret=>exact hq
 |goto l=>exact hq
 |panic c=>exact hq
 |outgrown=>exact hq
theorem bt{c:Code}{G:Type}(inv:G->K)(mu:G->Nat)(g0:G)(h0:inv g0 σ w)
  (round:∀g σ w,inv g σ w->CW P n c (fun σ' w'=>∃g',mu g'<mu g/\inv g' σ' w') xs r σ w):CW P n (.loop c) k xs r σ w:=by
 intro a ha b kk cs
 have key:∀m g σ w a,mu g=m->inv g σ w->Is n σ a->
   ∃e a' w',post n k xs r e a' w'/\Arrives P (lone (b.at a (.code c:: .inLoop c::kk)) cs w) b kk cs e a' w':=by
  intro m
  induction m using Nat.strongRecOn with
  |_ m ih=>
   intro g σ w a hm hi ha
   obtain⟨e,a',w',hq,afZ⟩:=round g σ w hi a ha b (.inLoop c::kk) cs
   cases e with
   |normal=>
    obtain⟨σ',h1,g',hlt,hi'⟩:=hq
    obtain⟨e2,a2,w2,hq2,awc⟩:=ih (mu g') (hm▸hlt) g' σ' w' a' O hi' h1
    exact⟨e2,a2,w2,hq2,.of_steps (Steps.trans afZ (.one step_inLoop)) awc⟩
   |exit id=>exact⟨.exit id,a',w',hq,.pass (x:= .inLoop c) O (fun _ _=> .inl aJ) afZ⟩
   |ret=>exact⟨.ret,a',w',hq,.pass (x:= .inLoop c) O (fun _ _=> .inl aJ) afZ⟩
   |goto l=>exact hq.elim
   |panic c=>exact hq.elim
   |outgrown=>exact hq.elim
 obtain⟨e,a',w',hq,afZ⟩:=key _ g0 σ w a O h0 ha
 exact⟨e,a',w',hq,.of_steps (.one step_loop) afZ⟩
theorem au{id:Nat}{l:List Oper}(h:RL P n l.toArray k l σ w):CW P n (.region id l.toArray false) k xs r σ w:=by
 intro a ha
 refine zK (fun e a' w' hq=> ?_) (wp_region_lit (id:=id) (h a ha))
 cases e with
 |normal=>exact hq
 |exit id=>exact hq.elim
 |ret=>exact hq.elim
 |goto l=>exact hq.elim
 |panic c=>exact hq.elim
 |outgrown=>exact hq.elim
end code
def jY(q:Value->World->Prop):Ending->World->Prop
 | .returned v,w=>q v w
 |_,_=>False
theorem jY.mono{q q':Value->World->Prop}(h:∀v w,q v w->q' v w){e:Ending}{w:World}(hr:jY q e w):jY q' e w:=by
 cases e with
 |returned v=>exact h v w hr
 |panicked c=>exact hr
 |outgrown=>exact hr
theorem jY.calls{P:Program}{f:FuncId}{args:Array Value}{w:World}{q q':Value->World->Prop}(hc:Calls P f args w (jY q))(h:∀v w,q v w->q' v w):Calls P f args w (jY q'):=hc.mono fun _ _ hr=>hr.mono h
def entry(args:Array Value):Env:=fun i=>args.getD i undef
theorem af0(args:Array Value)(n:Nat)(h:args.size<=n):Is n (entry args) {tmps:=args++Array.replicate (n-args.size) undef,defers:=[]}:=by
 refine⟨by simp;omega,fun t=> ?_,rfl⟩
 simp only[entry,wU,Array.getElem?_append,afz]
 split
 .rfl
 rename_i ht
 rw[XD J]
 split<;>rfl
section entry
variable{P:Program}{n:Nat}{w:World}
def Out(P:Program)(fn:Func)(q:Value->World->Prop):K:=fun σ w=>
 ∀n a,Is n σ a->∃v,(results fn a.tmps).run P w= .ok v w/\q v w
theorem enter{f:FuncId}{fn:Func}{c:Code}{args:Array Value}{q:Value->World->Prop}(hf:P.funcs[f]?=some fn)(hb:fn.body=some c)
  (hn:fn.ntmps=n) (ha:Nat.ble args.size n=true) (h:CW P n c (Out P fn q) [] (Out P fn q) (entry args) w):Calls P f args w (jY q):=by
 refine calls_of_wp hf hb ?_
 rw[hn]
 refine zK (fun e a' w' hq=> ?_) (h _ (af0 args n (by simpa using ha)))
 cases e with
 |normal=>obtain⟨σ,h1,h2⟩:=hq;obtain⟨v,h3,h4⟩:=h2 _ _ h1;exact⟨h1.defers,v,h3,h4⟩
 |ret=>obtain⟨σ,h1,h2⟩:=hq;obtain⟨v,h3,h4⟩:=h2 _ _ h1;exact⟨h1.defers,v,h3,h4⟩
 |exit id=>obtain⟨σ,h1,q,h2,h3⟩:=hq;simp at h2
 |goto l=>exact hq.elim
 |panic c=>exact hq.elim
 |outgrown=>exact hq.elim
variable{fn:Func}{q:Value->World->Prop}{σ:Env}
theorem rh(h:fn.results=#[])(hq:q (.tuple #[]) w):Out P fn q σ w:=fun _ _ _=>⟨_,results_none h _ _ _,hq⟩
theorem jA{t:Nat}{v:Value}(h:fn.results=#[.tmp t])(hv:σ t=v)(hq:q v w):Out P fn q σ w:=
 fun _ a ha=>⟨v,by rw[results_tmp h,ha.get,hv],hq⟩
theorem af1{t u:Nat}{x y:Value}(h:fn.results=#[.tmp t,.tmp u])(hx:σ t=x)(hy:σ u=y)(hq:q (.tuple #[x,y]) w):Out P fn q σ w:=
 fun _ a ha=>⟨_,by rw[results_tmp2 h,ha.get,ha.get,hx,hy],hq⟩
end entry
section ops
variable{P:Program}{n:Nat}{ops:Array Oper}{k:K}{rest:List Oper}{σ:Env}{w w':World}{op:Op}{ty:TypeId}{pos:String}{bO:Array Edge}{d:Nat}
theorem aa(h:k σ w):RL P n ops k [] σ w:=fun a ha=>wpList_nil ⟨σ,ha,h⟩
theorem pu{v:Value}(hd:Nat.blt d n=true)(hr:(execOp (ev σ) ⟨some d,op,ty,pos,bO,none⟩).run P w= .ok (.value v) w')
  (hk:RL P n ops k rest (lZ σ d v) w'):RL P n ops k (⟨some d,op,ty,pos,bO,none⟩::rest) σ w:=by
 intro a ha
 refine wpList_plain O fun K hK=> ?_
 rw[Oper.wp,ha.eval,hr]
 exact hK _ _ (hk _ (ha.put hd v))
theorem Ie(hr:(execOp (ev σ) ⟨none,op,ty,pos,bO,none⟩).run P w= .ok .skip w')
  (hk:RL P n ops k rest σ w'):RL P n ops k (⟨none,op,ty,pos,bO,none⟩::rest) σ w:=by
 intro a ha
 refine wpList_plain O fun K hK=> ?_
 rw[Oper.wp,ha.eval,hr]
 exact hK _ _ (hk _ ha)
theorem Ig{f:FuncId}{args:Array Value}{q:Value->World->Prop}(hd:Nat.blt d n=true)
  (hr:(execOp (ev σ) ⟨some d,op,ty,pos,bO,none⟩).run P w= .ok (.enter f args) w) (hc:Calls P f args w (jY q))
  (hk:∀v w',q v w'->RL P n ops k rest (lZ σ d v) w'):RL P n ops k (⟨some d,op,ty,pos,bO,none⟩::rest) σ w:=by
 intro a ha
 refine wpList_plain O fun K hK=> ?_
 rw[Oper.wp,ha.eval,hr]
 refine hc.mono fun e w' hq=> ?_
 cases e with
 |returned v=>exact hK _ _ (hk _ _ hq _ (ha.put hd v))
 |panicked c=>exact hq.elim
 |outgrown=>exact hq.elim
theorem Ih{a:Act}(ha:Is n σ a){j dj:Nat}{b want:Bool}(hj:(ops[j]?).bind (·.dst)=some dj)(hb:σ dj= .bool b)(dst:Option Tmp):
  Region.wanted ⟨dst,op,ty,pos,bO,some (j,want)⟩ (yielded ops a.tmps)=(b==want):=by
 have h1:a.tmps[dj]?=some (.bool b):=ha.look hb zQ
 simp only[Region.wanted,yielded,hj,Ru,h1]
 cases b<;>cases want<;>rfl
theorem Gd{a:Act}(ha:Is n σ a){j dj:Nat}{want:Bool}(hj:(ops[j]?).bind (·.dst)=some dj)(hu:σ dj=undef)(dst:Option Tmp):
  Region.wanted ⟨dst,op,ty,pos,bO,some (j,want)⟩ (yielded ops a.tmps)=false:=by
 have h1:a.tmps[dj]?=some undef\/a.tmps[dj]?=none:=by
  have:=ha.get dj
  rw[hu,wU]at this
  cases hx:a.tmps[dj]? with
  |none=>exact .inr O
  |some u=>simp[hx]at this;exact .inl (by rw[this])
 rcases h1 with h1|h1<;>simp only[Region.wanted,yielded,hj,Ru,h1,undef]<;>rfl
theorem gm{j dj:Nat}{want:Bool}(hd:Nat.blt d n=true)(hj:(ops[j]?).bind (·.dst)=some dj)(hu:σ dj=undef)
  (h:RL P n ops k rest (lZ σ d undef) w):RL P n ops k (⟨some d,op,ty,pos,bO,some (j,want)⟩::rest) σ w:=by
 intro a ha
 simp only[wpList,Gd ha hj hu]
 exact h _ (ha.put hd undef)
end ops
section runs
variable{P:Program}{σ:Env}{w:World}{dst:Option Tmp}{ty:TypeId}{pos:String}{bO:Array Edge}{g:Option (Nat×Bool)}
theorem run_move{x:Operand}{v:Value}(hx:ev σ x=v):(execOp (ev σ) ⟨dst,.move x,ty,pos,bO,g⟩).run P w= .ok (.value v) w:=by
 subst hx;rfl
theorem run_assign{x:Operand}{v:Value}(hx:ev σ x=v):(execOp (ev σ) ⟨dst,.assign x,ty,pos,bO,g⟩).run P w= .ok (.value v) w:=by
 subst hx;rfl
theorem gM{c a b:Operand}{v:Value}(hc:ev σ c= .bool true)(ha:ev σ a=v):
  (execOp (ev σ) ⟨dst,.pick c a b,ty,pos,bO,g⟩).run P w= .ok (.value v) w:=by
 subst ha;simp[execOp,hc,asBool]
theorem ep{c a b:Operand}{v:Value}(hc:ev σ c= .bool false)(hb:ev σ b=v):
  (execOp (ev σ) ⟨dst,.pick c a b,ty,pos,bO,g⟩).run P w= .ok (.value v) w:=by
 subst hb;simp[execOp,hc,asBool]
theorem bg{t:Operand}{i:Nat}{vs:Array Value}{v:Value}(ht:ev σ t= .tuple vs)(hv:vs[i]?=some v):
  (execOp (ev σ) ⟨dst,.extract t i,ty,pos,bO,g⟩).run P w= .ok (.value v) w:=by
 simp[execOp,ht,Instr.extract,hv]
section ints
variable{t u:TypeId}{x y:Operand}{k:IntKind}{a b:Int}
theorem Dy{op:BinOp}{v:Value}(hx:ev σ x= .int k a)(hy:ev σ y= .int k b)(hop:(match op with| .eql=>Value.bool (decide (a=b))| .neq=> .bool (decide (a≠b))| .lss=> .bool (decide (a<b))| .leq=> .bool (decide (a<=b))| .gtr=> .bool (decide (b<a))| .geq=> .bool (decide (b<=a))|_=>undef)=v)(hu:v≠undef):
  (execOp (ev σ) ⟨dst,.binOp op t x y u,ty,pos,bO,g⟩).run P w= .ok (.value v) w:=by
 subst hop
 cases op<;>simp_all [execOp,eqGuard,binOp,Op.intCmp,undef]
 .rw[gH];simp
 rw[gH];simp
theorem bV(hx:ev σ x= .int k a)(hy:ev σ y= .int k b):(execOp (ev σ) ⟨dst,.binOp .eql t x y u,ty,pos,bO,g⟩).run P w= .ok (.value (.bool (decide (a=b)))) w:=Dy hx hy O zQ
theorem jZ(hx:ev σ x= .int k a)(hy:ev σ y= .int k b):(execOp (ev σ) ⟨dst,.binOp .neq t x y u,ty,pos,bO,g⟩).run P w= .ok (.value (.bool (decide (a≠b)))) w:=Dy hx hy O zQ
theorem aN(hx:ev σ x= .int k a)(hy:ev σ y= .int k b):(execOp (ev σ) ⟨dst,.binOp .lss t x y u,ty,pos,bO,g⟩).run P w= .ok (.value (.bool (decide (a<b)))) w:=Dy hx hy O zQ
theorem wY(hx:ev σ x= .int k a)(hy:ev σ y= .int k b):(execOp (ev σ) ⟨dst,.binOp .leq t x y u,ty,pos,bO,g⟩).run P w= .ok (.value (.bool (decide (a<=b)))) w:=Dy hx hy O zQ
theorem dN(hx:ev σ x= .int k a)(hy:ev σ y= .int k b):(execOp (ev σ) ⟨dst,.binOp .gtr t x y u,ty,pos,bO,g⟩).run P w= .ok (.value (.bool (decide (b<a)))) w:=Dy hx hy O zQ
theorem dF(hx:ev σ x= .int k a)(hy:ev σ y= .int k b):(execOp (ev σ) ⟨dst,.binOp .geq t x y u,ty,pos,bO,g⟩).run P w= .ok (.value (.bool (decide (b<=a)))) w:=Dy hx hy O zQ
theorem Dz{n:Int}(h: -9223372036854775808<=n/\n<=9223372036854775807):IntKind.i64.wrap n=n:=IntWalk.i64_in n h
theorem ax(hx:ev σ x= .int .i64 a)(hy:ev σ y= .int .i64 b)(h: -9223372036854775808<=a+b/\a+b<=9223372036854775807):
  (execOp (ev σ) ⟨dst,.binOp .add t x y u,ty,pos,bO,g⟩).run P w= .ok (.value (.int .i64 (a+b))) w:=by
 simp[execOp,hx,hy,eqGuard,binOp,Op.intArith,Dz h]
theorem eO(hx:ev σ x= .int .i64 a)(hy:ev σ y= .int .i64 b)(h: -9223372036854775808<=a-b/\a-b<=9223372036854775807):
  (execOp (ev σ) ⟨dst,.binOp .sub t x y u,ty,pos,bO,g⟩).run P w= .ok (.value (.int .i64 (a-b))) w:=by
 simp[execOp,hx,hy,eqGuard,binOp,Op.intArith,Dz h]
theorem zT(hx:ev σ x= .int .i64 a)(hy:ev σ y= .int .i64 b)(h: -9223372036854775808<=a*b/\a*b<=9223372036854775807):
  (execOp (ev σ) ⟨dst,.binOp .mul t x y u,ty,pos,bO,g⟩).run P w= .ok (.value (.int .i64 (a*b))) w:=by
 simp[execOp,hx,hy,eqGuard,binOp,Op.intArith,Dz h]
theorem alW(hx:ev σ x= .int .i64 a)(hy:ev σ y= .int .i64 b)(ha:0<=a/\a<=9223372036854775807)(hb:0<b):
  (execOp (ev σ) ⟨dst,.binOp .quo t x y u,ty,pos,bO,g⟩).run P w= .ok (.value (.int .i64 (a/b))) w:=by
 have h1:a.tdiv b=a/b:=afv ha.1
 have h2:a/b<=a:=Int.ediv_le_self b ha.1
 have h3:0<=a/b:=Int.ediv_nonneg ha.1 J
 simp[execOp,hx,hy,eqGuard,binOp,Op.intDiv,h1,Dz (n:=a/b) J,show b≠0 by omega]
end ints
section words
variable{t u:TypeId}{x y:Operand}{a b:BitVec 64}
theorem LR(n:Int):IntKind.u64.wrap n=((BitVec.ofInt 64 n).toNat:Int):=by
 simp[IntKind.wrap,IntKind.bits,IntKind.signed,Rp]
 omega
theorem ofU(a:BitVec 64):BitVec.ofInt 64 (a.toNat:Int)=a:=aJ
theorem Se(a:BitVec 64):IntKind.u64.wrap (a.toNat:Int)=(a.toNat:Int):=by rw[LR,ofU]
theorem DA{op:BinOp}{k:IntKind}{m n:Int}{v:Value}(hx:ev σ x= .int k m)(hy:ev σ y= .int k n)(h:(binOp op t (.int k m) (.int k n)).run P w= .ok v w):
  (execOp (ev σ) ⟨dst,.binOp op t x y u,ty,pos,bO,g⟩).run P w= .ok (.value v) w:=by
 have he:(eqGuard op t x y (.int k m) (.int k n))=pure ():=by cases op<;>rfl
 simp[execOp,hx,hy,he,h]
theorem iU(hx:ev σ x=U a)(hy:ev σ y=U b):(execOp (ev σ) ⟨dst,.binOp .eql t x y u,ty,pos,bO,g⟩).run P w= .ok (.value (.bool (decide (a=b)))) w:=by
 rw[bV hx hy];congr 3;rw[gH];simp[<-X0];omega
theorem vx(hx:ev σ x=U a)(hy:ev σ y=U b):(execOp (ev σ) ⟨dst,.binOp .neq t x y u,ty,pos,bO,g⟩).run P w= .ok (.value (.bool (decide (a≠b)))) w:=by
 rw[jZ hx hy];congr 3;rw[gH];simp[<-X0];omega
theorem af2(hx:ev σ x=U a)(hy:ev σ y=U b):(execOp (ev σ) ⟨dst,.binOp .add t x y u,ty,pos,bO,g⟩).run P w= .ok (.value (U (a+b))) w:=by
 simp[execOp,hx,hy,eqGuard,binOp,Op.intArith,LR,BitVec.ofInt_add]
theorem Uj(hx:ev σ x=U a)(hy:ev σ y=U b):(execOp (ev σ) ⟨dst,.binOp .sub t x y u,ty,pos,bO,g⟩).run P w= .ok (.value (U (a-b))) w:=by
 have h:((BitVec.ofInt 64 ((a.toNat:Int)-b.toNat)).toNat:Int)=((a-b).toNat:Int):=by
  rw[Rp,Rv];have:=a.isLt;have:=b.isLt;omega
 refine DA hx hy ?_
 simp only[binOp,Op.intArith,LR,h];rfl
theorem LS(hx:ev σ x=U a)(hy:ev σ y=U b):(execOp (ev σ) ⟨dst,.binOp .mul t x y u,ty,pos,bO,g⟩).run P w= .ok (.value (U (a*b))) w:=by
 simp[execOp,hx,hy,eqGuard,binOp,Op.intArith,LR,BitVec.ofInt_mul]
theorem kx(hx:ev σ x=U a)(hy:ev σ y=U b):(execOp (ev σ) ⟨dst,.binOp .and t x y u,ty,pos,bO,g⟩).run P w= .ok (.value (U (a&&&b))) w:=by
 refine DA hx hy ?_
 simp only[binOp,Op.intBits,IntKind.bits,ofU,Se];rfl
theorem iH(hx:ev σ x=U a)(hy:ev σ y=U b):(execOp (ev σ) ⟨dst,.binOp .or t x y u,ty,pos,bO,g⟩).run P w= .ok (.value (U (a|||b))) w:=by
 refine DA hx hy ?_
 simp only[binOp,Op.intBits,IntKind.bits,ofU,Se];rfl
theorem Uk(hx:ev σ x=U a)(hy:ev σ y=U b):(execOp (ev σ) ⟨dst,.binOp .andNot t x y u,ty,pos,bO,g⟩).run P w= .ok (.value (U (a&&& ~~~b))) w:=by
 refine DA hx hy ?_
 simp only[binOp,Op.intBits,IntKind.bits,ofU,Se];rfl
theorem LU(hx:ev σ x=U a)(hy:ev σ y=U b)(hb:b≠0):(execOp (ev σ) ⟨dst,.binOp .quo t x y u,ty,pos,bO,g⟩).run P w= .ok (.value (U (a/b))) w:=by
 have hb':¬((b.toNat:Int)=0):=fun h=>hb (HG x7)
 have h1:((a.toNat:Int)).tdiv (b.toNat:Int)=((a/b).toNat:Int):=by
  rw[afv J];simp
 refine DA hx hy ?_
 simp only[binOp,Op.intDiv,aT hb',h1,Se];rfl
theorem LV(hx:ev σ x=U a)(hy:ev σ y=U b)(hb:b≠0):(execOp (ev σ) ⟨dst,.binOp .rem t x y u,ty,pos,bO,g⟩).run P w= .ok (.value (U (a%b))) w:=by
 have hb':¬((b.toNat:Int)=0):=fun h=>hb (HG x7)
 have h1:((a.toNat:Int)).tmod (b.toNat:Int)=((a%b).toNat:Int):=by
  rw[Int.tmod_eq_emod_of_nonneg J];simp
 refine DA hx hy ?_
 simp only[binOp,Op.intDiv,aT hb',h1];rfl
theorem af3(hx:ev σ x=U a):(execOp (ev σ) ⟨dst,.unOp .neg t x,ty,pos,bO,g⟩).run P w= .ok (.value (U (-a))) w:=by
 have h:((BitVec.ofInt 64 (0-(a.toNat:Int))).toNat:Int)=((-a).toNat:Int):=by
  rw[Rp,BitVec.toNat_neg];have:=a.isLt;omega
 simp only[execOp,hx,Op.unary,Op.intArith,LR,h];rfl
theorem Ge(hx:ev σ x=U a)(hy:ev σ y=U b):(execOp (ev σ) ⟨dst,.binOp .shl t x y u,ty,pos,bO,g⟩).run P w= .ok (.value (U (a<<<b.toNat))) w:=by
 have h:IntKind.u64.wrap ((a.toNat:Int)*2^(min b.toNat 64))=((a<<<b.toNat).toNat:Int):=by
  have e1:((a.toNat:Int)*2^(min b.toNat 64))=((a.toNat*2^(min b.toNat 64):Nat):Int):=by push_cast;rfl
  rw[LR,e1,BitVec.ofInt_natCast,XM,Rj,Rw]
  by_cases hle:b.toNat<=64
  .rw[qt hle]
  rw[X3 J]
  have e2:(2:Nat)^b.toNat=2^64*2^(b.toNat-64):=by rw[<-Nat.pow_add];congr 1;omega
  rw[e2,<-Nat.mul_assoc,Nat.mul_right_comm,Nat.mul_mod_left,Nat.mul_mod_left]
 have hn:¬((b.toNat:Int)<0):=J
 have he:(eqGuard .shl t x y (U a) (U b))=pure ():=rfl
 simp only[execOp,hx,hy,he,binOp,Op.shift,aT hn,eC,IntKind.bits,h];rfl
theorem yF(hx:ev σ x=U a)(hy:ev σ y=U b):(execOp (ev σ) ⟨dst,.binOp .shr t x y u,ty,pos,bO,g⟩).run P w= .ok (.value (U (a>>>b.toNat))) w:=by
 have h:((a.toNat:Int)).fdiv (2^(min b.toNat 64))=((a>>>b.toNat).toNat:Int):=by
  have e1:((2:Int)^(min b.toNat 64))=((2^(min b.toNat 64):Nat):Int):=by push_cast;rfl
  rw[e1,Int.fdiv_eq_ediv_of_nonneg _ (Int.natCast_nonneg _),Xz,afx]
  norm_cast
  by_cases hle:b.toNat<=64
  .rw[qt hle]
  rw[X3 J]
  have:=a.isLt
  rw[Nat.div_eq_of_lt J,Nat.div_eq_of_lt]
  exact XN this (XH J J)
 have hn:¬((b.toNat:Int)<0):=J
 have he:(eqGuard .shr t x y (U a) (U b))=pure ():=rfl
 simp only[execOp,hx,hy,he,binOp,Op.shift,aT hn,eC,IntKind.bits,h];rfl
theorem iZ{s e:TypeId}{m:Int}{ki:IntKind}{des:TypeDesc}(hs:P.underlying s=some des)(he:P.underlying e=some (.int .u64))(hx:ev σ x= .int ki m):
  (execOp (ev σ) ⟨dst,.convert s e x,ty,pos,bO,g⟩).run P w= .ok (.value (U (BitVec.ofInt 64 m))) w:=by
 have h:(convert s e (.int ki m)).run P w= .ok (.int .u64 (IntKind.u64.wrap m)) w:=by
  simp[convert,kp hs,kp he,Conv.intToInt]
 simp only[execOp,hx]
 simp[h,LR]
theorem Yy{s e:TypeId}{m:Int}{ki:IntKind}{des:TypeDesc}(hs:P.underlying s=some des)(he:P.underlying e=some (.int .i64))(hx:ev σ x= .int ki m)(h: -9223372036854775808<=m/\m<=9223372036854775807):
  (execOp (ev σ) ⟨dst,.convert s e x,ty,pos,bO,g⟩).run P w= .ok (.value (.int .i64 m)) w:=by
 have h:(convert s e (.int ki m)).run P w= .ok (.int .i64 m) w:=by
  simp[convert,kp hs,kp he,Conv.intToInt,Dz h]
 simp only[execOp,hx]
 simp[h]
theorem Yz(a:BitVec 64):IntKind.i64.wrap (a.toNat:Int)=a.toInt:=by
 have:=a.isLt
 rw[BitVec.toInt_eq_toNat_cond]
 have h64:(2:Int)^64=18446744073709551616:=az
 have h63:(2:Int)^(64-1)=9223372036854775808:=az
 have e64:(2:Nat)^64=18446744073709551616:=az
 simp only[IntKind.wrap,IntKind.bits,IntKind.signed,h64,h63,e64,mF,eD]
 by_cases h:2*a.toNat<18446744073709551616
 .rw[aX h,aT J];omega
 rw[aT h,aX J];omega
theorem YA{s e:TypeId}{des:TypeDesc}(hs:P.underlying s=some des)(he:P.underlying e=some (.int .i64))(hx:ev σ x=U a):
  (execOp (ev σ) ⟨dst,.convert s e x,ty,pos,bO,g⟩).run P w= .ok (.value (.int .i64 a.toInt)) w:=by
 have h:(convert s e (U a)).run P w= .ok (.int .i64 a.toInt) w:=by
  simp[convert,kp hs,kp he,Conv.intToInt,Yz]
 simp only[execOp,hx]
 simp[h]
end words
section awe
variable{t u:TypeId}{x y:Operand}{a b:Bool}{p:Prop}[inst:Decidable p]
theorem bJ(hx:ev σ x= .bool a):(execOp (ev σ) ⟨dst,.unOp .not t x,ty,pos,bO,g⟩).run P w= .ok (.value (.bool (!a))) w:=by
 simp[execOp,hx,Op.unary]
theorem vz(hx:ev σ x= .bool (decide p)):(execOp (ev σ) ⟨dst,.unOp .not t x,ty,pos,bO,g⟩).run P w= .ok (.value (.bool (decide ¬p))) w:=by
 simp[execOp,hx,Op.unary]
theorem LW(d:Nat)(ht:P.underlying t=some .bool):(Op.equalIn (d+1) t (.bool a) (.bool b)).run P w= .ok (a==b) w:=by
 simp[Op.equalIn,kp ht]
theorem af4(ht:P.underlying t=some .bool)(hx:ev σ x= .bool a)(hy:ev σ y= .bool b):(execOp (ev σ) ⟨dst,.binOp .eql t x y u,ty,pos,bO,g⟩).run P w= .ok (.value (.bool (a==b))) w:=by
 have h:(binOp .eql t (.bool a) (.bool b)).run P w= .ok (.bool (a==b)) w:=by
  simp only[binOp];simp[Op.equal,Op.maxDepth,LW 9999 ht]
 have he:(eqGuard .eql t x y (.bool a) (.bool b))=pure ():=rfl
 simp only[execOp,hx,hy,he];simp[h]
theorem LX(ht:P.underlying t=some .bool)(hx:ev σ x= .bool a)(hy:ev σ y= .bool b):(execOp (ev σ) ⟨dst,.binOp .neq t x y u,ty,pos,bO,g⟩).run P w= .ok (.value (.bool (!(a==b)))) w:=by
 have h:(binOp .neq t (.bool a) (.bool b)).run P w= .ok (.bool (!(a==b))) w:=by
  simp only[binOp];simp[Op.equal,Op.maxDepth,LW 9999 ht]
 have he:(eqGuard .neq t x y (.bool a) (.bool b))=pure ():=rfl
 simp only[execOp,hx,hy,he];simp[h]
end awe
section mem
variable{t u:TypeId}{x y:Operand}{v:Value}
theorem KD{e:TypeId}(hx:ev σ x=v):(execOp (ev σ) ⟨dst,.box e x,ty,pos,bO,g⟩).run P w= .ok (.value (.pointer (some ⟨w.heap.size,0,none⟩))) (w.alloc (.cells v.cells e)):=by
 subst hx;rfl
theorem aS{e:TypeId}{z:Value}(hz:∀w,(zeroValue e).run P w= .ok z w):(execOp (ev σ) ⟨dst,.alloc e,ty,pos,bO,g⟩).run P w= .ok (.value (.pointer (some ⟨w.heap.size,0,none⟩))) (w.alloc (.cells z.cells e)):=by
 simp[execOp,Instr.alloc,hz,newVar,newRow,newObj,Sem.run]
theorem O2{s i n off b o:Nat}{fs:Array Field}{f:Field}(hu:P.underlying s=some (.struct fs))(hf:fs[i]?=some f)(ho:f.offset=off)
  (hs:∀w,(sizeOf f.type).run P w= .ok n w) (hn:n≠0) (hx:ev σ x= .pointer (some ⟨b,o,none⟩)):
  (execOp (ev σ) ⟨dst,.fieldAddr s x i,ty,pos,bO,g⟩).run P w= .ok (.value (.pointer (some ⟨b,o+off,none⟩))) w:=by
 subst ho
 simp[execOp,Instr.fieldAt,kp hu,hf,hx,Instr.sureAddr,fieldPlace,hs,hn,HQ]
theorem a7{len n b o:Nat}{e:TypeId}{k:IntKind}{i:Int}(hu:P.underlying t=some (.array len e))(hs:∀w,(sizeOf e).run P w= .ok n w)
  (hx:ev σ x= .pointer (some ⟨b,o,none⟩)) (hy:ev σ y= .int k i) (hi:0<=i/\i<len):
  (execOp (ev σ) ⟨dst,.indexAddr t x y,ty,pos,bO,g⟩).run P w= .ok (.value (.pointer (some ⟨b,o+i.toNat*n,none⟩))) w:=by
 simp[execOp,Instr.indexAt,kp hu,hx,hy,asIntOf,Instr.sureAddr,hi,hs,HQ]
theorem af{a:Addr}(hx:ev σ x= .pointer (some a)):(execOp (ev σ) ⟨dst,.nilCheck x,ty,pos,bO,g⟩).run P w= .ok (.value (.pointer (some a))) w:=by
 simp[execOp,hx]
theorem aG{d:TypeDesc}{b o:Nat}(hu:P.underlying t=some d)(hd:d.isRow=false)(hx:ev σ x= .pointer (some ⟨b,o,none⟩))(hc:w.cell? ⟨b,o,none⟩=some v):
  (execOp (ev σ) ⟨dst,.load t x,ty,pos,bO,g⟩).run P w= .ok (.value v) w:=by
 have ha:(isAgg t).run P w= .ok false w:=by
  unfold isAgg
  rw[uj,kp hu w]
  cases d<;>simp_all
 simp[execOp,hx,Instr.loadAt,Instr.sureAddr,loadVar,ha,load,Sem.run,hc]
theorem cA{d:TypeDesc}{b o:Nat}{cs:List Value}(hu:P.underlying t=some d)(hd:d.isRow=true)(hi:(P.info? t).map (·.size)=some cs.length)
  (hx:ev σ x= .pointer (some ⟨b,o,none⟩)) (hc:w.rangeAt b o cs):
  (execOp (ev σ) ⟨dst,.load t x,ty,pos,bO,g⟩).run P w= .ok (.value (.agg cs.toArray)) w:=by
 have:=run_loadAt_mid (P:=P) w b o t cs d hc hu hd hi
 simp only[execOp,hx,uj,this];rfl
theorem zU{b:Nat}{c:Array Value}{e:TypeId}{off:Nat}(hg:w.heap[b]?=some (.cells c e (0,0)))(vs:List Value)(hl:off+vs.length<=c.size)(h1:∀u∈vs,u.oneCell'=true):
  (storeCells ⟨b,off,none⟩ vs).run P w= .ok () (w.setRow b (c.toList.take off++vs++c.toList.drop (off+vs.length)).toArray):=by
 have:=XT P b off e vs 0 c w hg (by simpa using hl) h1
 simpa using this
theorem bM{b off:Nat}{c:Array Value}{e:TypeId}(hi:(P.info? t).map (·.size)=some 1)(hx:ev σ x= .pointer (some ⟨b,off,none⟩))(hy:ev σ y=v)(hv:v.cells=#[v])(h1:v.oneCell'=true)
  (hg:w.heap[b]?=some (.cells c e (0,0))) (ho:off<c.size):
  (execOp (ev σ) ⟨dst,.store t x y,ty,pos,bO,g⟩).run P w= .ok .skip (w.setRow b (c.setIfInBounds off v)):=by
 have hs:=zU (P:=P) (off:=off) hg [v] iY Fj
 have e1:(c.toList.take off++[v]++c.toList.drop (off+1)).toArray=c.setIfInBounds off v:=by
  apply RM
  simp[Xw,ho]
 have hz:(sizeOf t).run P w= .ok 1 w:=by
  cases hq:P.info? t with
  |none=>simp[hq]at hi
  |some i=>simp[hq]at hi;simp[sizeOf,typeInfo,hq,hi]
 simp only[eA,e1]at hs
 simp[execOp,hx,hy,Instr.storeAt,Instr.sureAddr,storeVar,hv,hz,hs]
theorem dO{b:Nat}{c c':Array Value}{e:TypeId}(hi:(P.info? t).map (·.size)=some c'.size)(hx:ev σ x= .pointer (some ⟨b,0,none⟩))(hy:ev σ y= .agg c')(h1:∀u∈c',u.oneCell'=true)
  (hg:w.heap[b]?=some (.cells c e (0,0))) (ho:c'.size=c.size):
  (execOp (ev σ) ⟨dst,.store t x y,ty,pos,bO,g⟩).run P w= .ok .skip (w.setRow b c'):=by
 have hs:=zU (P:=P) (off:=0) hg c'.toList (by simp[ho]) Fj
 have e1:(c.toList.take 0++c'.toList++c.toList.drop (0+c'.toList.length)).toArray=c':=by
  apply RM
  simp[ho]
 have hz:(sizeOf t).run P w= .ok c'.size w:=by
  cases hq:P.info? t with
  |none=>simp[hq]at hi
  |some i=>simp[hq]at hi;simp[sizeOf,typeInfo,hq,hi]
 rw[e1]at hs
 simp[execOp,hx,hy,Instr.storeAt,Instr.sureAddr,storeVar,Value.cells,hz,hs]
theorem uK{fn:Fn}{cs:List Operand}{vs:List Value}(h:cs.map (ev σ)=vs):(execOp (ev σ) ⟨dst,.makeFunc fn #[] cs.toArray,ty,pos,bO,g⟩).run P w= .ok (.value (.func fn #[] vs.toArray)) w:=by
 subst h;simp[execOp,Instr.makeFunc]
theorem yG{f:FuncId}{HC:List Operand}{ats:Array TypeId}{vs:List Value}(hf:∀args w,(callFunc f args).run P w= .ok (.enter f args) w)(h:HC.map (ev σ)=vs):
  (execOp (ev σ) ⟨dst,.call {callee:= .value (.func f),args:=HC.toArray,argTypes:=ats},ty,pos,bO,g⟩).run P w= .ok (.enter f vs.toArray) w:=by
 subst h
 simp[execOp,resolve,ev,Deferred.ofValue,invoke,hf]
theorem PE{x:Operand}{f:FuncId}{cap:Array Value}{HC:List Operand}{ats:Array TypeId}{vs:List Value}(hf:∀args w,(callFunc f args).run P w= .ok (.enter f args) w)
  (hx:ev σ x= .func (.func f) #[] cap) (h:HC.map (ev σ)=vs):
  (execOp (ev σ) ⟨dst,.call {callee:= .value x,args:=HC.toArray,argTypes:=ats},ty,pos,bO,g⟩).run P w= .ok (.enter f (vs.toArray++cap)) w:=by
 subst h
 simp[execOp,resolve,hx,Deferred.ofValue,invoke,hf]
theorem af5{e:TypeId}{a:Option Addr}{n c:Nat}{ats:Array TypeId}(ht:ats[0]?=some t)(hu:P.underlying t=some (.slice e))(hx:ev σ x=v)(hv:v= .slice a n c):
  (execOp (ev σ) ⟨dst,.call {callee:= .builtin .len,args:=#[x],argTypes:=ats},ty,pos,bO,g⟩).run P w= .ok (.value (I n)) w:=by
 subst hv
 simp[execOp,resolve,invoke,builtin,Builtin.len_,ht,hx,kp hu,goInt]
theorem Gf{a b:Int}{ats:Array TypeId}(hx:ev σ x= .int .i64 a)(hy:ev σ y= .int .i64 b):
  (execOp (ev σ) ⟨dst,.call {callee:= .builtin .max,args:=#[x,y],argTypes:=ats},ty,pos,bO,g⟩).run P w= .ok (.value (.int .i64 (max a b))) w:=by
 have h:(if b>a then b else a)=max a b:=J
 simp[execOp,resolve,invoke,builtin,Builtin.max_,Builtin.max2,hx,hy,h]
theorem vA{a b:Int}{ats:Array TypeId}(hx:ev σ x= .int .i64 a)(hy:ev σ y= .int .i64 b):
  (execOp (ev σ) ⟨dst,.call {callee:= .builtin .min,args:=#[x,y],argTypes:=ats},ty,pos,bO,g⟩).run P w= .ok (.value (.int .i64 (min a b))) w:=by
 have h:(if b<a then b else a)=min a b:=J
 simp[execOp,resolve,invoke,builtin,Builtin.min_,Builtin.min2,hx,hy,h]
theorem lB{s:ByteArray}{ats:Array TypeId}(ht:ats[0]?=some t)(hu:P.underlying t=some .string)(hx:ev σ x= .string s):
  (execOp (ev σ) ⟨dst,.call {callee:= .builtin .len,args:=#[x],argTypes:=ats},ty,pos,bO,g⟩).run P w= .ok (.value (I s.size)) w:=by
 simp[execOp,resolve,invoke,builtin,Builtin.len_,ht,hx,kp hu,goInt]
theorem run_build{ps:List (Nat×Operand)}{vs:List (Nat×Value)}{cells:Array Value}(h:ps.map (fun p=>(p.1,ev σ p.2))=vs)(hb:P.built t vs=some cells):
  (execOp (ev σ) ⟨dst,.build t ps.toArray,ty,pos,bO,g⟩).run P w= .ok (.value (.agg cells)) w:=by
 subst h
 have:=Go.run_build (P:=P) w t ((ps.map (fun p=>(p.1,ev σ p.2))).toArray) cells hb
 simp[execOp,this]
theorem alY{e:TypeId}{len:Nat}{ps:List (Nat×Operand)}{vs:List (Nat×Value)}{cells:Array Value}{ie:TypeInfo}{z:Value}
  (hu:P.underlying t=some (.slice e)) (hie:P.info? e=some ie) (hz:ie.zero=some z) (hsmall:¬len*ie.size>2^24) (hpos:¬len*ie.size=0)
  (h:ps.map (fun p=>(p.1,ev σ p.2))=vs) (hc:Instr.fill (fun i=>some (i*ie.size,ie.size)) ((Array.range (len*ie.size)).map (z.cells[· %z.cells.size]!)) vs=some cells):
  (execOp (ev σ) ⟨dst,.buildSlice t len ps.toArray,ty,pos,bO,g⟩).run P w= .ok (.value (.slice (some ⟨w.heap.size,0,none⟩) len len)) (w.alloc (.cells cells e)):=by
 subst h
 have:=Go.run_buildSlice (P:=P) w t e len ((ps.map (fun p=>(p.1,ev σ p.2))).toArray) cells ie z hu hie hz hsmall hpos hc
 simp[execOp,this]
theorem Ul(off:Nat):∀(cs:List Value) (j:Nat) (cur:List Value),off+j+cs.length<=cur.length->
  (cs.zipIdx j).foldl (fun(a:Array Value) (p:Value×Nat)=>a.setIfInBounds (off+p.2) p.1) cur.toArray=(cur.take (off+j)++cs++cur.drop (off+j+cs.length)).toArray
 |[],j,cur,h=>by simp
 |c::cs,j,cur,h=>by
  simp only[fw]at h
  simp only[List.zipIdx_cons,pg,nW]
  rw[Ul off cs (j+1) (cur.set (off+j) c) iY]
  congr 1
  have h1:(cur.set (off+j) c).take (off+(j+1))=cur.take (off+j)++[c]:=by
   apply ug
   intro i
   simp only[u9,p9,List.getElem?_append,dW,show min (off+j) cur.length=off+j by omega]
   by_cases h1:i<off+j
   .rw[aX J,aT J,aX h1,aX h1]
   by_cases h2:i=off+j
   .subst h2;rw[aX (show off+j<off+(j+1)by omega),aX O,aX J,aT (Nat.lt_irrefl _)];simp
   rw[aT J,aT h1,og iY]
  have h2:(cur.set (off+j) c).drop (off+(j+1)+cs.length)=cur.drop (off+j+(c::cs).length):=by
   rw[List.drop_set_of_lt J];congr 1;simp;omega
  rw[h1,h2];simp
theorem Um(sz:Nat):∀(vs:List Value) (k:Nat) (cur:List Value),cur.length=(k+vs.length)*sz->(∀v∈vs,v.cells.size=sz)->
  Instr.fill (fun i=>some (i*sz,sz)) cur.toArray ((vs.zipIdx k).map fun p=>(p.2,p.1))=some (cur.take (k*sz)++vs.flatMap (·.cells.toList)).toArray
 |[],k,cur,h,_=>by simp[Instr.fill,jm (show cur.length<=k*sz by simp at h;omega)]
 |v::vs,k,cur,h,hv=>by
  have hs:=hv v aJ
  simp only[fw]at h
  have hm:(k+(vs.length+1))*sz=k*sz+sz+vs.length*sz:=by rw[lz,lz,RJ];omega
  simp only[List.zipIdx_cons,lT,Instr.fill,hs,vb]
  rw[aT iY]
  have hf:v.cells.zipIdx.foldl (fun(a:Array Value) (p:Value×Nat)=>a.setIfInBounds (k*sz+p.2) p.1) cur.toArray=(cur.take (k*sz)++v.cells.toList++cur.drop (k*sz+sz)).toArray:=by
   rw[<-Array.foldl_toList,Array.toList_zipIdx]
   have:=Ul (k*sz) v.cells.toList 0 cur (by simp[hs];omega)
   simpa[hs]using this
  have hf':v.cells.zipIdx.foldl (fun cs (x:Value×Nat)=>match x with|(c,j)=>cs.setIfInBounds (k*sz+j) c) cur.toArray=(cur.take (k*sz)++v.cells.toList++cur.drop (k*sz+sz)).toArray:=hf
  rw[hf',Um sz vs (k+1) _ (by simp[hs];rw[lz,lz];omega) (fun u hu=>hv u (by simp[hu]))]
  congr 2
  rw[show(k+1)*sz=k*sz+sz by rw[lz,RJ],Lf (by simp[hs];omega)]
  rw[jm (by simp[hs];omega)]
  simp
theorem cB{e sz:TypeId}{len:Nat}{ps:List (Nat×Operand)}{vs:List Value}{ie:TypeInfo}{z:Value}
  (hu:P.underlying t=some (.slice e)) (hie:P.info? e=some ie) (hz:ie.zero=some z) (hsz:ie.size=sz) (hl:vs.length=len) (hsmall:¬len*sz>2^24) (hpos:¬len*sz=0)
  (h:ps.map (fun p=>(p.1,ev σ p.2))=(vs.zipIdx.map fun p=>(p.2,p.1))) (hc:vs.all (fun v=>v.cells.size==sz)=true):
  (execOp (ev σ) ⟨dst,.buildSlice t len ps.toArray,ty,pos,bO,g⟩).run P w= .ok (.value (.slice (some ⟨w.heap.size,0,none⟩) len len)) (w.alloc (.cells (vs.flatMap (·.cells.toList)).toArray e)):=by
 subst hsz
 subst hl
 refine alY hu hie hz hsmall hpos h ?_
 have hz':((Array.range (vs.length*ie.size)).map (z.cells[· %z.cells.size]!))=(((Array.range (vs.length*ie.size)).map (z.cells[· %z.cells.size]!)).toList).toArray:=(Array.toArray_toList ..).symm
 rw[hz']
 have:=Um ie.size vs 0 (((Array.range (vs.length*ie.size)).map (z.cells[· %z.cells.size]!)).toList) aJ (fun v hv=>by simpa using iR.1 hc v hv)
 simpa using this
theorem DB{s i:Nat}{cs:Array Value}{fs:Array Field}{f:Field}(hu:P.underlying s=some (.struct fs))(hf:fs[i]?=some f)(ha:∀w,(isAgg f.type).run P w= .ok false w)
  (hx:ev σ x= .agg cs) (hv:cs[f.offset]?=some v):(execOp (ev σ) ⟨dst,.field s x i,ty,pos,bO,g⟩).run P w= .ok (.value v) w:=by
 simp[execOp,Instr.field,kp hu,hf,hx,asAgg,part,ha,hv]
theorem LY{e:TypeId}{len:Nat}{cs:Array Value}{k:IntKind}{i:Int}(hu:P.underlying t=some (.array len e))(ha:∀w,(isAgg e).run P w= .ok false w)(hs:∀w,(sizeOf e).run P w= .ok 1 w)
  (hx:ev σ x= .agg cs) (hy:ev σ y= .int k i) (hi:0<=i/\i<len) (hv:cs[i.toNat]?=some v):(execOp (ev σ) ⟨dst,.index t x y,ty,pos,bO,g⟩).run P w= .ok (.value v) w:=by
 simp[execOp,Instr.index,kp hu,hx,hy,asIntOf,part,ha,hs,hv,hi]
end mem
end runs
abbrev bu:=Sum (Nat×Obj) (Value×TypeId×Nat×Nat×List Value)
abbrev bu.blk(b:Nat)(o:Obj):bu:= .inl (b,o)
abbrev bu.row(v:Value)(e:TypeId)(sz n:Nat)(xs:List Value):bu:= .inr (v,e,sz,n,xs)
def bu.sD:bu->Option Nat
 | .inl (b,_)=>some b
 | .inr (v,_)=>v.ownBlock
def bu.ok(base:Nat)(w:World):bu->Prop
 | .inl (b,o)=>base<=b/\w.heap[b]?=some o
 | .inr (v,e,sz,n,xs)=>w.ownsRow base e sz v n xs
structure Hp(w0 w:World)(L:List bu):Prop where
 below:Below w0.heap.size w0 w
 ok:∀x∈L,x.ok w0.heap.size w
 LZ:L.Pairwise fun x y=>x.sD=none\/x.sD≠y.sD
theorem bu.Jz{base:Nat}{w:World}{x:bu}(h:x.ok base w):∀b,x.sD=some b->base<=b/\b<w.heap.size:=by
 intro b hb
 rcases x with⟨c,o⟩|⟨v,e,sz,n,xs⟩
 .simp only[bu.sD,XS]at hb;subst hb
  exact⟨h.1,(B4.1 h.2).1⟩
 exact World.ownsRow.lt h b hb
theorem bu.DC{base:Nat}{w w':World}{x:bu}(h:x.ok base w)(hb:∀b,x.sD=some b->w'.heap[b]?=w.heap[b]?):x.ok base w':=by
 rcases x with⟨c,o⟩|⟨v,e,sz,n,xs⟩
 .exact⟨h.1,(hb c O).trans h.2⟩
 refine⟨h.1,?_⟩
 rcases h.2 with hn|⟨gb,cap,cur,rfl,h1,h2,rest⟩
 .exact .inl hn
 exact .inr ⟨gb,cap,cur,rfl,h1,(hb gb O).trans h2,rest⟩
section hp
variable{w0 w w':World}{L:List bu}
theorem Hp.start(w:World):Hp w w []:=⟨Below.refl _ _,fun _ h=>mH,List.Pairwise.nil⟩
theorem Hp.size(h:Hp w0 w L):w0.heap.size<=w.heap.size:=h.below.size
theorem Hp.drew(h:Hp w0 w L):Hp w0 w.drew L:=⟨h.below.drew,fun x hx=>bu.DC (h.ok x hx) fun _ _=>rfl,h.LZ⟩
theorem Hp.call(h:Hp w0 w L)(hb:Below w.heap.size w w'):Hp w0 w' L:=
 ⟨h.below.trans (hb.mono h.size),fun x hx=>bu.DC (h.ok x hx) fun b hf=>hb.block b (bu.Jz (h.ok x hx) b hf).2,h.LZ⟩
theorem Hp.alloc(h:Hp w0 w L)(o:Obj):Hp w0 (w.alloc o) (.blk w.heap.size o::L):=by
 refine⟨h.below.alloc h.size o,fun x hx=> ?_,?_⟩
 .rcases c8.1 hx with rfl|hx
  .exact⟨h.size,heap_alloc_new w o⟩
  exact bu.DC (h.ok x hx) fun b hf=>Below.heap_alloc w o b (bu.Jz (h.ok x hx) b hf).2
 refine List.Pairwise.cons (fun y hy=> ?_) h.LZ
 right
 intro he
 have:=(bu.Jz (h.ok y hy) w.heap.size he.symm).2
 omega
theorem Hp.DD{v:Value}{e:TypeId}{sz n:Nat}{xs:List Value}(h:Hp w0 w L)(hb:Below w.heap.size w w')(hr:w'.ownsRow w.heap.size e sz v n xs):Hp w0 w' (.row v e sz n xs::L):=by
 have h':=h.call hb
 refine⟨h'.below,fun x hx=> ?_,List.Pairwise.cons (fun y hy=> ?_) h.LZ⟩
 .rcases c8.1 hx with rfl|hx
  .refine⟨hr.1,?_⟩
   rcases hr.2 with hn|⟨gb,cap,cur,rfl,h1,rest⟩
   .exact .inl hn
   exact .inr ⟨gb,cap,cur,rfl,kL h.size h1,rest⟩
  exact h'.ok x hx
 .cases hv:v.ownBlock with
  |none=>left;exact hv
  |some b=>
   right
   intro he
   have h1:=(hr.lt b hv).1
   have h2:=(bu.Jz (h.ok y hy) b (by rw[<-he];exact hv)).2
   omega
theorem Hp.eR(h:Hp w0 w L)(e:TypeId)(sz:Nat):Hp w0 w (.row (.slice none 0 0) e sz 0 []::L):=
 ⟨h.below,fun x hx=>by
  rcases c8.1 hx with rfl|hx
  .exact World.ownsRow_nil w _ e sz
  exact h.ok x hx,List.Pairwise.cons (fun y hy=> .inl O) h.LZ⟩
theorem Hp.tail{x:bu}(h:Hp w0 w (x::L)):Hp w0 w L:=⟨h.below,fun y hy=>h.ok y (fX _ hy),h.LZ.tail⟩
theorem Hp.sub{L':List bu}(h:Hp w0 w L)(hs:L'.Sublist L):Hp w0 w L':=⟨h.below,fun y hy=>h.ok y (hs.subset hy),h.LZ.sublist hs⟩
theorem Hp.blk{i b:Nat}{o:Obj}(h:Hp w0 w L)(hi:L[i]?=some (.blk b o)):w.heap[b]?=some o:=(h.ok _ (lR hi)).2
theorem Hp.cell{i b off:Nat}{c:Array Value}{e:TypeId}{fr:Nat×Nat}{v:Value}(h:Hp w0 w L)(hi:L[i]?=some (.blk b (.cells c e fr)))(hc:c[off]?=some v):w.cell? ⟨b,off,none⟩=some v:=by
 rw[xS w b off c e fr (h.blk hi)];exact hc
theorem Hp.range{i b off:Nat}{c:Array Value}{e:TypeId}{fr:Nat×Nat}{cs:List Value}(h:Hp w0 w L)(hi:L[i]?=some (.blk b (.cells c e fr)))(hc:∀j v,cs[j]?=some v->c[off+j]?=some v):w.rangeAt b off cs:=
 fun j v hv=>h.cell hi (hc j v hv)
theorem Cq{i:Nat}{x x':bu}(hi:L[i]?=some x)(hf:x'.sD=x.sD)(hd:L.Pairwise fun x y=>x.sD=none\/x.sD≠y.sD):(L.set i x').Pairwise fun x y=>x.sD=none\/x.sD≠y.sD:=by
 have hm:(L.set i x').map bu.sD=L.map bu.sD:=by
  rw[List.map_set,hf]
  apply ug
  intro j
  rw[p9]
  split
  .rename_i hij;subst hij
   simp[hi]
   exact(nX.1 hi).1
  rfl
 have h1:(L.map bu.sD).Pairwise fun x y=>x=none\/x≠y:=HL.2 hd
 rw[<-hm]at h1
 exact HL.1 h1
theorem Hp.set{i b:Nat}{c c':Array Value}{e:TypeId}(h:Hp w0 w L)(hi:L[i]?=some (.blk b (.cells c e (0,0)))):Hp w0 (w.setRow b c') (L.set i (.blk b (.cells c' e (0,0)))):=by
 have hx:=h.ok _ (lR hi)
 have hil:=(nX.1 hi).1
 refine⟨below_setRow h.below hx.1 c',fun y hy=> ?_,Cq hi O h.LZ⟩
 obtain⟨j,hj,Fk⟩:=vc.1 hy
 rw[zG]at Fk
 split at Fk
 .subst Fk
  exact⟨hx.1,setRow_heap w b c c' e (0,0) hx.2⟩
 rename_i hne
 have hjL:j<L.length:=by simpa using hj
 have hyL:y∈L:=Fk▸r8 hjL
 refine bu.DC (h.ok y hyL) fun bb hf=>setRow_other w b bb c' fun J4=> ?_
 subst J4
 have hp:=Rh.1 h.LZ
 have hLi:L[i]= .blk bb (.cells c e (0,0)):=(nX.1 hi).2
 rcases XO hne with hlt|hgt
 .rcases hp i j hil hjL hlt with h0|h0
  .rw[hLi]at h0;cases h0
  rw[hLi,Fk,hf]at h0;exact h0 O
 rcases hp j i hjL hil hgt with h0|h0
 .rw[Fk,hf]at h0;cases h0
 rw[hLi,Fk,hf]at h0;exact h0 O
theorem Hp.get{i:Nat}{x:bu}(h:Hp w0 w L)(hi:L[i]?=some x):x.ok w0.heap.size w:=h.ok _ (lR hi)
end hp
def sb:Value->Nat
 | .slice (some a) _ _=>a.block
 |_=>0
def so:Value->Nat
 | .slice (some a) _ _=>a.off
 |_=>0
structure Sl(w:World)(v:Value)(sz n:Nat)(cells:List Value):Prop where
 shape:∃a cap,v= .slice a n cap/\n<=cap/\(0<n->a=some ⟨sb v,so v,none⟩)
 len:cells.length=n*sz
 cell:∀j c,cells[j]?=some c->w.cell? ⟨sb v,so v+j,none⟩=some c
 small:n<=maxLen
section sl
variable{P:Program}{w0 w w':World}{L:List bu}{v:Value}{sz n:Nat}{cells:List Value}
theorem Sl.nil(w:World)(sz:Nat):Sl w (.slice none 0 0) sz 0 []:=⟨⟨none,0,rfl,fh _,fun h=>J⟩,aJ,fun j c h=>by simp at h,gd⟩
theorem Sl.below(h:Sl w v sz n cells)(hb:Below w.heap.size w w'):Sl w' v sz n cells:=
 ⟨h.shape,h.len,fun j c hc=>by
  have h1:=h.cell j c hc
  rw[hb.cell (World.block_lt_of_cell? w _ h1)];exact h1,h.small⟩
theorem Sl.hp(h:Sl w0 v sz n cells)(hp:Hp w0 w L):Sl w v sz n cells:=h.below hp.below
theorem Sl.Sf{base:Nat}{e:TypeId}(h:w.ownsRow base e sz v n cells):Sl w v sz n cells:=by
 obtain⟨h1,h2⟩:=h
 rcases h2 with⟨rfl,rfl⟩|⟨gb,cap,cur,rfl,hb,hg,hn,hm,hs,ht⟩
 .have:cells=[]:=zC Fj
  subst this;exact Sl.nil w sz
 refine⟨⟨_,cap,rfl,hn,fun _=>rfl⟩,h1,fun j c hc=> ?_,kL hn hm⟩
 simp only[sb,so,gO]
 rw[xS w _ _ cur e (0,0) hg]
 rw[<-ht,u9]at hc
 split at hc
 .simpa using hc
 .cases hc
theorem Hp.sl{i:Nat}{e:TypeId}(h:Hp w0 w L)(hi:L[i]?=some (.row v e sz n cells)):Sl w v sz n cells:=Sl.Sf (h.get hi)
theorem Hp.dS{i b:Nat}{c:Array Value}{e:TypeId}(h:Hp w0 w L)(hi:L[i]?=some (.blk b (.cells c e (0,0))))(hl:c.size=n*sz)(hs:n<=maxLen):Sl w (.slice (some ⟨b,0,none⟩) n n) sz n c.toList:=
 ⟨⟨_,n,rfl,fh _,fun _=>rfl⟩,by simpa using hl,fun j u hu=>by
  simp only[sb,so,gO]
  exact h.cell hi q5,hs⟩
section ops
variable{σ:Env}{dst:Option Tmp}{ty t:TypeId}{pos:String}{bO:Array Edge}{g:Option (Nat×Bool)}{x y:Operand}
theorem ah{e:TypeId}{k:IntKind}{i:Int}(hS:Sl w v sz n cells)(hu:P.underlying t=some (.slice e))(hs:∀w,(sizeOf e).run P w= .ok sz w)
  (hx:ev σ x=v) (hy:ev σ y= .int k i) (hi:0<=i/\i<n):
  (execOp (ev σ) ⟨dst,.indexAddr t x y,ty,pos,bO,g⟩).run P w= .ok (.value (.pointer (some ⟨sb v,so v+i.toNat*sz,none⟩))) w:=by
 obtain⟨a,cap,hv,hnc,ha⟩:=hS.shape
 have ha':=ha J
 have hx':ev σ x= .slice (some ⟨sb v,so v,none⟩) n cap:=by rw[hx,hv,<-hv];rw[<-ha'];exact hv
 simp[execOp,Instr.indexAt,kp hu,hx',hy,asIntOf,hi,hs,HQ]
theorem aC{e:TypeId}{ats:Array TypeId}(hS:Sl w v sz n cells)(ht:ats[0]?=some t)(hu:P.underlying t=some (.slice e))(hx:ev σ x=v):
  (execOp (ev σ) ⟨dst,.call {callee:= .builtin .len,args:=#[x],argTypes:=ats},ty,pos,bO,g⟩).run P w= .ok (.value (I n)) w:=by
 obtain⟨a,cap,hv,hnc,ha⟩:=hS.shape
 exact af5 ht hu hx hv
end ops
end sl
section aC9
variable{P:Program}{n:Nat}{ops:Array Oper}{k:K}{rest:List Oper}{σ:Env}{w0 w:World}{L:List bu}{op:Op}{ty:TypeId}{pos:String}{bO:Array Edge}{d:Nat}
theorem YB{o:Obj}(hd:Nat.blt d n=true)(hH:Hp w0 w L){f:Nat->Value}(hr:(execOp (ev σ) ⟨some d,op,ty,pos,bO,none⟩).run P w= .ok (.value (f w.heap.size)) (w.alloc o))
  (hk:∀b w',Hp w0 w' (.blk b o::L)->RL P n ops k rest (lZ σ d (f b)) w'):RL P n ops k (⟨some d,op,ty,pos,bO,none⟩::rest) σ w:=
 pu hd hr (hk _ _ (hH.alloc o))
theorem bk{i b:Nat}{c c':Array Value}{e:TypeId}(hH:Hp w0 w L)(hi:L[i]?=some (.blk b (.cells c e (0,0))))
  (hr:(execOp (ev σ) ⟨none,op,ty,pos,bO,none⟩).run P w= .ok .skip (w.setRow b c'))
  (hk:∀w',Hp w0 w' (L.set i (.blk b (.cells c' e (0,0))))->RL P n ops k rest σ w'):RL P n ops k (⟨none,op,ty,pos,bO,none⟩::rest) σ w:=
 Ie hr (hk _ (hH.set hi))
def Pure(v:Value)(w:World):Ending->World->Prop:=jY fun u w'=>u=v/\Below w.heap.size w w'
def sZ(e:TypeId)(sz m:Nat)(xs:List Value)(w:World):Ending->World->Prop:=jY fun v w'=>w'.ownsRow w.heap.size e sz v m xs/\Below w.heap.size w w'
theorem aH{f:FuncId}{args:Array Value}{v:Value}(hd:Nat.blt d n=true)(hH:Hp w0 w L)(hc:Calls P f args w (Pure v w))
  (hr:(execOp (ev σ) ⟨some d,op,ty,pos,bO,none⟩).run P w= .ok (.enter f args) w)
  (hk:∀w',Hp w0 w' L->RL P n ops k rest (lZ σ d v) w'):RL P n ops k (⟨some d,op,ty,pos,bO,none⟩::rest) σ w:=
 Ig hd hr hc fun u w' ⟨hu,hb⟩=>by subst hu;exact hk w' (hH.call hb)
theorem Cr{f:FuncId}{args:Array Value}{e:TypeId}{sz m:Nat}{xs:List Value}(hd:Nat.blt d n=true)(hH:Hp w0 w L)(hc:Calls P f args w (sZ e sz m xs w))
  (hr:(execOp (ev σ) ⟨some d,op,ty,pos,bO,none⟩).run P w= .ok (.enter f args) w)
  (hk:∀v w',Hp w0 w' (.row v e sz m xs::L)->RL P n ops k rest (lZ σ d v) w'):RL P n ops k (⟨some d,op,ty,pos,bO,none⟩::rest) σ w:=
 Ig hd hr hc fun u w' ⟨hu,hb⟩=>hk u w' (hH.DD hb hu)
end aC9
def AN(P:Program)(n:Nat)(l:List Oper)(S:World->Prop)(k:K)(fuel:Nat)(listed:Array Bool)(σ:Env)(w:World):Prop:=
 ∀a,Is n σ a->wpAnyH P .any l.toArray (r9 n k) S fuel listed a w
section af8
variable{P:Program}{n:Nat}{l:List Oper}{S:World->Prop}{k:K}{xs:List (Nat×K)}{r:K}{σ:Env}{w w0:World}{L:List bu}{fuel i d:Nat}{listed:Array Bool}{op:Op}{ty:TypeId}{pos:String}{bO:Array Edge}{g:Option (Nat×Bool)}{v:Value}{dst:Option Tmp}
theorem ed{id:Nat}(hm:P.follows .mixedOrders=true)(hH:Hp w0 w L)
  (h:∀w',Hp w0 w' L->AN P n l (fun w=>Hp w0 w L) k l.length (Array.replicate l.length false) σ w'):CW P n (.region id l.toArray true) k xs r σ w:=by
 intro a ha
 refine zK (fun e a' w' hq=> ?_) (Yc (id:=id) (Q:=r9 n k) hm (Yd (S:=fun w=>Hp w0 w L) _ _ _ _ ?_))
 .cases e with
  |normal=>exact hq
  |exit id=>exact hq.elim
  |ret=>exact hq.elim
  |goto l=>exact hq.elim
  |panic c=>exact hq.elim
  |outgrown=>exact hq.elim
 have:=h _ hH.drew a ha
 simpa using this
theorem awg(hr:Region.ready .any l.toArray listed=[])(h:k σ w):AN P n l S k fuel listed σ w:=by
 intro a ha
 cases fuel with
 |zero=>exact⟨hr,σ,ha,h⟩
 |succ f=>exact⟨fun _=>⟨σ,ha,h⟩,fun i hi=>by rw[hr]at hi;cases hi⟩
theorem af9(i:Nat)(hi:l[i]?=some ⟨some d,op,ty,pos,bO,none⟩)(hd:Nat.blt d n=true)(hs:Region.noSelect l.toArray=true)(hf:Region.free .any l.toArray listed i=true)
  (hr:(Region.ready .any l.toArray listed).contains i=true) (hS:S w) (hy:∀w,S w->(execOp (ev σ) ⟨some d,op,ty,pos,bO,none⟩).run P w= .ok (.value v) w)
  (h:AN P n l S k fuel (listed.setIfInBounds i true) (lZ σ d v) w):AN P n l S k (fuel+1) listed σ w:=by
 intro a ha
 refine RK (i:=i) (oi:=⟨some d,op,ty,pos,bO,none⟩) (v:=v) zR hs hf hr (fun c a w hq=>hq.elim) (.inl ⟨rfl,fun w hw=> ?_⟩) hS (h _ (ha.put hd v))
 rw[ha.eval];exact hy w hw
theorem arq(i:Nat){j dj:Nat}{want:Bool}(hi:l[i]?=some ⟨some d,op,ty,pos,bO,some (j,want)⟩)(hj:(l[j]?).bind (·.dst)=some dj)(hb:σ dj= .bool want)(hd:Nat.blt d n=true)
  (hs:Region.noSelect l.toArray=true) (hf:Region.free .any l.toArray listed i=true)
  (hr:(Region.ready .any l.toArray listed).contains i=true) (hS:S w) (hy:∀w,S w->(execOp (ev σ) ⟨some d,op,ty,pos,bO,some (j,want)⟩).run P w= .ok (.value v) w)
  (h:AN P n l S k fuel (listed.setIfInBounds i true) (lZ σ d v) w):AN P n l S k (fuel+1) listed σ w:=by
 intro a ha
 refine RK (i:=i) (oi:=⟨some d,op,ty,pos,bO,some (j,want)⟩) (v:=v) zR hs hf hr (fun c a w hq=>hq.elim)
  (.inl ⟨by rw[Ih ha (by simpa using hj) hb];simp,fun w hw=> ?_⟩) hS (h _ (ha.put hd v))
 rw[ha.eval];exact hy w hw
theorem awh(i:Nat){j dj:Nat}{b want:Bool}(hi:l[i]?=some ⟨some d,op,ty,pos,bO,some (j,want)⟩)(hj:(l[j]?).bind (·.dst)=some dj)(hb:σ dj= .bool b)(hne:(b==want)=false)(hd:Nat.blt d n=true)
  (hs:Region.noSelect l.toArray=true) (hf:Region.free .any l.toArray listed i=true)
  (hr:(Region.ready .any l.toArray listed).contains i=true) (hS:S w)
  (h:AN P n l S k fuel (listed.setIfInBounds i true) (lZ σ d undef) w):AN P n l S k (fuel+1) listed σ w:=by
 intro a ha
 exact RK (i:=i) (oi:=⟨some d,op,ty,pos,bO,some (j,want)⟩) (v:=undef) zR hs hf hr (fun c a w hq=>hq.elim)
  (.inr ⟨by rw[Ih ha (by simpa using hj) hb];exact hne,rfl⟩) hS (h _ (ha.put hd undef))
theorem awi(i:Nat){j dj:Nat}{want:Bool}(hi:l[i]?=some ⟨some d,op,ty,pos,bO,some (j,want)⟩)(hj:(l[j]?).bind (·.dst)=some dj)(hu:σ dj=undef)(hd:Nat.blt d n=true)
  (hs:Region.noSelect l.toArray=true) (hf:Region.free .any l.toArray listed i=true)
  (hr:(Region.ready .any l.toArray listed).contains i=true) (hS:S w)
  (h:AN P n l S k fuel (listed.setIfInBounds i true) (lZ σ d undef) w):AN P n l S k (fuel+1) listed σ w:=by
 intro a ha
 exact RK (i:=i) (oi:=⟨some d,op,ty,pos,bO,some (j,want)⟩) (v:=undef) zR hs hf hr (fun c a w hq=>hq.elim)
  (.inr ⟨Gd ha (by simpa using hj) hu _,rfl⟩) hS (h _ (ha.put hd undef))
def AO(P:Program)(n:Nat)(l:List Oper)(S:World->Prop)(k:K)(fuel:Nat)(listed:Array Bool)(σ:Env)(w:World)(i:Nat):Prop:=
 ∀a,Is n σ a->wpOp P l.toArray (r9 n k) i (fun a' w'=>S w'/\wpAnyH P .any l.toArray (r9 n k) S fuel (listed.setIfInBounds i true) a' w') a w
theorem aa3(rs:List Nat)(hr:Region.ready .any l.toArray listed=rs)(hne:rs.isEmpty=false)(h:∀i∈rs,AO P n l S k fuel listed σ w i):AN P n l S k (fuel+1) listed σ w:=by
 intro a ha
 exact wpAnyH_all hr (by intro h0;simp[h0]at hne) fun i hi=>h i hi a ha
theorem awj(i:Nat)(hr:Region.ready .any l.toArray listed=[i])(h:AO P n l S k fuel listed σ w i):AN P n l S k (fuel+1) listed σ w:=by simp_all[aa3]
theorem YC{o:Oper}(hi:l[i]?=some o)(hw:∀a,Is n σ a->Region.wanted o (yielded l.toArray a.tmps)=true)
  (h:∀a,Is n σ a->o.upon P a (fun a' w'=>S w'/\wpAnyH P .any l.toArray (r9 n k) S fuel (listed.setIfInBounds i true) a' w') (r9 n k) ((execOp (ev σ) o).run P w)):AO P n l S k fuel listed σ w i:=by
 intro a ha
 have hi':l.toArray[i]?=some o:=zR
 unfold wpOp
 simp only[hi',hw a ha,ur]
 refine .inl ?_
 unfold Oper.wp
 rw[ha.eval]
 exact h a ha
theorem Cs{w':World}(hi:l[i]?=some ⟨some d,op,ty,pos,bO,g⟩)(hg:∀a,Is n σ a->Region.wanted ⟨some d,op,ty,pos,bO,g⟩ (yielded l.toArray a.tmps)=true)(hd:Nat.blt d n=true)
  (hr:(execOp (ev σ) ⟨some d,op,ty,pos,bO,g⟩).run P w= .ok (.value v) w') (hS:S w') (h:AN P n l S k fuel (listed.setIfInBounds i true) (lZ σ d v) w'):AO P n l S k fuel listed σ w i:=
 YC hi hg fun a ha=>by rw[hr];exact⟨hS,h _ (ha.put hd v)⟩
theorem Ii{w':World}(hi:l[i]?=some ⟨none,op,ty,pos,bO,g⟩)(hg:∀a,Is n σ a->Region.wanted ⟨none,op,ty,pos,bO,g⟩ (yielded l.toArray a.tmps)=true)
  (hr:(execOp (ev σ) ⟨none,op,ty,pos,bO,g⟩).run P w= .ok .skip w') (hS:S w') (h:AN P n l S k fuel (listed.setIfInBounds i true) σ w'):AO P n l S k fuel listed σ w i:=
 YC hi hg fun a ha=>by rw[hr];exact⟨hS,h _ ha⟩
theorem Sg{f:FuncId}{args:Array Value}{q:Value->World->Prop}(hi:l[i]?=some ⟨some d,op,ty,pos,bO,g⟩)(hg:∀a,Is n σ a->Region.wanted ⟨some d,op,ty,pos,bO,g⟩ (yielded l.toArray a.tmps)=true)(hd:Nat.blt d n=true)
  (hc:Calls P f args w (jY q)) (hr:(execOp (ev σ) ⟨some d,op,ty,pos,bO,g⟩).run P w= .ok (.enter f args) w)
  (h:∀v w',q v w'->S w'/\AN P n l S k fuel (listed.setIfInBounds i true) (lZ σ d v) w'):AO P n l S k fuel listed σ w i:=
 YC hi hg fun a ha=>by
  rw[hr]
  refine hc.mono fun e w' hq=> ?_
  cases e with
  |returned v=>exact⟨(h v w' hq).1,(h v w' hq).2 _ (ha.put hd v)⟩
  |panicked c=>exact hq.elim
  |outgrown=>exact hq.elim
theorem aD(a:Act)(_:Is n σ a):Region.wanted ⟨dst,op,ty,pos,bO,none⟩ (yielded l.toArray a.tmps)=true:=rfl
theorem A8{j dj:Nat}{want:Bool}(hj:(l[j]?).bind (·.dst)=some dj)(hb:σ dj= .bool want)(a:Act)(ha:Is n σ a):Region.wanted ⟨dst,op,ty,pos,bO,some (j,want)⟩ (yielded l.toArray a.tmps)=true:=by grind[Ih]
theorem cH{L':List bu}{o:Obj}{f:Nat->Value}(hi:l[i]?=some ⟨some d,op,ty,pos,bO,g⟩)(hg:∀a,Is n σ a->Region.wanted ⟨some d,op,ty,pos,bO,g⟩ (yielded l.toArray a.tmps)=true)(hd:Nat.blt d n=true)
  (hH:Hp w0 w L') (hs:L.Sublist L') (hr:(execOp (ev σ) ⟨some d,op,ty,pos,bO,g⟩).run P w= .ok (.value (f w.heap.size)) (w.alloc o))
  (h:∀b w',Hp w0 w' (.blk b o::L')->AN P n l (fun w=>Hp w0 w L) k fuel (listed.setIfInBounds i true) (lZ σ d (f b)) w'):AO P n l (fun w=>Hp w0 w L) k fuel listed σ w i:=
 Cs hi hg hd hr ((hH.alloc o).sub (hs.cons _)) (h _ _ (hH.alloc o))
theorem cw{L':List bu}{f:FuncId}{args:Array Value}(hi:l[i]?=some ⟨some d,op,ty,pos,bO,g⟩)(hg:∀a,Is n σ a->Region.wanted ⟨some d,op,ty,pos,bO,g⟩ (yielded l.toArray a.tmps)=true)(hd:Nat.blt d n=true)
  (hH:Hp w0 w L') (hs:L.Sublist L') (hc:Calls P f args w (Pure v w)) (hr:(execOp (ev σ) ⟨some d,op,ty,pos,bO,g⟩).run P w= .ok (.enter f args) w)
  (h:∀w',Hp w0 w' L'->AN P n l (fun w=>Hp w0 w L) k fuel (listed.setIfInBounds i true) (lZ σ d v) w'):AO P n l (fun w=>Hp w0 w L) k fuel listed σ w i:=
 Sg hi hg hd hc hr fun u w' ⟨hu,hb⟩=>by subst hu;exact⟨(hH.call hb).sub hs,h w' (hH.call hb)⟩
theorem L3{L':List bu}{f:FuncId}{args:Array Value}{e:TypeId}{sz m:Nat}{ys:List Value}(hi:l[i]?=some ⟨some d,op,ty,pos,bO,g⟩)(hg:∀a,Is n σ a->Region.wanted ⟨some d,op,ty,pos,bO,g⟩ (yielded l.toArray a.tmps)=true)(hd:Nat.blt d n=true)
  (hH:Hp w0 w L') (hs:L.Sublist L') (hc:Calls P f args w (sZ e sz m ys w)) (hr:(execOp (ev σ) ⟨some d,op,ty,pos,bO,g⟩).run P w= .ok (.enter f args) w)
  (h:∀u w',Hp w0 w' (.row u e sz m ys::L')->AN P n l (fun w=>Hp w0 w L) k fuel (listed.setIfInBounds i true) (lZ σ d u) w'):AO P n l (fun w=>Hp w0 w L) k fuel listed σ w i:=
 Sg hi hg hd hc hr fun u w' ⟨hu,hb⟩=>⟨(hH.call hb).sub hs,h u w' (hH.DD hb hu)⟩
end af8
def Fr(ws:List Nat)(σ σ':Env):Prop:=∀i,ws.contains i=false->σ' i=σ i
theorem Fr.refl(ws:List Nat)(σ:Env):Fr ws σ σ:=fun _ _=>rfl
theorem Fr.u{ws:List Nat}{σ σ':Env}{d:Nat}{v:Value}(h:Fr ws σ σ')(hd:ws.contains d=true):Fr ws σ (lZ σ' d v):=fun i hi=>by
 rw[Yx];exact h i hi
 intro e;subst e;rw[hd]at hi;cases hi
theorem Fr.t{ws ws2:List Nat}{σ σ' awk:Env}(h:Fr ws σ σ')(h2:Fr ws2 σ' awk)(hs:ws2.all (ws.contains ·)=true):Fr ws σ awk:=fun i hi=>by
 rw[h2 i,h i hi]
 cases hc:ws2.contains i with
 |false=>rfl
 |true=>
  have:=iR.1 hs i (by simpa using hc)
  rw[hi]at this;cases this
section short
variable{P:Program}{n:Nat}{ops:Array Oper}{k:K}{xs:List (Nat×K)}{r:K}{rest l:List Oper}{σ:Env}{w:World}{b:Bool}{p:Prop}{v:Value}
theorem bT[Decidable p](h:p):Value.bool (decide p)= .bool true:=by grind
theorem bF[Decidable p](h:¬p):Value.bool (decide p)= .bool false:=by grind
theorem bR{c:Bool}(h:b=c):Value.bool b= .bool c:=aK Value.bool h
theorem aDb{dj:Nat}(hb:σ dj= .bool b)(ht:b=true->RL P n ops k l σ w)(hf:b=false->RL P n ops k l σ w):RL P n ops k l σ w:=by grind
theorem aDc[Decidable p]{dj:Nat}(hb:σ dj= .bool (decide p))(ht:p->RL P n ops k l σ w)(hf:¬p->RL P n ops k l σ w):RL P n ops k l σ w:=by grind
theorem L4{S:World->Prop}{fuel:Nat}{listed:Array Bool}{dj:Nat}(hb:σ dj= .bool b)(ht:b=true->AN P n l S k fuel listed σ w)(hf:b=false->AN P n l S k fuel listed σ w):AN P n l S k fuel listed σ w:=by grind
theorem Cu{S:World->Prop}{fuel:Nat}{listed:Array Bool}[Decidable p]{dj:Nat}(hb:σ dj= .bool (decide p))(ht:p->AN P n l S k fuel listed σ w)(hf:¬p->AN P n l S k fuel listed σ w):AN P n l S k fuel listed σ w:=by grind
variable{dst:Option Tmp}{ty:TypeId}{pos:String}{bO:Array Edge}{g:Option (Nat×Bool)}{f:FuncId}{ats:Array TypeId}{x1 x2 x3 x4 x5 x6 x:Operand}{v1 v2 v3 v4 v5 v6:Value}{cap:Array Value}
theorem DE(hf:∀args w,(callFunc f args).run P w= .ok (.enter f args) w):
 (execOp (ev σ) ⟨dst,.call {callee:= .value (.func f),args:=#[],argTypes:=ats},ty,pos,bO,g⟩).run P w= .ok (.enter f #[]) w:=yG (HC:=[]) hf O
theorem ay(hf:∀args w,(callFunc f args).run P w= .ok (.enter f args) w)(h1:ev σ x1=v1):
 (execOp (ev σ) ⟨dst,.call {callee:= .value (.func f),args:=#[x1],argTypes:=ats},ty,pos,bO,g⟩).run P w= .ok (.enter f #[v1]) w:=by grind[yG]
theorem aM(hf:∀args w,(callFunc f args).run P w= .ok (.enter f args) w)(h1:ev σ x1=v1)(h2:ev σ x2=v2):
 (execOp (ev σ) ⟨dst,.call {callee:= .value (.func f),args:=#[x1,x2],argTypes:=ats},ty,pos,bO,g⟩).run P w= .ok (.enter f #[v1,v2]) w:=by grind[yG]
theorem bz(hf:∀args w,(callFunc f args).run P w= .ok (.enter f args) w)(h1:ev σ x1=v1)(h2:ev σ x2=v2)(h3:ev σ x3=v3):
 (execOp (ev σ) ⟨dst,.call {callee:= .value (.func f),args:=#[x1,x2,x3],argTypes:=ats},ty,pos,bO,g⟩).run P w= .ok (.enter f #[v1,v2,v3]) w:=by grind[yG]
theorem jH(hf:∀args w,(callFunc f args).run P w= .ok (.enter f args) w)(h1:ev σ x1=v1)(h2:ev σ x2=v2)(h3:ev σ x3=v3)(h4:ev σ x4=v4):
 (execOp (ev σ) ⟨dst,.call {callee:= .value (.func f),args:=#[x1,x2,x3,x4],argTypes:=ats},ty,pos,bO,g⟩).run P w= .ok (.enter f #[v1,v2,v3,v4]) w:=by grind[yG]
theorem sE(hf:∀args w,(callFunc f args).run P w= .ok (.enter f args) w)(h1:ev σ x1=v1)(h2:ev σ x2=v2)(h3:ev σ x3=v3)(h4:ev σ x4=v4)(h5:ev σ x5=v5):
 (execOp (ev σ) ⟨dst,.call {callee:= .value (.func f),args:=#[x1,x2,x3,x4,x5],argTypes:=ats},ty,pos,bO,g⟩).run P w= .ok (.enter f #[v1,v2,v3,v4,v5]) w:=by grind[yG]
theorem YD(hf:∀args w,(callFunc f args).run P w= .ok (.enter f args) w)(hx:ev σ x= .func (.func f) #[] cap)(h1:ev σ x1=v1):
 (execOp (ev σ) ⟨dst,.call {callee:= .value x,args:=#[x1],argTypes:=ats},ty,pos,bO,g⟩).run P w= .ok (.enter f (#[v1]++cap)) w:=by grind[PE]
theorem Cv{fn:Fn}(h1:ev σ x1=v1):(execOp (ev σ) ⟨dst,.makeFunc fn #[] #[x1],ty,pos,bO,g⟩).run P w= .ok (.value (.func fn #[] #[v1])) w:=by grind[uK]
theorem s6{fn:Fn}(h1:ev σ x1=v1)(h2:ev σ x2=v2):(execOp (ev σ) ⟨dst,.makeFunc fn #[] #[x1,x2],ty,pos,bO,g⟩).run P w= .ok (.value (.func fn #[] #[v1,v2])) w:=by grind[uK]
theorem L5{fn:Fn}(h1:ev σ x1=v1)(h2:ev σ x2=v2)(h3:ev σ x3=v3):(execOp (ev σ) ⟨dst,.makeFunc fn #[] #[x1,x2,x3],ty,pos,bO,g⟩).run P w= .ok (.value (.func fn #[] #[v1,v2,v3])) w:=by grind[uK]
variable{fn:Func}{w0:World}
theorem Gg{t:Nat}(h:fn.results=#[.tmp t])(hv:σ t=v)(hb:Below w0.heap.size w0 w):Out P fn (fun u w'=>u=v/\Below w0.heap.size w0 w') σ w:=jA h hv ⟨rfl,hb⟩
theorem kA{t u:Nat}{y z:Value}(h:fn.results=#[.tmp t,.tmp u])(hy:σ t=y)(hz:σ u=z)(hb:Below w0.heap.size w0 w):Out P fn (fun u w'=>u= .tuple #[y,z]/\Below w0.heap.size w0 w') σ w:=af1 h hy hz ⟨rfl,hb⟩
end short
section app
variable{P:Program}{w0 w:World}{L:List bu}
theorem s7{base:Nat}{t ty e:TypeId}{i:TypeInfo}{z:Value}{size bytes:Nat}(ht:P.underlying t=some (.slice e))(hi:P.info? e=some i)(hz:i.zero=some z)
  (hsize:i.size=size) (hby:i.bytes=bytes) (hzs:z.cells.size=size) (hsz:0<size)
  {v:Value} {n:Nat} {xs:List Value} (hown:w.ownsRow base e size v n xs) {y:Value} {m:Nat} {news:List Value} (hS:Sl w y size m news) (h1:∀u∈news,u.oneCell'=true)
  (h63:n+m<=maxLen) (hbytes:(n+m)*bytes<=140737488355328) (hbase:base<=w.heap.size):
  ∃v' w',(Builtin.append_ #[t,t] ty #[v,y]).run P w= .ok v' w'/\w'.ownsRow base e size v' (n+m) (xs++news)/\w.grownBy w' v.ownBlock/\
   (v'.ownBlock=none\/v'.ownBlock=v.ownBlock\/v'.ownBlock=some w.heap.size):=by
 obtain⟨a,c,hy,hnc,ha⟩:=hS.shape
 by_cases hm:m=0
 .subst hm
  have hn:news=[]:=zC (by simpa using hS.len)
  subst hn
  refine⟨v,w,?_,by simpa using hown,⟨rfl,rfl,rfl,fh _,fun _ _ _=>rfl⟩,.inr (.inl O)⟩
  subst hy
  rcases hown.2 with⟨rfl,rfl⟩|⟨g,cap,cur,rfl,hbg,hg,hnc,hcm,hcs,awl⟩
  .cases a<;>simp[Builtin.append_,kp ht,sizeOf,typeInfo,hi,Builtin.lenOf,Builtin.firstCells,loadCells,loadCellsFrom]
  .cases a<;>simp[Builtin.append_,kp ht,sizeOf,typeInfo,hi,Builtin.lenOf,Builtin.firstCells,loadCells,loadCellsFrom,hnc,storeCells]
 have ha':=ha J
 have hyy:y= .slice (some ⟨sb y,so y,none⟩) m c:=by rw[<-ha'];exact hy
 have hnews:∀j u,news[j]?=some u->w.cell? ((⟨sb y,so y,none⟩:Addr).add j)=some u:=fun j u hu=>by rw[HQ];exact hS.cell j u hu
 obtain⟨v',w',hr,h2,h3,h4⟩:=run_append_own (P:=P) w base t ty e i z size bytes ht hi hz hsize hby hzs hsz v n xs hown ⟨sb y,so y,none⟩ m c news hS.len hnews h1 h63 hbytes hbase
 rw[hyy]
 refine⟨v',w',hr,h2,h3,?_⟩
 subst hsize
 subst hby
 have hsmall:n+m<=9223372036854775807:=by simp only[maxLen]at h63;omega
 rcases hown.2 with⟨rfl,rfl⟩|⟨g,cap,cur,rfl,hbg,hg,hnc,hcm,hcs,awl⟩
 .have hr2:=run_append_nil (P:=P) w t ty e i z ht hi hz ⟨sb y,so y,none⟩ m c news hS.len hnews J J aaY
  rw[hr2]at hr
  injection hr with e1 e2
  subst e1
  exact .inr (.inr O)
 by_cases hroom:n+m<=cap
 .have hfit:n*i.size+news.length<=cur.size:=by rw[hS.len,hcs,<-lz];exact r6 _ hroom
  have hr2:=run_append_room (P:=P) w t ty e i ht hi g n cap cur hg ⟨sb y,so y,none⟩ m c news hS.len hnews h1 hroom hfit
  rw[hr2]at hr
  injection hr with e1 e2
  subst e1
  exact .inr (.inl O)
 have holds:∀j u,xs[j]?=some u->w.cell? ((⟨g,0,none⟩:Addr).add j)=some u:=hown.cells (g:=g) O
 have hr2:=run_append_grow (P:=P) w t ty e i z ht hi hz ⟨g,0,none⟩ n cap xs hown.1 holds ⟨sb y,so y,none⟩ m c news hS.len hnews J J (growslice_fits J hbytes)
 rw[hr2]at hr
 injection hr with e1 e2
 subst e1
 exact .inr (.inr O)
theorem Hp.yH{w':World}{i:Nat}{v v':Value}{e:TypeId}{sz n m:Nat}{xs ys:List Value}(h:Hp w0 w L)(hi:L[i]?=some (.row v e sz n xs))
  (hr:w'.ownsRow w0.heap.size e sz v' m ys) (hg:w.grownBy w' v.ownBlock) (hf:v'.ownBlock=none\/v'.ownBlock=v.ownBlock\/v'.ownBlock=some w.heap.size):Hp w0 w' (L.set i (.row v' e sz m ys)):=by
 have hx:=h.get hi
 have hil:=(nX.1 hi).1
 have hLi:L[i]= .row v e sz n xs:=(nX.1 hi).2
 have hp:=Rh.1 h.LZ
 have aga:∀j (hj:j<L.length),j≠i->∀b,(L[j]).sD=some b->v.ownBlock≠some b:=by
  intro j hj hne b hb he
  rcases XO hne with hlt|hgt
  .rcases hp j i hj hil hlt with h0|h0
   .rw[hb]at h0;cases h0
   rw[hb,hLi]at h0;exact h0 he.symm
  rcases hp i j hil hj hgt with h0|h0
  .rw[hLi]at h0;simp only[bu.sD]at h0;rw[he]at h0;cases h0
  rw[hb,hLi]at h0;exact h0 he
 refine⟨h.below.grown hg h.size fun k hk=>(hx.lt k hk).1,fun y hy=> ?_,?_⟩
 .obtain⟨j,hj,Fk⟩:=vc.1 hy
  rw[zG]at Fk
  split at Fk
  .subst Fk;exact hr
  rename_i hne
  have hjL:j<L.length:=by simpa using hj
  have hyL:y∈L:=Fk▸r8 hjL
  refine bu.DC (h.ok y hyL) fun b hb=>hg.block b (bu.Jz (h.ok y hyL) b hb).2 fun e=> ?_
  exact aga j hjL (fun e=>hne e.symm) b (by rw[Fk];exact hb) e.symm
 refine Rh.2 fun a b ha hb hab=> ?_
 have haL:a<L.length:=by simpa using ha
 have hbL:b<L.length:=by simpa using hb
 rw[zG,zG]
 have key:∀j (hj:j<L.length),j≠i->v'.ownBlock=none\/(L[j]).sD=none\/v'.ownBlock≠(L[j]).sD:=by
  intro j hj hne
  cases hfj:(L[j]).sD with
  |none=>exact .inr (.inl O)
  |some c=>
   rcases hf with h0|h0|h0
   .exact .inl h0
   .refine .inr (.inr fun e=>aga j hj hne c hfj ?_);rw[<-h0,e]
   refine .inr (.inr fun e=> ?_)
   have:=(bu.Jz (h.ok _ (r8 hj)) c hfj).2
   rw[h0]at e;injection e with e;omega
 by_cases hia:i=a
 .subst hia
  rw[aX O,aT J]
  rcases key b hbL (by omega)with h0|h0|h0
  .exact .inl h0
  .cases hv:v'.ownBlock with
   |none=>exact .inl hv
   |some c=>exact .inr (by rw[h0];show v'.ownBlock≠none;rw[hv];simp)
  exact .inr h0
 rw[aT hia]
 by_cases hib:i=b
 .subst hib
  rw[aX O]
  rcases key a haL (by omega)with h0|h0|h0
  .cases hv:(L[a]).sD with
   |none=>exact .inl O
   |some c=>exact .inr (by show some c≠v'.ownBlock;rw[h0];simp)
  .exact .inl h0
  exact .inr fun e=>h0 e.symm
 rw[aT hib]
 exact hp a b haL hbL hab
variable{n:Nat}{ops:Array Oper}{k:K}{rest:List Oper}{σ:Env}{ty:TypeId}{pos:String}{bO:Array Edge}{d:Nat}{x y:Operand}
theorem s0{t:TypeId}{v u:Value}{w':World}{v':Value}{dst:Option Tmp}{g:Option (Nat×Bool)}(hx:ev σ x=v)(hy:ev σ y=u)(hr:(Builtin.append_ #[t,t] ty #[v,u]).run P w= .ok v' w'):
  (execOp (ev σ) ⟨dst,.call {callee:= .builtin .append,args:=#[x,y],argTypes:=#[t,t]},ty,pos,bO,g⟩).run P w= .ok (.value v') w':=by
 simp[execOp,resolve,invoke,builtin,hx,hy,hr]
theorem gf{t e:TypeId}{i:Nat}{ie:TypeInfo}{z:Value}{size bytes:Nat}{v u:Value}{m m':Nat}{xs news:List Value}(hd:Nat.blt d n=true)(hH:Hp w0 w L)(hL:L[i]?=some (.row v e size m xs))(hS:Sl w u size m' news)
  (hx:ev σ x=v) (hy:ev σ y=u) (ht:P.underlying t=some (.slice e)) (hi:P.info? e=some ie) (hz:ie.zero=some z)
  (hsize:ie.size=size) (hby:ie.bytes=bytes) (hzs:z.cells.size=size) (hsz:0<size) (h1:∀u∈news,u.oneCell'=true)
  (hbytes:(m+m')*bytes<=140737488355328) (h63:m+m'<=maxLen)
  (hk:∀v' w',Hp w0 w' (L.set i (.row v' e size (m+m') (xs++news)))->RL P n ops k rest (lZ σ d v') w'):
  RL P n ops k (⟨some d,.call {callee:= .builtin .append,args:=#[x,y],argTypes:=#[t,t]},ty,pos,bO,none⟩::rest) σ w:=by
 obtain⟨v',w',hr,h2,h3,h4⟩:=s7 (P:=P) (ty:=ty) ht hi hz hsize hby hzs hsz (hH.get hL) hS h1 h63 hbytes hH.size
 exact pu hd (s0 hx hy hr) (hk v' w' (hH.yH hL h2 h3 h4))
end app
theorem clI(k:IntKind)(n:Int):(Value.int k n).cells.toList=[Value.int k n]:=rfl
theorem clB(b:Bool):(Value.bool b).cells.toList=[Value.bool b]:=rfl
theorem clS(b:ByteArray):(Value.string b).cells.toList=[Value.string b]:=rfl
theorem clP(a:Option Addr):(Value.pointer a).cells.toList=[Value.pointer a]:=rfl
theorem clL(a:Option Addr)(n c:Nat):(Value.slice a n c).cells.toList=[Value.slice a n c]:=rfl
theorem clA(l:List Value):(Value.agg l.toArray).cells.toList=l:=rfl
section more
variable{P:Program}{w0 w:World}{L L':List bu}{fn:Func}{σ:Env}
theorem Hp.conv(h:Hp w0 w L)(e:L=L'):Hp w0 w L':=e▸h
theorem Hp.perm(h:Hp w0 w L)(hp:L.Perm L'):Hp w0 w L':=
 ⟨h.below,fun x hx=>h.ok x (hp.mem_iff.2 hx),hp.pairwise h.LZ fun{x y} hxy=>by
  cases hy:y.sD with
  |none=>exact .inl O
  |some b=>
   right
   rcases hxy with h0|h0
   .rw[h0];simp
   rw[hy]at h0;exact fun e=>h0 e.symm⟩
theorem O3{t i:Nat}{v:Value}{e:TypeId}{sz n n':Nat}{xs xs':List Value}(h:fn.results=#[.tmp t])(hv:σ t=v)(hH:Hp w0 w L)(hi:L[i]?=some (.row v e sz n xs))(hn:n=n')(hx:xs=xs'):
  Out P fn (fun u w'=>w'.ownsRow w0.heap.size e sz u n' xs'/\Below w0.heap.size w0 w') σ w:=by
 subst hn;subst hx
 exact jA h hv ⟨hH.get hi,hH.below⟩
theorem eS{xs:List Int}{k:Int}(h:0<=k/\k<xs.length):(xs.map I)[k.toNat*1]?=some (I (xs.getD k.toNat 0)):=by grind
end more
def isD(ops:Array Oper)(j dj:Nat):Bool:=match(ops[j]?).bind (·.dst)with
 |some d=>Nat.beq d dj
 |none=>false
def YE{α:Type}:Bool->α->α->α
 |true,x,_=>x
 |false,_,y=>y
def gv(ops:Array Oper)(dj:Nat)(b:Bool):Option (Nat×Bool)->Option Bool
 |some (j,want)=>YE (isD ops j dj) (some (YE b want (!want))) none
 |none=>none
def pk(dj:Nat)(b:Bool):Op->Op
 | .pick (.tmp c) x y=>YE (Nat.beq c dj) (.move (YE b x y)) (.pick (.tmp c) x y)
 |o=>o
def dE(dj:Nat):Option Tmp->Bool
 |some d=>Nat.beq d dj
 |none=>false
def gs(ops:Array Oper)(dj:Nat)(b:Bool):List Oper->List Oper
 |[]=>[]
 |o::r=>match gv ops dj b o.guard with
  |some true=>⟨o.dst,pk dj b o.op,o.type,o.pos,o.after,none⟩::YE (dE dj o.dst) r (gs ops dj b r)
  |some false=>match o.dst with
   |none=>gs ops dj b r
   |some d=>⟨some d,.move (.const undef),o.type,o.pos,o.after,none⟩::YE (Nat.beq d dj) r (gs ops dj b r)
  |none=>⟨o.dst,pk dj b o.op,o.type,o.pos,o.after,o.guard⟩::YE (dE dj o.dst) r (gs ops dj b r)
def gl(n:Nat)(ops:Array Oper)(dj:Nat)(b:Bool):List Oper->List Oper
 |[]=>[]
 |o::r=>match gv ops dj b o.guard,o.dst with
  |some false,some d=>YE (YE (Nat.beq d dj) false (Nat.blt d n)) (gl n ops dj b r) (gs ops dj b (o::r))
  |some false,none=>gl n ops dj b r
  |_,_=>gs ops dj b (o::r)
def ge(n:Nat)(ops:Array Oper)(dj:Nat)(b:Bool):List Oper->Env->Env
 |[],σ=>σ
 |o::r,σ=>match gv ops dj b o.guard,o.dst with
  |some false,some d=>YE (YE (Nat.beq d dj) false (Nat.blt d n)) (ge n ops dj b r (lZ σ d undef)) σ
  |some false,none=>ge n ops dj b r σ
  |_,_=>σ
section
variable{P:Program}{n:Nat}{ops:Array Oper}{k:K}{rest l:List Oper}{σ:Env}{w:World}{dj:Nat}{b:Bool}
theorem Ij{a:Act}{o:Oper}{t:Bool}(h:a.tmps[dj]?=some (.bool b))(hg:gv ops dj b o.guard=some t):Region.wanted o (yielded ops a.tmps)=t:=by
 obtain⟨dst,op,ty,pos,bO,g⟩:=o
 cases g with
 |none=>cases hg
 |some jw=>
  obtain⟨j,want⟩:=jw
  simp only[gv]at hg
  cases hi:isD ops j dj with
  |false=>rw[hi]at hg;cases hg
  |true=>
   rw[hi]at hg;simp only[YE,XS]at hg;subst hg
   unfold isD at hi;split at hi
   .rename_i d hd
    have:d=dj:=zR
    subst this
    simp only[Region.wanted,yielded,hd,Ru,h]
    cases b<;>cases want<;>rfl
   .cases hi
theorem agb{a:Act}{o:Oper}(h:a.tmps[dj]?=some (.bool b))(g:Option (Nat×Bool)):execOp a.eval ⟨o.dst,pk dj b o.op,o.type,o.pos,o.after,g⟩=execOp a.eval o:=by
 obtain⟨dst,op,ty,pos,bO,g'⟩:=o
 show execOp a.eval ⟨dst,pk dj b op,ty,pos,bO,g⟩=execOp a.eval ⟨dst,op,ty,pos,bO,g'⟩
 unfold pk
 split
 .rename_i c x y
  cases hc:Nat.beq c dj with
  |false=>rfl
  |true=>
   have:c=dj:=by simpa using hc
   subst this
   have e:a.eval (.tmp c)= .bool b:=by
    show a.tmps.getD c undef=_
    rw[wU,h];rfl
   simp only[execOp,e,asBool,YE]
   cases b<;>rfl
 rfl
theorem ac4{o:Oper}{a:Act}{N N':Act->World->Prop}{Q:Exit->Act->World->Prop}(hN:∀(a':Act) v w,a'.tmps=a.tmps->N (a'.put o.dst v) w->N' (a'.put o.dst v) w){r:Result Next}(h:o.upon P a N Q r):o.upon P a N' Q r:=by
 unfold Oper.upon at h⊢
 split at h
 .exact hN _ _ _ O h
 .exact hN _ _ _ O h
 .exact hN {a with defers:=_} _ _ O h
 .refine h.mono fun e w' hr=> ?_
  cases e with
  |returned v=>exact hN _ _ _ O hr
  |panicked c=>exact hr
  |outgrown=>exact hr
 .exact fun c cs=>let⟨v,w',r,s⟩:=h c cs;⟨v,w',hN _ _ _ O r,s⟩
 .exact h
 exact h.elim
theorem agc{a a':Act}{d:Option Tmp}{v:Value}(h:a.tmps[dj]?=some (.bool b))(e:a'.tmps=a.tmps)(hd:dE dj d=false):(a'.put d v).tmps[dj]?=some (.bool b):=by
 cases d with
 |none=>simpa[Act.put,e]using h
 |some d=>
  have hne:d≠dj:=by intro e;subst e;simp[dE]at hd
  simp only[Act.put,e]
  rw[Ep,aT hne];exact h
theorem ao6{Q:Exit->Act->World->Prop}(hL:¬LetsOut Q):∀(l:List Oper) (a:Act) (w:World),a.tmps[dj]?=some (.bool b)->wpList P ops Q (gs ops dj b l) a w->wpList P ops Q l a w
 |[],a,w,_,h=>h
 |o::r,a,w,hb,h=>by
  have next:∀(a':Act) v w,a'.tmps=a.tmps->wpList P ops Q (YE (dE dj o.dst) r (gs ops dj b r)) (a'.put o.dst v) w->wpList P ops Q r (a'.put o.dst v) w:=by
   intro a' v w' e h'
   cases hd:dE dj o.dst with
   |true=>rw[hd]at h';exact h'
   |false=>rw[hd]at h';exact ao6 hL r _ _ (agc hb e hd) h'
  have run:∀g,(Oper.wp P ⟨o.dst,pk dj b o.op,o.type,o.pos,o.after,g⟩ a w (wpList P ops Q (YE (dE dj o.dst) r (gs ops dj b r))) Q\/(Oper.asks P ⟨o.dst,pk dj b o.op,o.type,o.pos,o.after,g⟩ a w/\LetsOut Q))->
    (o.wp P a w (wpList P ops Q r) Q\/(o.asks P a w/\LetsOut Q)):=by
   intro g hg
   rcases hg with hg|hg
   .left
    unfold Oper.wp at hg⊢
    rw[agb hb]at hg
    exact ac4 (o:=o) next hg
   right
   unfold Oper.asks at hg⊢
   rw[agb hb]at hg;exact hg
  unfold gs at h
  cases hg:gv ops dj b o.guard with
  |none=>
   rw[hg]at h;simp only[wpList]at h⊢
   have e:Region.wanted ⟨o.dst,pk dj b o.op,o.type,o.pos,o.after,o.guard⟩ (yielded ops a.tmps)=Region.wanted o (yielded ops a.tmps):=by unfold Region.wanted;rfl
   rw[e]at h
   split
   .rename_i hw;rw[aX hw]at h;exact run _ h
   rename_i hw;rw[aT hw]at h;exact next _ _ _ O h
  |some t=>
   rw[hg]at h
   cases t with
   |true=>
    simp only[wpList]at h⊢
    rw[aX (Ij hb hg)]
    rw[aX aL]at h
    exact run _ h
   |false=>
    simp only[wpList]at h⊢
    rw[aT (by rw[Ij hb hg];simp)]
    cases hd:o.dst with
    |none=>
     rw[hd]at h
     rw[hd]at next
     exact next a undef w O h
    |some d=>
     rw[hd]at h
     rw[hd]at next
     simp only[wpList]at h
     rw[aX aL]at h
     rcases h with h|h
     .exact next _ _ _ O h
     exact(hL h.2).elim
theorem art(k:K):¬LetsOut (r9 n k):=by
 intro⟨a,w,h⟩
 exact h
theorem L6:∀(l:List Oper) (σ:Env),σ dj= .bool b->RL P n ops k (gl n ops dj b l) (ge n ops dj b l σ) w->RL P n ops k l σ w
 |[],σ,_,h=>h
 |o::r,σ,hb,h=>by
  have stay:RL P n ops k (gs ops dj b (o::r)) σ w->RL P n ops k (o::r) σ w:=fun h a ha=>ao6 (art k) _ a w (ha.look hb zQ) (h a ha)
  unfold gl ge at h
  obtain⟨dst,op,ty,pos,bO,g⟩:=o
  cases hg:gv ops dj b g with
  |none=>simp only[hg]at h;exact stay h
  |some t=>
   cases t with
   |true=>simp only[hg]at h;exact stay h
   |false=>
    simp only[hg]at h
    have hw:∀a,Is n σ a->Region.wanted ⟨dst,op,ty,pos,bO,g⟩ (yielded ops a.tmps)=false:=fun a ha=>Ij (ha.look hb zQ) hg
    cases dst with
    |none=>
     have h1:=L6 r σ hb h
     intro a ha
     simp only[wpList,hw a ha]
     exact h1 a ha
    |some d=>
     simp only at h
     cases hd:Nat.beq d dj with
     |true=>rw[hd]at h;exact stay h
     |false=>
      rw[hd]at h
      cases hn:Nat.blt d n with
      |false=>rw[hn]at h;exact stay h
      |true=>
       rw[hn]at h
       have hne:dj≠d:=by intro e;subst e;simp at hd
       have h1:=L6 r (lZ σ d undef) (by rw[Yx _ _ hne];exact hb) h
       intro a ha
       simp only[wpList,hw a ha]
       exact h1 _ (ha.put hn undef)
theorem cC{j:Nat}{want:Bool}{dst:Option Tmp}{op:Op}{ty:TypeId}{pos:String}{bO:Array Edge}(hj:(ops[j]?).bind (·.dst)=some dj)(hb:σ dj= .bool b)
 (h:RL P n ops k (gl n ops dj b (⟨dst,op,ty,pos,bO,some (j,want)⟩::rest)) (ge n ops dj b (⟨dst,op,ty,pos,bO,some (j,want)⟩::rest) σ) w):RL P n ops k (⟨dst,op,ty,pos,bO,some (j,want)⟩::rest) σ w:=L6 _ _ hb h
theorem ez{c:Bool}(dj:Nat)(hb:σ dj= .bool c)(ht:c=true->RL P n ops k (gl n ops dj true l) (ge n ops dj true l σ) w)(hf:c=false->RL P n ops k (gl n ops dj false l) (ge n ops dj false l σ) w):RL P n ops k l σ w:=by
 cases hc:c with
 |true=>exact L6 _ _ (hc▸hb) (ht hc)
 |false=>exact L6 _ _ (hc▸hb) (hf hc)
theorem bK{p:Prop}[Decidable p](dj:Nat)(hb:σ dj= .bool (decide p))(ht:p->RL P n ops k (gl n ops dj true l) (ge n ops dj true l σ) w)(hf:¬p->RL P n ops k (gl n ops dj false l) (ge n ops dj false l σ) w):RL P n ops k l σ w:=by
 by_cases hc:p
 .exact L6 _ _ (by rw[hb,gW hc]) (ht hc)
 exact L6 _ _ (by rw[hb,gZ hc]) (hf hc)
theorem zV{d:Nat}{ty:TypeId}{pos:String}{bO:Array Edge}(h:RL P n ops k rest (lZ σ d undef) w)(hd:Nat.blt d n=true:=by rfl):RL P n ops k (⟨some d,.move (.const undef),ty,pos,bO,none⟩::rest) σ w:=
 pu hd (run_move O) h
end
end
end Go.Proofs.YtlhjdflgjbkpmaaGreatDoor.E
namespace Go.Proofs.YtlhjdflgjbkpmaaGreatDoor.M
def zX(n:Int):Bool:=decide (1<=n/\n<=64)
def below(n:Int):BitVec 64:=if n<=0 then 0#64 else if 64<=n then~~~0#64 else(1#64<<<(BitVec.ofInt 64 n).toNat)-1#64
theorem Si{n:Int}(h:n<=0):below n=0#64:=by simp[below,h]
theorem ac5{n:Int}(h:64<=n):below n= ~~~0#64:=by grind[below]
theorem ac6{n:Int}(h:¬n<=0)(h':¬64<=n):below n=(1#64<<<(BitVec.ofInt 64 n).toNat)-1#64:=by grind[below]
def vB(n k:Int):BitVec 64×Bool:=if 1<=n/\n<=64/\0<=k/\k<n then(below k,true)else(0#64,false)
theorem alZ{n:Int}(h:(!zX n)=false):1<=n/\n<=64:=by simpa[zX]using h
theorem al0{n:Int}(h:(!zX n)=true):¬(1<=n/\n<=64):=by grind[zX]
theorem Cw{n k:Int}(h:¬(1<=n/\n<=64/\0<=k/\k<n)):vB n k=(0#64,false):=by rw[vB,aT h]
theorem u3{n k:Int}(h:1<=n/\n<=64/\0<=k/\k<n):vB n k=(below k,true):=by rw[vB,aX h]
def level(n:Int)(s:BitVec 64):Int×Bool:=
 if 1<=n/\n<=64 then
  match(List.range n.toNat).find? (fun k:Nat=>s==below (k:Int))with
  |some k=>((k:Int),true)
  |none=>(0,false)
 else(0,false)
theorem L7{n:Int}(s:BitVec 64)(h:¬(1<=n/\n<=64)):level n s=(0,false):=by grind[level]
theorem L8{n k:Int}{s:BitVec 64}(h:1<=n/\n<=64)(h0:0<=k)(hk:k<n)(hs:s=below k)(hf:∀j:Int,0<=j->j<k->s≠below j):level n s=(k,true):=by
 have hfind:(List.range n.toNat).find? (fun i:Nat=>s==below (i:Int))=some k.toNat:=by
  rw[List.find?_range_eq_some]
  refine⟨?_,iY,?_⟩
  .rw[show((k.toNat:Int))=k by omega];simpa using hs
  intro j hj
  have:=hf j J J
  simpa using this
 simp only[level,aX h,hfind]
 rw[show((k.toNat:Int))=k by omega]
theorem Fl{n:Int}{s:BitVec 64}(h:1<=n/\n<=64)(hf:∀j:Int,0<=j->j<n->s≠below j):level n s=(0,false):=by grind[below,level]
theorem ot{n:Int}(h:0<=n/\n<18446744073709551616):(BitVec.ofInt 64 n).toNat=n.toNat:=by grind
theorem fH(n:Int)(i:Nat):(below n).getLsbD i=decide (i<64/\(i:Int)<n):=by
 unfold below
 by_cases h:n<=0
 .rw[aX h];simp;omega
 rw[aT h]
 by_cases h':64<=n
 .rw[aX h',Rq,XJ,Bool.not_false,Ye,Rx];omega
 rw[aT h',ot J]
 have e:(1#64<<<n.toNat)-1#64=BitVec.ofNat 64 (2^n.toNat-1):=by
  apply HG
  have h1:2^n.toNat<2^64:=Nat.pow_lt_pow_right J J
  have h2:0<2^n.toNat:=Nat.two_pow_pos _
  have h3:(1#64<<<n.toNat).toNat=2^n.toNat:=by
   simp[Rj,Rw];exact h1
  rw[Rv,h3,XM,XM]
  generalize 2^n.toNat=X at h1 h2
  omega
 rw[e,XI,afs]
 by_cases a:i<64<;>by_cases b:i<n.toNat<;>simp[a,b]<;>omega
def ou(p:Nat->Bool):Nat->BitVec 64
 |0=>0#64
 |i+1=>if p i then ou p i|||(1#64<<<i)else ou p i
theorem m6(i k:Nat):(1#64<<<i).getLsbD k=(decide (k<64)&&decide (k=i)):=by grind
theorem kB(p:Nat->Bool)(j i:Nat):(ou p j).getLsbD i=(decide (i<j)&&decide (i<64)&&p i):=by
 induction j with
 |zero=>simp[ou]
 |succ j ih=>
  unfold ou
  by_cases hp:p j=true
  .rw[aX hp,XU,ih,m6]
   by_cases h2:i=j
   .subst h2;by_cases h1:i<64<;>simp[h1,hp]
   by_cases h1:i<64<;>by_cases h3:i<j<;>simp[h1,h2,h3]<;>omega
  rw[aT hp,ih]
  by_cases h2:i=j
  .subst h2;simp[hp]
  by_cases h1:i<64<;>by_cases h3:i<j<;>simp[h1,h3]<;>omega
def kW(l:List Int):BitVec 64:=ou (fun i=>l.contains (i:Int)) 64
theorem ic(l:List Int)(i:Nat):(kW l).getLsbD i=(decide (i<64)&&l.contains (i:Int)):=by grind[kW,kB]
def zY(i:Int):Bool:=decide (0<=i/\i<64)
def hasB(s:BitVec 64)(i:Int):Bool:=zY i&&s.getLsbD i.toNat
def vC(s:BitVec 64)(i:Int):BitVec 64:=if zY i then s|||(1#64<<<(BitVec.ofInt 64 i).toNat)else s
def agd(s:BitVec 64)(i:Int):BitVec 64:=if zY i then s&&& ~~~(1#64<<<(BitVec.ofInt 64 i).toNat)else s
def s8(s:BitVec 64)(j:Nat):List Int:=((List.range j).filter (s.getLsbD ·)).map fun(i:Nat)=>(i:Int)
def gL(s:BitVec 64):List Int:=s8 s 64
def eu(a b:BitVec 64):Bool:=decide (a&&& ~~~b=0#64)
theorem x9(s:BitVec 64)(i:Int)(k:Nat):(vC s i).getLsbD k=(s.getLsbD k||(decide (k<64)&&decide ((k:Int)=i))):=by grind[vC,zY,m6,ot]
theorem O4(s:BitVec 64)(i:Int)(k:Nat):(agd s i).getLsbD k=(s.getLsbD k&& !decide ((k:Int)=i)):=by grind[agd,zY,m6,ot]
theorem eG{a b:BitVec 64}(h:∀i,i<64->a.getLsbD i=b.getLsbD i):a=b:=by grind
theorem ac7(l:List Int)(i:Int):vC (kW l) i=kW (l++[i]):=eG fun k hk=>by
 rw[x9,ic,ic]
 simp[hk,E2]
theorem Sj:kW []=0#64:=eG fun k hk=>by rw[ic];simp
theorem ac8(s:BitVec 64)(j:Nat)(i:Int):i∈s8 s j↔0<=i/\i<j/\s.getLsbD i.toNat=true:=by grind[s8]
theorem fD(s:BitVec 64)(i:Int):i∈gL s↔hasB s i=true:=by grind[gL,ac8,hasB,zY]
theorem al1(s:BitVec 64):kW (gL s)=s:=eG fun k hk=>by
 rw[ic]
 have:=fD s (k:Int)
 have hc:(gL s).contains (k:Int)=hasB s k:=by
  rw[gH,<-this];simp
 rw[hc,hasB,zY];simp[hk];omega
theorem L9(s:BitVec 64)(j:Nat):s8 s (j+1)=s8 s j++(if s.getLsbD j then[(j:Int)]else[]):=by grind[s8,List.range_succ]
theorem Ik(s:BitVec 64)(j:Nat):(s8 s j).length<=j:=by grind[s8]
theorem Gh(s:BitVec 64):(gL s).length<=64:=Ik s 64
theorem Gi(a b:BitVec 64):eu a b=true↔∀i,i<64->a.getLsbD i=true->b.getLsbD i=true:=by
 unfold eu
 rw[eD]
 constructor
 .intro h i hi ha
  have:=aK (fun z=>BitVec.getLsbD z i) h
  simp[hi,ha]at this
  exact this
 intro h
 refine eG fun i hi=> ?_
 have:=h i hi
 simp only[sx,Rq,hi,decide_true,mF,XJ]
 cases ha:a.getLsbD i
 .rfl
 rw[this ha];rfl
theorem al2(s:BitVec 64){i:Int}(h:zY i=true):decide (s>>>(BitVec.ofInt 64 i).toNat&&&1#64=1#64)=hasB s i:=by
 have h':0<=i/\i<64:=by simpa[zY]using h
 rw[hasB,h,mF,ot J]
 have key:s>>>i.toNat&&&1#64=if s.getLsbD i.toNat then 1#64 else 0#64:=by
  refine eG fun k hk=> ?_
  by_cases hb:s.getLsbD i.toNat=true
  .rw[aX hb]
   simp only[sx,afw]
   by_cases h0:k=0
   .subst h0;simp[hb]
   simp[BitVec.getLsbD_one,h0]
  rw[aT hb]
  simp only[sx,afw]
  by_cases h0:k=0
  .subst h0;simpa using hb
  simp[BitVec.getLsbD_one,h0]
 rw[key]
 by_cases hb:s.getLsbD i.toNat=true
 .rw[aX hb,hb];rfl
 rw[aT hb];simp at hb;rw[hb];rfl
theorem YF(s:BitVec 64){i:Int}(h:zY i=false):hasB s i=false:=by rw[hasB,h];rfl
theorem KE(s:BitVec 64)(k:Nat):(s>>>k)%2#64=1#64↔s.getLsbD k=true:=by
 have:(s>>>k)%2#64=1#64↔(s>>>k).toNat%2=1:=by
  rw[<-X0];simp
 rw[this]
 have h2:(s>>>k).getLsbD 0=s.getLsbD k:=aJ
 rw[<-h2,BitVec.getLsbD,Nat.testBit_zero,eD]
theorem half(s:BitVec 64)(k:Nat):(s>>>k)/2#64=s>>>(k+1):=by
 apply HG
 simp only[BitVec.toNat_udiv,Xz,Nat.shiftRight_add]
 rfl
def A9(l:List Int)(j:Nat):BitVec 64:=ou (fun i=>l.contains (i:Int)) j
theorem al3{p:Nat->Bool}{j:Nat}(hj:j<64):ou p j+(1#64<<<j)=ou p j|||(1#64<<<j):=by
 refine BitVec.add_eq_or_of_and_eq_zero _ _ (eG fun k hk=> ?_)
 rw[sx,kB,m6]
 by_cases h:k=j
 .subst h;simp
 simp[h]
theorem ac9{l:List Int}{j:Nat}(hj:j<64)(h:(j:Int)∈l):A9 l j+(1#64<<<j)=A9 l (j+1):=by grind[A9,al3,ou]
theorem YG{l:List Int}{i k:Int}(h0:0<=i)(hi:i<64)(hk:0<=k)(hkl:k<l.length)(h:l.getD k.toNat 0=i):A9 l i.toNat+(1#64<<<i.toNat)=A9 l (i+1).toNat:=by grind[ac9]
theorem agf{l:List Int}{j:Nat}(h:¬(j:Int)∈l):A9 l j=A9 l (j+1):=by grind[A9,ou]
theorem ada{l:List Int}{i:Int}(h0:0<=i)(hf:∀j:Int,0<=j->j<l.length->l.getD j.toNat 0≠i):A9 l i.toNat=A9 l (i+1).toNat:=by
 rw[show(i+1).toNat=i.toNat+1 by omega]
 refine agf fun hm=> ?_
 rw[show((i.toNat:Nat):Int)=i by omega]at hm
 obtain⟨j,hj,he⟩:=vc.1 hm
 refine hf j J J ?_
 rw[eC,eT,eF hj];exact he
theorem alV(j:Nat):(1#64<<<j)*2#64=1#64<<<(j+1):=by
 apply HG
 have h1:(1#64).toNat=1:=rfl
 have h2:(2#64).toNat=2:=rfl
 rw[BitVec.toNat_mul,Rj,Rj,Rw,Rw,h1,h2,RJ,RJ,Nat.mod_mul_mod]
 rfl
theorem PF{l:List Int}{k:Int}(h0:0<=k)(h:k<l.length):l.take (k+1).toNat=l.take k.toNat++[l.getD k.toNat 0]:=by
 rw[show(k+1).toNat=k.toNat+1 by omega,EZ J,eT,eF J];rfl
theorem Ma{l:List Int}{k:Int}(h:¬k<l.length):l.take k.toNat=l:=jm J
theorem Gj{l:List Int}{n:Int}(h:∀i:Int,0<=i->i<64->(i∈l↔i<n)):kW l=below n:=eG fun k hk=>by
 rw[ic,fH]
 have:=h k J J
 rw[gH];simp[hk,this]
def upto(j:Int):List Int:=(List.range j.toNat).map fun(i:Nat)=>(i:Int)
theorem ja{j:Int}(h:0<=j):upto j++[j]=upto (j+1):=by
 unfold upto
 rw[show(j+1).toNat=j.toNat+1 by omega,xO,gV,Lp,show((j.toNat:Nat):Int)=j by omega]
theorem m7{j:Int}:(upto j).length=j.toNat:=by simp[upto]
theorem cK{j i:Int}:i∈upto j↔0<=i/\i<j:=by
 simp only[upto,fZ,qv]
 constructor
 .rintro⟨a,h1,rfl⟩;omega
 rintro⟨h1,h2⟩;exact⟨i.toNat,J,J⟩
theorem adb{s:BitVec 64}{j:Int}(h0:0<=j)(h:(s>>>j.toNat)%2#64=1#64):s8 s j.toNat++[j]=s8 s (j+1).toNat:=by
 rw[show(j+1).toNat=j.toNat+1 by omega,L9,aX ((KE s _).1 h),show((j.toNat:Nat):Int)=j by omega]
theorem agh{s:BitVec 64}{j:Int}(h0:0<=j)(h:¬(s>>>j.toNat)%2#64=1#64):s8 s j.toNat=s8 s (j+1).toNat:=by
 rw[show(j+1).toNat=j.toNat+1 by omega,L9,aT (fun e=>h ((KE s _).2 e)),mY]
theorem PG{s:BitVec 64}{j:Int}(h:¬j<64)(h':j<=64):s8 s j.toNat=gL s:=by grind[s8,gL]
theorem dy{l:List Int}{k:Int}(h0:0<=k)(h:k<l.length):l.getD k.toNat 0∈l:=by grind
theorem Un(a b:BitVec 64):eu a b=(gL a).all (hasB b ·):=by
 rw[gH,Gi,iR]
 constructor
 .intro h i hi
  have:=(fD a i).1 hi
  simp only[hasB,zY,cM,eD]at this⊢
  exact⟨this.1,h _ J this.2⟩
 intro h i hi ha
 have:=h i ((fD a i).2 (by simp[hasB,zY,ha];omega))
 simp only[hasB,zY,cM,eD]at this
 simpa using this.2
def awm(n:Int):BitVec 64:=if 1<=n/\n<=64 then below (n-1)else 0#64
theorem Uo{n k:Int}(h:(vB n k).2=true):1<=n/\n<=64/\0<=k/\k<n:=by grind[Cw]
theorem YH{n k:Int}(h:(vB n k).2=false):¬(1<=n/\n<=64/\0<=k/\k<n):=by grind[u3]
theorem Up{n k:Int}{s:BitVec 64}(h0:0<=k)(hi:(vB n k).2=true)(hne:¬(vB n k).1=s)(hf:n<=64->∀j:Int,0<=j->j<k->s≠below j):n<=64->∀j:Int,0<=j->j<k+1->s≠below j:=by grind[u3,Uo]
theorem Uq{n k:Int}{s:BitVec 64}(h0:0<=k)(hk:k<n)(hf:n<=64->∀j:Int,0<=j->j<k->s≠below j)(hi:(vB n k).2=false):n<=64->∀j:Int,0<=j->j<k+1->s≠below j:=by
 intro hn
 have:=YH hi
 omega
theorem ade{n k:Int}{s:BitVec 64}(h0:0<=k)(hi:(vB n k).2=true)(hf:n<=64->∀j:Int,0<=j->j<k->s≠below j)(he:(vB n k).1=s):level n s=(k,true):=by grind[Uo,u3,L8]
theorem Et{n k:Int}{s:BitVec 64}(h0:0<=k)(hk:k<=n\/k=0)(h6:k<=64)(hf:n<=64->∀j:Int,0<=j->j<k->s≠below j)(he:¬(k<n/\k<64)):level n s=(0,false):=by grind[Fl,L7]
theorem adf{j k:Int}(h0:0<=j)(hjk:j<k)(hk:k<=64):below k≠below j:=fun e=>by
 have:=aK (fun z=>BitVec.getLsbD z j.toNat) e
 simp only[fH]at this
 rw[gW J,gZ J]at this
 cases this
theorem YI{n k:Int}(h:1<=n/\n<=64/\0<=k/\k<n):level n (vB n k).1=(k,true):=by grind[u3,L8,adf]
theorem agi(i j:Int):below i|||below j=below (max i j):=eG fun k hk=>by
 rw[XU,fH,fH,fH,gH];simp;omega
theorem adg(i j:Int):below i&&&below j=below (min i j):=eG fun k hk=>by
 rw[sx,fH,fH,fH,gH];simp;omega
def pop(s:BitVec 64):Int:=
 let x:=(s>>>1&&&6148914691236517205#64)+(s&&&6148914691236517205#64)
 let x:=(x>>>2&&&3689348814741910323#64)+(x&&&3689348814741910323#64)
 let x:=(x>>>4+x)&&&1085102592571150095#64
 let x:=x+x>>>8
 let x:=x+x>>>16
 let x:=x+x>>>32
 (x&&&127#64).toInt
theorem zZ:∀{l m:List Int},l.Pairwise (· <·)->m.Pairwise (· <·)->(∀x,x∈l↔x∈m)->l=m
 |[],[],_,_,_=>rfl
 |[],b::m,_,_,h=>by have:=(h b).2 aJ;simp at this
 |a::l,[],_,_,h=>by have:=(h a).1 aJ;simp at this
 |a::l,b::m,hl,hm,h=>by
  have hl':=lS.1 hl
  have hm':=lS.1 hm
  have hab:a=b:=by
   rcases c8.1 ((h a).1 aJ)with h1|h1
   .exact h1
   rcases c8.1 ((h b).2 aJ)with h2|h2
   .exact h2.symm
   have:=hm'.1 a h1;have:=hl'.1 b h2;omega
  subst hab
  congr 1
  refine zZ hl'.2 hm'.2 fun x=> ?_
  constructor
  .intro hx
   rcases c8.1 ((h x).1 (fX _ hx))with h1|h1
   .have:=hl'.1 x hx;omega
   exact h1
  intro hx
  rcases c8.1 ((h x).2 (fX _ hx))with h1|h1
  .have:=hm'.1 x hx;omega
  exact h1
theorem qe(s:BitVec 64):(gL s).Pairwise (· <·):=by grind[gL,s8,List.pairwise_lt_range]
theorem z6{s:BitVec 64}:gL s=[]↔s=0#64:=by
 constructor
 .intro h;rw[<-al1 s,h,Sj]
 rintro rfl;simp[gL,s8]
def Low(s:BitVec 64)(j:Nat):Prop:=j<64/\s.getLsbD j=true/\∀i,i<j->s.getLsbD i=false
theorem YJ{s:BitVec 64}(h:s≠0#64):∃j,Low s j:=by
 have hne:gL s≠[]:=fun e=>h (z6.1 e)
 obtain⟨a,l,e⟩:=List.exists_cons_of_ne_nil hne
 have ha:=(fD s a).1 (by rw[e];simp)
 simp only[hasB,zY,cM,eD]at ha
 refine⟨a.toNat,J,ha.2,fun i hi=> ?_⟩
 cases hb:s.getLsbD i with
 |false=>rfl
 |true=>
  have hm:=(fD s (i:Int)).2 (by simp[hasB,zY,hb];omega)
  rw[e]at hm
  have hs:=qe s
  rw[e]at hs
  rcases c8.1 hm with h1|h1
  .omega
  have:=(lS.1 hs).1 _ h1;omega
theorem agj{s:BitVec 64}{j:Nat}(h:Low s j):∃m,s.toNat=2^j*(2*m+1):=by
 obtain⟨hj,hb,hz⟩:=h
 have h1:s.toNat%2^j=0:=by
  apply Nat.eq_of_testBit_eq
  intro i
  rw[Nat.testBit_mod_two_pow,Nat.zero_testBit]
  by_cases hi:i<j
  .have:=hz i hi;rw[BitVec.getLsbD]at this;simp[this]
  simp[hi]
 have h2:s.toNat/2^j%2=1:=by
  rw[BitVec.getLsbD,Nat.testBit_eq_decide_div_mod_eq]at hb
  simpa using hb
 refine⟨s.toNat/2^j/2,?_⟩
 have h3:=X6 s.toNat (2^j)
 have h4:=X6 (s.toNat/2^j) 2
 rw[h2]at h4
 rw[h4];omega
theorem JA{s:BitVec 64}{j:Nat}(h:Low s j){i:Nat}(hi:i<64):(s-1#64).getLsbD i=if i<j then true else if i=j then false else s.getLsbD i:=by
 obtain⟨m,hm⟩:=agj h
 have hp:0<2^j:=Nat.two_pow_pos j
 have hlt:=s.isLt
 have h1:(s-1#64).toNat=2^j*(2*m)+(2^j-1):=by
  rw[Rv]
  have e:(1#64).toNat=1:=rfl
  have e2:2^j*(2*m+1)=2^j*(2*m)+2^j:=by rw[Nat.mul_add,lX]
  rw[e];omega
 rw[BitVec.getLsbD,h1,afu _ J]
 by_cases h2:i<j
 .rw[aX h2,aX h2,afs];simp[h2]
 rw[aT h2,aT h2]
 by_cases h3:i=j
 .subst h3;rw[aX O,RG];simp
 rw[aT h3,BitVec.getLsbD,hm]
 have e2:2^j*(2*m+1)=2^j*(2*m+1)+0:=J
 rw[e2,afu _ hp,aT h2]
 obtain⟨k,hk⟩:∃k,i-j=k+1:=⟨i-j-1,J⟩
 rw[hk,Nat.testBit_succ,Nat.testBit_succ]
 congr 1;omega
theorem Il{s:BitVec 64}{j:Nat}(h:Low s j){i:Nat}(hi:i<64):(s&&&(s-1#64)).getLsbD i=(s.getLsbD i&& !decide (i=j)):=by grind[Low,JA]
theorem al4{s:BitVec 64}{j:Nat}(h:Low s j):gL s=(j:Int)::gL (s&&&(s-1#64)):=by
 refine zZ (qe s) (lS.2 ⟨fun x hx=> ?_,qe _⟩) fun x=> ?_
 .have:=(fD _ x).1 hx
  simp only[hasB,zY,cM,eD]at this
  obtain⟨⟨h0,h1⟩,h2⟩:=this
  rw[Il h J]at h2
  simp only[cM,B6,wW]at h2
  rcases Nat.lt_or_ge x.toNat j with hlt|hge
  .rw[h.2.2 _ hlt]at h2;cases h2.1
  omega
 rw[fD,c8,fD]
 simp only[hasB,zY,cM,eD]
 constructor
 .rintro⟨h1,h2⟩
  by_cases hx:x=j
  .exact .inl hx
  refine .inr ⟨h1,?_⟩
  rw[Il h J,h2];simp;omega
 rintro(rfl|⟨h1,h2⟩)
 .have:=h.1;exact⟨J,by simpa using h.2.1⟩
 rw[Il h J]at h2
 simp only[cM]at h2
 exact⟨h1,h2.1⟩
theorem al5{s:BitVec 64}{j:Nat}(h:Low s j):s&&& -s=1#64<<<j:=by
 have hn: -s= ~~~(s-1#64):=by
  apply HG
  rw[BitVec.toNat_neg,BitVec.toNat_not,Rv]
  have e:(1#64).toNat=1:=rfl
  have:=s.isLt
  rw[e];omega
 refine eG fun i hi=> ?_
 rw[hn,sx,Rq,JA h hi,m6]
 by_cases h1:i<j
 .rw[aX h1,h.2.2 i h1];simp;omega
 rw[aT h1]
 by_cases h2:i=j
 .rw[aX h2,h2,h.2.1];simp
 rw[aT h2];cases s.getLsbD i<;>simp[h2]
def Ba:List Int:=[0,1,56,2,57,49,28,3,61,58,42,50,38,29,17,4,62,47,59,36,45,43,51,22,53,39,33,30,24,18,12,5,63,55,48,27,60,41,37,16,46,35,44,21,52,32,23,11,54,26,40,15,34,20,31,10,25,14,19,9,13,8,7,6]
def tz(s:BitVec 64):Int:=if s=0#64 then 64 else Ba.getD (((s&&& -s)*285870213051353865#64)>>>58).toNat 0
theorem agk(x:BitVec 64):0<=((x>>>58).toNat:Int)/\((x>>>58).toNat:Int)<(64:Nat):=by
 have:(x>>>58).toNat<64:=by
  rw[Xz,afx]
  have:=x.isLt
  omega
 omega
theorem aru{s:BitVec 64}{j:Nat}(h:Low s j):tz s=j:=by
 have hne:s≠0#64:=fun e=>by have:=h.2.1;rw[e]at this;simp at this
 rw[tz,aT hne,al5 h]
 have key:∀k:Fin 64,Ba.getD (((1#64<<<k.val)*285870213051353865#64)>>>58).toNat 0=(k.val:Int):=by decide+kernel
 exact key ⟨j,h.1⟩
theorem Mb{s:BitVec 64}(h:s≠0#64):gL s=tz s::gL (s&&&(s-1#64)):=by
 obtain⟨j,hj⟩:=YJ h
 rw[aru hj];exact al4 hj
theorem Sk{s:BitVec 64}(h:s≠0#64):(gL (s&&&(s-1#64))).length<(gL s).length:=by
 rw[Mb h];simp
def awn:List Nat->Nat
 |[]=>0
 |d::r=>2^8*awn r+d
def aMD(x:Nat):List Nat:=[x%256,x/256%256,x/65536%256,x/16777216%256,x/4294967296%256,x/1099511627776%256,x/281474976710656%256,x/72057594037927936%256]
def g1(d:Nat):Nat:=((d>>>1)&&&85)+(d&&&85)
def g2(d:Nat):Nat:=((d>>>2)&&&51)+(d&&&51)
def pc8(d:Nat):Nat:=(List.range 8).countP d.testBit
def aME(s:BitVec 64)(k:Int):Int×Bool:=if 0<=k/\k<(gL s).length then((gL s).getD k.toNat 0,true)else(0,false)
def kAt(k:Int)(n:Nat):Int:=if k-n< -9223372036854775808 then k-n+18446744073709551616 else k-n
theorem awo{s:BitVec 64}(h:s≠0#64):Ba.getD (((s&&& -s)*285870213051353865#64)>>>58).toNat 0=tz s:=by rw[tz,aT h]
theorem al6{a b:BitVec 64}{k:Int}(h0:0<=k)(hk:k<(gL a).length)(h:(!hasB b ((gL a).getD k.toNat 0))=true):eu a b=false:=by grind[Un,gL]
theorem agl{a b:BitVec 64}(hf:∀j:Int,0<=j->j<(gL a).length->hasB b ((gL a).getD j.toNat 0)=true):eu a b=true:=by
 rw[Un,iR]
 intro x hx
 obtain⟨i,hi,rfl⟩:=uf hx
 have:=hf i J J
 simpa[eT,hi]using this
def YK(s:BitVec 64):Int×Bool:=if s=0#64 then(0,false)else(tz s,true)
theorem Im(a b:BitVec 64):eu a (a|||b)=true:=by grind[Gi]
theorem Gk(a b:BitVec 64):eu (a&&&b) a=true:=by grind[Gi]
end Go.Proofs.YtlhjdflgjbkpmaaGreatDoor.M
namespace Go.Proofs.YtlhjdflgjbkpmaaGreatDoor.E
section
open Go Go.RowKit Go.Proofs.YtlhjdflgjbkpmaaGreatDoor.M
def o6(w:World):Prop:=∀j,j<64->w.cell? ⟨0,j,none⟩=some (.int .u8 (Ba.getD j 0))
theorem o6.below{w w':World}(h:o6 w)(hb:Below w.heap.size w w'):o6 w':=fun j hj=>by
 have h1:=h j hj
 rw[hb.cell (World.block_lt_of_cell? w _ h1)];exact h1
theorem o6.hp{w0 w:World}{L:List bu}(h:o6 w0)(hH:Hp w0 w L):o6 w:=h.below hH.below
theorem o6.at{w:World}(h:o6 w)(x:BitVec 64):w.cell? ⟨0,0+(((x>>>58).toNat:Int)).toNat*1,none⟩=some (.int .u8 (Ba.getD (x>>>58).toNat 0)):=by
 have h2:=h (x>>>58).toNat (by have:=agk x;omega)
 generalize(x>>>58).toNat=j at*
 simpa using h2
theorem agm(j:Nat):0<=Ba.getD j 0/\Ba.getD j 0<=63:=by
 by_cases h:j<64
 .have key:∀k:Fin 64,0<=Ba.getD k.val 0/\Ba.getD k.val 0<=63:=by decide+kernel
  exact key ⟨j,h⟩
 have:Ba.getD j 0=0:=by
  rw[eT,og (by simp[Ba];omega)];rfl
 omega
theorem al7{x:Int}(h:0<=x/\x<=63): -9223372036854775808<=x/\x<=9223372036854775807:=J
theorem Hp.sF{w0 w:World}{L:List bu}{b:Nat}{c:List Value}{e:TypeId}(h:Hp w0 w (.blk b (.cells c.toArray e (0,0))::L))(n sz:Nat)(hc:c.length=n*sz)(hn:n<=maxLen):
  Hp w0 w (.row (.slice (some ⟨b,0,none⟩) n n) e sz n c::L):=by
 refine⟨h.below,fun x hx=> ?_,?_⟩
 .rcases c8.1 hx with rfl|hx
  .have h1:=h.ok _ (qU ..)
   exact⟨hc,.inr ⟨b,n,c.toArray,rfl,h1.1,h1.2,fh _,hn,by simpa using hc,by simp[<-hc]⟩⟩
  exact h.ok x (fX _ hx)
 exact List.Pairwise.cons (fun y hy=>(lS.1 h.LZ).1 y hy) (lS.1 h.LZ).2
section drawn
variable{P:Program}{n:Nat}{l:List Oper}{S:World->Prop}{k:K}{xs:List (Nat×K)}{r:K}{σ:Env}{w w0:World}{L L' Xk:List bu}{fuel i d:Nat}{listed:Array Bool}{op:Op}{ty:TypeId}{pos:String}{bO:Array Edge}{g:Option (Nat×Bool)}{v:Value}{dst:Option Tmp}
theorem gp{id:Nat}(hm:P.follows .mixedOrders=true)(hH:Hp w0 w L)(hs:L'.Sublist L)
  (h:∀w',Hp w0 w' L->AN P n l (fun w=>Hp w0 w L') k l.length (Array.replicate l.length false) σ w'):CW P n (.region id l.toArray true) k xs r σ w:=by
 intro a ha
 refine zK (fun e a' w' hq=> ?_) (Yc (id:=id) (Q:=r9 n k) hm (Yd (S:=fun w=>Hp w0 w L') _ _ _ _ ?_))
 .cases e with
  |normal=>exact hq
  |exit id=>exact hq.elim
  |ret=>exact hq.elim
  |goto l=>exact hq.elim
  |panic c=>exact hq.elim
  |outgrown=>exact hq.elim
 have:=h _ hH.drew a ha
 simpa using this
theorem gq(i j:Nat)(hr:Region.ready .any l.toArray listed=[i,j])(h1:AO P n l S k fuel listed σ w i)(h2:AO P n l S k fuel listed σ w j):AN P n l S k (fuel+1) listed σ w:=by simp_all[aa3]
theorem cf(hi:l[i]?=some ⟨some d,op,ty,pos,bO,g⟩)(hg:∀a,Is n σ a->Region.wanted ⟨some d,op,ty,pos,bO,g⟩ (yielded l.toArray a.tmps)=true)(hd:Nat.blt d n=true)
  (hH:Hp w0 w Xk) (hs:L'.Sublist Xk) (hr:(execOp (ev σ) ⟨some d,op,ty,pos,bO,g⟩).run P w= .ok (.value v) w)
  (h:AN P n l (fun w=>Hp w0 w L') k fuel (listed.setIfInBounds i true) (lZ σ d v) w):AO P n l (fun w=>Hp w0 w L') k fuel listed σ w i:=
 Cs hi hg hd hr (hH.sub hs) h
theorem ef{j b:Nat}{c c':Array Value}{e:TypeId}(hi:l[i]?=some ⟨none,op,ty,pos,bO,g⟩)(hg:∀a,Is n σ a->Region.wanted ⟨none,op,ty,pos,bO,g⟩ (yielded l.toArray a.tmps)=true)
  (hH:Hp w0 w Xk) (hj:Xk[j]?=some (.blk b (.cells c e (0,0)))) (hs:L'.Sublist (Xk.set j (.blk b (.cells c' e (0,0)))))
  (hr:(execOp (ev σ) ⟨none,op,ty,pos,bO,g⟩).run P w= .ok .skip (w.setRow b c'))
  (h:∀w',Hp w0 w' (Xk.set j (.blk b (.cells c' e (0,0))))->AN P n l (fun w=>Hp w0 w L') k fuel (listed.setIfInBounds i true) σ w'):AO P n l (fun w=>Hp w0 w L') k fuel listed σ w i:=
 Ii hi hg hr ((hH.set hj).sub hs) (h _ (hH.set hj))
end drawn
theorem a6{w:World}{base:Nat}{e:TypeId}{sz n:Nat}{v:Value}{xs:List Value}(h:w.ownsRow base e sz v n xs):v.cells=#[v]/\v.oneCell'=true:=by
 rcases h.2 with⟨rfl,_⟩|⟨g,cap,cur,rfl,_⟩<;>exact⟨rfl,rfl⟩
theorem Sl.conv{w:World}{v:Value}{sz n n':Nat}{c c':List Value}(h:Sl w v sz n c)(hn:n=n')(hc:c=c'):Sl w v sz n' c':=by subst hn hc;exact h
def uL(v:Value)(k:Nat):Value:=
 match v with
 | .slice a _ c=> .slice a k c
 |v=>v
theorem Sl.cut{w:World}{v:Value}{sz n:Nat}{cells:List Value}(h:Sl w v sz n cells)(k:Nat)(hk:k<=n):Sl w (uL v k) sz k (cells.take (k*sz)):=by
 obtain⟨a,cap,hv,hnc,ha⟩:=h.shape
 subst hv
 have e1:sb (.slice a k cap)=sb (.slice a n cap):=by cases a<;>rfl
 have e2:so (.slice a k cap)=so (.slice a n cap):=by cases a<;>rfl
 refine⟨⟨a,cap,rfl,J,fun h0=> ?_⟩,?_,fun j c hc=> ?_,kL hk h.small⟩
 .show a=some ⟨sb (.slice a k cap),so (.slice a k cap),none⟩
  rw[e1,e2];exact ha J
 .rw[dW,h.len];exact qt (r6 _ hk)
 show w.cell? ⟨sb (.slice a k cap),so (.slice a k cap)+j,none⟩=some c
 rw[e1,e2]
 rw[u9]at hc
 split at hc
 .exact h.cell j c hc
 .cases hc
section awp
variable{P:Program}{σ:Env}{w:World}{dst:Option Tmp}{ty t:TypeId}{pos:String}{bO:Array Edge}{g:Option (Nat×Bool)}{x y:Operand}{v:Value}{sz n:Nat}{cells:List Value}{k:IntKind}{i:Int}
theorem p5{e:TypeId}(hS:Sl w v sz n cells)(hu:P.underlying t=some (.slice e))(hs:∀w,(sizeOf e).run P w= .ok sz w)(hx:ev σ x=v)(hy:ev σ y= .int k i)(hi:0<=i/\i<=n):
  (execOp (ev σ) ⟨dst,.slice t x none (some y) none,ty,pos,bO,g⟩).run P w= .ok (.value (uL v i.toNat)) w:=by
 obtain⟨a,cap,hv,hnc,ha⟩:=hS.shape
 subst hv
 have h1:0<=i/\i<=(cap:Int):=J
 have h2:(Instr.slice t (.slice a n cap) none (some (.int k i)) none).run P w= .ok (.slice a i.toNat cap) w:=by
  simp[Instr.slice,Instr.sliceBounds,Instr.sliceBound,kp hu,asIntOf,h1,hs]
  intro h;cases a<;>rfl
 have h3:(Instr.sliceAt t (.slice a n cap) none (some (.int k i)) none).run P w= .ok (.slice a i.toNat cap) w:=by
  simp[Instr.sliceAt,kp hu,h2]
 simp[execOp,hx,hy,h3,uL]
end awp
end
end Go.Proofs.YtlhjdflgjbkpmaaGreatDoor.E
namespace Go.Proofs.YtlhjdflgjbkpmaaGreatDoor.M
theorem nt{b:Bool}(h:(!b)=true):b=false:=by cases b;rfl;cases h
theorem nf{b:Bool}(h:(!b)=false):b=true:=by cases b;cases h;rfl
structure Rl where
 n:Int
 up:Nat->BitVec 64
def Rl.put(r:Rl)(i:Nat)(x:BitVec 64):Rl:=⟨r.n,fun j=>if j=i then x else r.up j⟩
def Rl.eq(a b:Rl):Prop:=a.n=b.n/\∀i,i<64->a.up i=b.up i
instance(a b:Rl):Decidable (a.eq b):=inferInstanceAs (Decidable (a.n=b.n/\∀i,i<64->a.up i=b.up i))
def Rl.none:Rl:=⟨0,fun _=>0#64⟩
def pts(r:Rl):Int:=max 0 (min r.n 64)
theorem dA(r:Rl):0<=pts r/\pts r<=64:=by unfold pts;omega
def Bx(r:Rl)(i:Int):Bool:=decide (0<=i/\i<pts r)
def bL(r:Rl)(i j:Int):Bool:=Bx r i&&Bx r j&&(r.up i.toNat).getLsbD j.toNat
theorem rj{r:Rl}{i:Int}:Bx r i=true↔0<=i/\i<pts r:=by simp[Bx]
theorem arv{r:Rl}{i:Int}(h:Bx r i=true):0<=i/\i<64:=by have:=dA r;have:=rj.1 h;omega
theorem agn{r:Rl}{i:Int}(h:Bx r i=true):zY i=true:=by grind[arv,zY]
theorem al8{r:Rl}{i j:Int}(hi:Bx r i=true)(hj:Bx r j=true):hasB (r.up i.toNat) j=bL r i j:=by grind[bL,hasB,agn]
theorem KF{r:Rl}{i j:Int}(hi:Bx r i=false):bL r i j=false:=by rw[bL,hi];rfl
theorem Sm{r:Rl}{i j:Int}(hj:Bx r j=false):bL r i j=false:=by rw[bL,hj];simp
theorem al9{r:Rl}{i j:Int}(hi:0<=i)(hj:0<=j)(hi2:i<pts r)(hj2:j<pts r):decide ((r.up i.toNat>>>(BitVec.ofInt 64 j).toNat)%2#64=1#64)=bL r i j:=by grind[Rl,pts,bL,dA,al8,rj,hasB,agn,ot,KE]
theorem KG{r:Rl}{i j:Int}(h:¬(0<=i/\0<=j/\i<pts r/\j<pts r)):bL r i j=false:=by grind[bL,Bx,rj]
def vD(r:Rl)(i:Int):BitVec 64:=r.up i.toNat&&&below (pts r)
def z7(r:Rl)(i:Int):BitVec 64:=agd (vD r i) i
def Eu(n:Int)(f:Nat->BitVec 64)(k:Int):Rl:=⟨n,fun i=>if(i:Int)<k then f i else 0#64⟩
theorem ya{n:Int}{f h:Nat->BitVec 64}(e:∀i,f i=h i):(⟨n,f⟩:Rl)=⟨n,h⟩:=by rw[show f=h from funext e]
theorem Io(n:Int)(f:Nat->BitVec 64):(⟨n,fun _=>0#64⟩:Rl)=Eu n f 0:=by grind[Rl,Eu,ya]
theorem Mc{n:Int}{f:Nat->BitVec 64}{k:Int}{x:BitVec 64}(h:0<=k)(hx:x=f k.toNat):(Eu n f k).put k.toNat x=Eu n f (k+1):=ya fun i=>by
 show(if i=k.toNat then x else if(i:Int)<k then f i else 0#64)=if(i:Int)<k+1 then f i else 0#64
 by_cases h1:i=k.toNat
 .subst h1;rw[aX O,aX J,hx]
 rw[aT h1]
 by_cases h2:(i:Int)<k
 .rw[aX h2,aX J]
 rw[aT h2,aT J]
def eI(r:Rl):Rl:=Eu (pts r) (fun i=>vD r i) (pts r)
theorem aa4(r:Rl)(i:Int)(j:Nat):(vD r i).getLsbD j=((r.up i.toNat).getLsbD j&&decide (j<64/\(j:Int)<pts r)):=by grind[vD,fH]
theorem uM(r:Rl){i:Int}(hi:0<=i/\i<pts r)(j:Nat):(vD r i).getLsbD j=bL r i j:=by grind[dA,aa4,bL,rj,Bx,pts]
def rp(r:Rl)(i k:Int):List Int:=(upto k).filter (bL r i ·)
theorem adh{r:Rl}{i k:Int}(h0:0<=k)(h:bL r i k=true):rp r i k++[k]=rp r i (k+1):=by grind[rp,ja]
theorem adi{r:Rl}{i k:Int}(h0:0<=k)(h:bL r i k=false):rp r i k=rp r i (k+1):=by grind[rp,ja]
theorem PI{r:Rl}{i k:Int}:(rp r i k).length<=k.toNat:=by grind[Rl,rp,bL,upto,m7]
theorem adj{r:Rl}{i:Int}(hi:0<=i/\i<pts r):kW (rp r i (pts r))=vD r i:=eG fun j hj=>by
 rw[ic,uM r hi,gW hj,mF,gH]
 simp only[rp,E2,eD,xP,cK]
 refine⟨fun h=>h.2,fun h=>⟨?_,h⟩⟩
 have:Bx r j=true:=by
  simp only[bL,cM]at h;exact h.1.2
 exact rj.1 this
def wZ(f:Int->BitVec 64)(l:List Int):BitVec 64:=l.foldl (fun a i=>a|||f i) 0#64
theorem Md{f:Int->BitVec 64}{l:List Int}{k:Int}(h0:0<=k)(h:k<l.length):wZ f (l.take k.toNat)|||f (l.getD k.toNat 0)=wZ f (l.take (k+1).toNat):=by grind[PF,wZ]
theorem Ur(f:Int->BitVec 64):∀(l:List Int) (a:BitVec 64) (j:Nat),(l.foldl (fun a i=>a|||f i) a).getLsbD j=(a.getLsbD j||l.any fun i=>(f i).getLsbD j)
 |[],a,j=>by simp
 |i::l,a,j=>by rw[pg,Ur f l,XU,List.any_cons,Bool.or_assoc]
theorem Ip(f:Int->BitVec 64)(l:List Int)(j:Nat):(wZ f l).getLsbD j=l.any fun i=>(f i).getLsbD j:=by rw[wZ,Ur];simp
theorem YL{s:BitVec 64}{k:Int}(h0:0<=k)(h:k<(gL s).length):hasB s ((gL s).getD k.toNat 0)=true:=by grind[fD,List.getElem?_eq_getElem,List.getElem_mem]
theorem uN{s:BitVec 64}{i:Int}(h:hasB s i=true):0<=i/\i<64:=by grind[hasB,zY]
theorem PJ{s:BitVec 64}{k:Int}(h0:0<=k)(h:k<(gL s).length):0<=(gL s).getD k.toNat 0/\(gL s).getD k.toNat 0<64:=uN (YL h0 h)
def upR(r:Rl)(s:BitVec 64):BitVec 64:=wZ (vD r) (gL (s&&&below (pts r)))
def yb(r:Rl)(s:BitVec 64)(k:Int):BitVec 64:=ou (fun i=>decide (vD r i&&&s≠0#64)) k.toNat
def Ev(r:Rl)(s:BitVec 64):BitVec 64:=yb r s (pts r)
theorem agp{p:Nat->Bool}{k:Int}(h0:0<=k)(hk:k<64)(h:p k.toNat=true):vC (ou p k.toNat) k=ou p (k+1).toNat:=eG fun j hj=>by
 rw[x9,kB,kB]
 by_cases h1:(j:Int)=k
 .have:j=k.toNat:=J
  subst this
  have h2:k.toNat<(k+1).toNat:=J
  rw[gW h2,gW hj,gW h1,h];simp
 have h3:(j<k.toNat)↔(j<(k+1).toNat):=J
 rw[gZ h1,show decide (j<k.toNat)=decide (j<(k+1).toNat)from Rx.2 h3];simp
theorem agq{p:Nat->Bool}{k:Int}(h0:0<=k)(h:p k.toNat=false):ou p k.toNat=ou p (k+1).toNat:=eG fun j hj=>by
 rw[kB,kB]
 by_cases h1:j=k.toNat
 .subst h1;rw[h];simp
 have h3:(j<k.toNat)↔(j<(k+1).toNat):=J
 rw[show decide (j<k.toNat)=decide (j<(k+1).toNat)from Rx.2 h3]
theorem agr{r:Rl}{s:BitVec 64}{k:Int}(h0:0<=k)(hk:k<64)(h:vD r k&&&s≠0#64):vC (yb r s k) k=yb r s (k+1):=by grind[Rl,vD,vC,yb,agp]
theorem ags{r:Rl}{s:BitVec 64}{k:Int}(h0:0<=k)(h:¬vD r k&&&s≠0#64):yb r s k=yb r s (k+1):=by grind[Rl,vD,yb,agq]
def qf(u:Nat->BitVec 64)(k:Int):Nat->BitVec 64:=fun i=>if(i:Int)<k then vC (u i) i else u i
theorem adk(n:Int)(u:Nat->BitVec 64):(⟨n,u⟩:Rl)=⟨n,qf u 0⟩:=by grind[Rl,qf,ya]
theorem agt{n k:Int}{u:Nat->BitVec 64}(h0:0<=k):Rl.put ⟨n,qf u k⟩ k.toNat (vC (qf u k k.toNat) k)=⟨n,qf u (k+1)⟩:=ya fun i=>by
 show(if i=k.toNat then vC (qf u k k.toNat) k else qf u k i)=qf u (k+1) i
 unfold qf
 by_cases h1:i=k.toNat
 .subst h1
  rw[aX O,aT J,aX J,gk h0]
 rw[aT h1]
 by_cases h2:(i:Int)<k
 .rw[aX h2,aX J]
 rw[aT h2,aT J]
def j3(m:Nat)(k:Int)(u:Nat->BitVec 64):Nat->BitVec 64:=fun i=>if(i:Int)<k/\(u i).getLsbD m=true then u i|||u m else u i
theorem adl(m:Nat)(n:Int)(u:Nat->BitVec 64):(⟨n,u⟩:Rl)=⟨n,j3 m 0 u⟩:=by grind[Rl,j3,ya]
theorem agu(m:Nat)(k:Int)(u:Nat->BitVec 64):j3 m k u m=u m:=by grind[j3]
theorem Us{n m k:Int}{u:Nat->BitVec 64}(m0:0<=m)(h0:0<=k)(h:hasB (j3 m.toNat k u k.toNat) m=true):
  Rl.put ⟨n,j3 m.toNat k u⟩ k.toNat (j3 m.toNat k u k.toNat|||j3 m.toNat k u m.toNat)=⟨n,j3 m.toNat (k+1) u⟩:=ya fun i=>by
 rw[hasB,cM]at h
 have e:j3 m.toNat k u k.toNat=u k.toNat:=aT J
 rw[e]at h⊢
 rw[agu]
 show(if i=k.toNat then u k.toNat|||u m.toNat else j3 m.toNat k u i)=j3 m.toNat (k+1) u i
 unfold j3
 by_cases h1:i=k.toNat
 .subst h1
  rw[aX O,aX ⟨J,h.2⟩]
 rw[aT h1]
 have:((i:Int)<k)↔((i:Int)<k+1):=J
 simp only[this]
theorem agv{n m k:Int}{u:Nat->BitVec 64}(m0:0<=m/\m<64)(h0:0<=k)(h:hasB (j3 m.toNat k u k.toNat) m=false):(⟨n,j3 m.toNat k u⟩:Rl)=⟨n,j3 m.toNat (k+1) u⟩:=by grind[ya,j3,hasB,zY]
def wall(n:Int)(u:Nat->BitVec 64):Nat->Nat->BitVec 64
 |0=>u
 |m+1=>j3 m n (wall n u m)
theorem adm{n m:Int}{u:Nat->BitVec 64}(h:0<=m):(⟨n,j3 m.toNat n (wall n u m.toNat)⟩:Rl)=⟨n,wall n u (m+1).toNat⟩:=by
 rw[show(m+1).toNat=m.toNat+1 by omega];rfl
def js(r:Rl):Rl:=⟨pts r,wall (pts r) (qf (eI r).up (pts r)) (pts r).toNat⟩
theorem arw{l:List Int}{x k:Int}(h0:0<=k)(h:k<l.length)(e:l.getD k.toNat 0=x):l.contains x=true:=by grind
theorem awq{l:List Int}{x:Int}(hf:∀j:Int,0<=j->j<l.length->l.getD j.toNat 0≠x):l.contains x=false:=by
 rw[E2,wW]
 intro h
 obtain⟨i,hi,rfl⟩:=uf h
 refine hf i J J ?_
 simp[eT,hi]
end Go.Proofs.YtlhjdflgjbkpmaaGreatDoor.M
namespace Go.Proofs.YtlhjdflgjbkpmaaGreatDoor.E
section
open Go Go.RowKit Go.Proofs.YtlhjdflgjbkpmaaGreatDoor.M
def wJ(r:Rl):List Value:=I r.n::(List.range 64).map fun i=>U (r.up i)
@[irreducible] def dU(r:Rl):Array Value:=(wJ r).toArray
theorem jt(r:Rl):dU r=(wJ r).toArray:=by unfold dU;rfl
theorem pI(r:Rl):(wJ r).length=65:=by simp[wJ]
theorem H9(r:Rl):(dU r).size=65:=by rw[jt];simp[wJ]
theorem fx(r:Rl):(dU r)[0]?=some (I r.n):=by rw[jt];simp[wJ]
theorem xa(r:Rl){i:Nat}(h:i<64):(dU r)[0+1+i*1]?=some (U (r.up i)):=by
 rw[jt,show 0+1+i*1=i+1 by omega];simp[wJ,h]
theorem Me(r:Rl):∀u∈dU r,u.oneCell'=true:=by
 rw[jt];simp[wJ]
 exact⟨rfl,fun _ _=>rfl⟩
theorem yI(r:Rl)(i:Nat)(x:BitVec 64):(dU r).setIfInBounds (0+1+i*1) (U x)=dU (r.put i x):=by
 rw[jt,jt]
 apply XP
 intro j
 rw[Ep]
 simp only[HH,vb,pI]
 cases j with
 |zero=>
  rw[aT J]
  simp[wJ,Rl.put]
 |succ j=>
  simp only[wJ,List.getElem?_cons_succ,qu]
  by_cases h:i=j
  .subst h
   rw[aX J]
   by_cases h2:i<64
   .rw[aX J];simp[h2,Rl.put]
   rw[aT J];simp[h2]
  rw[aT J]
  by_cases h2:j<64
  .have h3:¬j=i:=fun e=>h e.symm
   simp[h2,Rl.put,h3]
  simp[h2]
section runs
variable{P:Program}{σ:Env}{w:World}{dst:Option Tmp}{ty t u:TypeId}{pos:String}{bO:Array Edge}{g:Option (Nat×Bool)}{x y:Operand}{b:Nat}{e:TypeId}{r:Rl}{fr:Nat×Nat}
theorem dI{ps:List (Nat×Operand)}{vs:List (Nat×Value)}{cells:Array Value}(h:ps.map (fun p=>(p.1,ev σ p.2))=vs)(hb:P.built t vs=some cells):
 (execOp (ev σ) ⟨dst,.build t ps.toArray,ty,pos,bO,g⟩).run P w= .ok (.value (.agg cells)) w:=Go.Proofs.YtlhjdflgjbkpmaaGreatDoor.E.run_build h hb
theorem bj{c:List Value}(hg:w.heap[b]?=some (.cells c.toArray e fr)):w.rangeAt b 0 c:=fun j v hj=>by
 unfold World.cell?
 simp only[hg]
 simpa using hj
theorem aR{d:TypeDesc}(hu:P.underlying t=some d)(hd:d.isRow=true)(hi:(P.info? t).map (·.size)=some 65)(hx:ev σ x= .pointer (some ⟨b,0,none⟩))
 (hg:w.heap[b]?=some (.cells (dU r) e fr)):(execOp (ev σ) ⟨dst,.load t x,ty,pos,bO,g⟩).run P w= .ok (.value (.agg (dU r))) w:=by grind[jt,cA,pI,bj]
theorem oQ{r0:Rl}(hi:(P.info? t).map (·.size)=some 65)(hx:ev σ x= .pointer (some ⟨b,0,none⟩))(hy:ev σ y= .agg (dU r))(hg:w.heap[b]?=some (.cells (dU r0) e (0,0))):
 (execOp (ev σ) ⟨dst,.store t x y,ty,pos,bO,g⟩).run P w= .ok .skip (w.setRow b (dU r)):=by grind[dO,H9,Me]
theorem aDf(a b:BitVec 64):(((a.toNat:Nat):Int)==((b.toNat:Nat):Int))=decide (a=b):=by grind[BitVec.eq_of_toNat_eq]
theorem ao8(d:Nat){t e:TypeId}{len:Nat}(f h:Nat->BitVec 64)(hu:P.underlying t=some (.array len e))(he:P.underlying e=some (.int .u64))(hs:∀w,(sizeOf e).run P w= .ok 1 w)(ha:∀w,(isAgg e).run P w= .ok false w):
  (Op.equalIn (d+1+1) t (.agg ((List.range len).map fun i=>U (f i)).toArray) (.agg ((List.range len).map fun i=>U (h i)).toArray)).run P w= .ok (decide (∀i,i<len->f i=h i)) w:=by
 unfold Op.equalIn
 simp only[uj,kp hu,xL,hs]
 rw[Std.Legacy.Range.forIn_eq_forIn_range']
 have key:∀(n s:Nat),s+n<=len->(Sem.run P (forIn (List.range' s n 1) ((none:Option Bool),()) fun i __s=>do
      let __do_lift<-part e (List.map (fun i=>U (f i)) (List.range len)).toArray (i*1)
      let Ut<-part e (List.map (fun i=>U (h i)) (List.range len)).toArray (i*1)
      let __do_lift<-Op.equalIn (d+1) e __do_lift Ut
      if(!__do_lift)=true then pure (ForInStep.done (some false,()))else pure (ForInStep.yield (none,()))) w)
   = .ok (if∀i,i<n->f (s+i)=h (s+i)then(none,())else(some false,())) w:=by
  intro n
  induction n with
  |zero=>
   intro s hs2
   have:∀i,i<0->f (s+i)=h (s+i):=fun i b=>by omega
   rw[aX this];rfl
  |succ n ih=>
   intro s hs2
   have hp:∀g:Nat->BitVec 64,(part e (List.map (fun i=>U (g i)) (List.range len)).toArray (s*1)).run P w= .ok (U (g s)) w:=fun g=>by
    simp[part,ha,show s<len by omega]
   rw[List.range'_succ,List.forIn_cons]
   simp only[uj,hp,xL,RA w d e .u64 .u64 _ _ he,aDf]
   by_cases h1:f s=h s
   .rw[gW h1]
    simp only[Bool.not_true,uB,xU,Sem.run_pure,xL]
    rw[ih (s+1) J]
    by_cases h2:∀i,i<n->f (s+1+i)=h (s+1+i)
    .have h3:∀i,i<n+1->f (s+i)=h (s+i):=fun i a=>by
      cases i with
      |zero=>exact h1
      |succ i=>have:=h2 i J;rwa[show s+1+i=s+(i+1)by omega]at this
     rw[aX h2,aX h3]
    have h3:¬∀i,i<n+1->f (s+i)=h (s+i):=fun h3=>h2 fun i a=>by
     have:=h3 (i+1) J;rwa[show s+(i+1)=s+1+i by omega]at this
    rw[aT h2,aT h3]
   rw[gZ h1]
   have h3:¬∀i,i<n+1->f (s+i)=h (s+i):=fun h3=>h1 (h3 0 J)
   rw[aT h3]
   simp only[Bool.not_false,ur,Sem.run_pure,xL]
 have k2:=key len 0 J
 have e0:(Std.Legacy.Range.mk 0 len 1 az).size=len:=by simp[Std.Legacy.Range.size]
 simp only[e0]
 rw[k2]
 by_cases h2:∀i,i<len->f i=h i
 .have h3:∀i,i<len->f (0+i)=h (0+i):=fun i b=>by rw[gO];exact h2 i b
  rw[aX h3,gW h2];rfl
 have h3:¬∀i,i<len->f (0+i)=h (0+i):=fun h3=>h2 fun i b=>by have:=h3 i b;rwa[gO]at this
 rw[aT h3,gZ h2];rfl
theorem adn(r:Rl):(dU r).extract 1 (1+64)=((List.range 64).map fun i=>U (r.up i)).toArray:=by grind[jt,wJ]
structure ama(P:Program)(t:TypeId)(f0 f1:Field)(e:TypeId):Prop where
 u:P.underlying t=some (.struct (P.fieldsOf t))
 f:P.fieldsOf t=#[f0,f1]
 n0:f0.name≠ "_"
 n1:f1.name≠ "_"
 o0:f0.offset=0
 o1:f1.offset=1
 u0:P.underlying f0.type=some (.int .i64)
 a0:∀w,(isAgg f0.type).run P w= .ok false w
 u1:P.underlying f1.type=some (.array 64 e)
 a1:∀w,(isAgg f1.type).run P w= .ok true w
 s1:∀w,(sizeOf f1.type).run P w= .ok 64 w
 ue:P.underlying e=some (.int .u64)
 se:∀w,(sizeOf e).run P w= .ok 1 w
 ae:∀w,(isAgg e).run P w= .ok false w
 st:P.stoodInHeld t=false
 eg:P.eqGuardType P.depth t=false
theorem ama.eql{f0 f1:Field}(T:ama P t f0 f1 e)(a b:Rl)(w:World):(Op.equalIn 10000 t (.agg (dU a)) (.agg (dU b))).run P w= .ok (decide (a.eq b)) w:=by
 rw[run_equalIn_struct w 9999 t _ _ T.u T.st,T.f]
 have p0:∀r:Rl,(part f0.type (dU r) f0.offset).run P w= .ok (I r.n) w:=fun r=>by
  rw[T.o0];have:=fx r;simp[part,T.a0,this]
 have p1:∀r:Rl,(part f1.type (dU r) f1.offset).run P w= .ok (.agg ((List.range 64).map fun i=>U (r.up i)).toArray) w:=fun r=>by
  rw[T.o1,<-adn];simp[part,T.a1,T.s1]
 have e0:(Op.equalIn 9999 f0.type (I a.n) (I b.n)).run P w= .ok (a.n==b.n) w:=RA w 9998 _ .i64 .i64 _ _ T.u0
 have e1:(Op.equalIn 9999 f1.type (.agg ((List.range 64).map fun i=>U (a.up i)).toArray) (.agg ((List.range 64).map fun i=>U (b.up i)).toArray)).run P w= .ok (decide (∀i:Nat,i<64->a.up i=b.up i)) w:=
  ao8 9997 _ _ T.u1 T.ue T.se T.ae
 simp only[Op.eqFields,T.n0,T.n1,ne_eq,XV,ur,uj,p0,e0,xL]
 by_cases h0:a.n=b.n
 .by_cases h1:∀i,i<64->a.up i=b.up i
  .rw[gW h1]at e1
   rw[gW (show a.eq b from⟨h0,h1⟩)];simp[h0,p1,e1]
  rw[gZ h1]at e1
  rw[gZ (show¬a.eq b from fun h=>h1 h.2)];simp[h0,p1,e1]
 rw[gZ (show¬a.eq b from fun h=>h0 h.1)];simp[h0]
theorem Fm{f0 f1:Field}{a b:Rl}(T:ama P t f0 f1 e)(hx:ev σ x= .agg (dU a))(hy:ev σ y= .agg (dU b)):
  (execOp (ev σ) ⟨dst,.binOp .eql t x y u,ty,pos,bO,g⟩).run P w= .ok (.value (.bool (decide (a.eq b)))) w:=by
 have h:=run_eql_struct (P:=P) w t (dU a) (dU b)
 rw[T.eql]at h
 simp only[execOp,hx,hy,uj,X7 w .eql t x y _ _ T.eg,xL]
 simp[h]
structure ao9(P:Program)(t:TypeId)(f0 f1:Field):Prop where
 u:P.underlying t=some (.struct (P.fieldsOf t))
 f:P.fieldsOf t=#[f0,f1]
 n0:f0.name≠ "_"
 n1:f1.name≠ "_"
 o0:f0.offset=0
 o1:f1.offset=1
 u0:P.underlying f0.type=some (.int .i64)
 a0:∀w,(isAgg f0.type).run P w= .ok false w
 u1:P.underlying f1.type=some (.int .i64)
 a1:∀w,(isAgg f1.type).run P w= .ok false w
 st:P.stoodInHeld t=false
 eg:P.eqGuardType P.depth t=false
theorem ao9.eql{f0 f1:Field}(T:ao9 P t f0 f1)(a b c d:Int)(w:World):(Op.equalIn 10000 t (.agg #[I a,I b]) (.agg #[I c,I d])).run P w= .ok (decide ((a,b)=(c,d))) w:=by
 rw[run_equalIn_struct w 9999 t _ _ T.u T.st,T.f]
 have p0:∀x y:Int,(part f0.type #[I x,I y] f0.offset).run P w= .ok (I x) w:=fun x y=>by
  rw[T.o0];simp[part,T.a0]
 have p1:∀x y:Int,(part f1.type #[I x,I y] f1.offset).run P w= .ok (I y) w:=fun x y=>by
  rw[T.o1];simp[part,T.a1]
 have e0:(Op.equalIn 9999 f0.type (I a) (I c)).run P w= .ok (a==c) w:=RA w 9998 _ .i64 .i64 _ _ T.u0
 have e1:(Op.equalIn 9999 f1.type (I b) (I d)).run P w= .ok (b==d) w:=RA w 9998 _ .i64 .i64 _ _ T.u1
 simp only[Op.eqFields,T.n0,T.n1,ne_eq,XV,ur,uj,p0,e0,xL]
 by_cases h0:a=c
 .subst h0
  by_cases h1:b=d
  .subst h1;simp[p1,e1]
  simp[p1,e1,h1]
 simp[h0]
theorem agx{w0 w:World}{fn:Func}{L:List bu}{i p:Nat}{q:Value->World->Prop}{d:TypeDesc}{ty:TypeId}(h:fn.results=#[.cell p ty])(hp:σ p= .pointer (some ⟨b,0,none⟩))(hH:Hp w0 w L)
  (hi:L[i]?=some (.blk b (.cells (dU r) e fr))) (hu:P.underlying ty=some d) (hd:d.isRow=true) (hz:(P.info? ty).map (·.size)=some 65) (hq:q (.agg (dU r)) w):Out P fn q σ w:=
 fun n a ha=>⟨_,results_cell_row h _ w b e (dU r) fr d (by rw[ha.get,hp]) (hH.blk hi) hu (by cases d<;>simp_all) (by rw[H9];exact hz),hq⟩
def prL(l:List (Int×Int)):List Value:=l.flatMap fun p=>[I p.1,I p.2]
@[simp] theorem awr(l:List (Int×Int))(a b:Int):prL (l++[(a,b)])=prL l++[I a,I b]:=by simp[prL]
end runs
end
end Go.Proofs.YtlhjdflgjbkpmaaGreatDoor.E
namespace Go.Proofs.YtlhjdflgjbkpmaaGreatDoor.M
theorem agy(m:Nat)(n:Int)(u:Nat->BitVec 64)(i j:Nat):(j3 m n u i).getLsbD j=((u i).getLsbD j||(decide ((i:Int)<n)&&(u i).getLsbD m&&(u m).getLsbD j)):=by grind[j3]
structure Thr(n:Int)(u0 u:Nat->BitVec 64)(m:Nat):Prop where
 Fp:∀i j:Nat,(u i).getLsbD j=true->(i:Int)<n/\(j:Int)<n
 base:∀i j:Nat,(u0 i).getLsbD j=true->(u i).getLsbD j=true
 thr:∀k:Nat,k<m->∀i j:Nat,(u i).getLsbD k=true->(u k).getLsbD j=true->(u i).getLsbD j=true
 sound:∀S:Nat->Prop,(∀x y:Nat,S x->(u0 x).getLsbD y=true->S y)->∀x y:Nat,S x->(u x).getLsbD y=true->S y
theorem Thr.pass{n:Int}{u0 u:Nat->BitVec 64}{m:Nat}(h:Thr n u0 u m):Thr n u0 (j3 m n u) (m+1):=by
 have bit:∀i j:Nat,(j3 m n u i).getLsbD j=true↔((u i).getLsbD j=true\/((u i).getLsbD m=true/\(u m).getLsbD j=true)):=fun i j=>by
  rw[agy]
  simp only[qa,cM,eD]
  constructor
  .rintro(h1|⟨⟨h1,h2⟩,h3⟩)
   .exact .inl h1
   exact .inr ⟨h2,h3⟩
  rintro(h1|⟨h1,h2⟩)
  .exact .inl h1
  exact .inr ⟨⟨(h.Fp _ _ h1).1,h1⟩,h2⟩
 refine⟨fun i j hb=> ?_,fun i j hb=>(bit i j).2 (.inl (h.base i j hb)),fun k hk i j h1 h2=> ?_,fun S hS x y hx hb=> ?_⟩
 .rcases(bit i j).1 hb with h1|⟨h1,h2⟩
  .exact h.Fp i j h1
  exact⟨(h.Fp i m h1).1,(h.Fp m j h2).2⟩
 .rw[bit]at*
  by_cases e:k=m
  .subst e
   have a1:(u i).getLsbD k=true:=by rcases h1 with h1|h1;exact h1;exact h1.1
   have a2:(u k).getLsbD j=true:=by rcases h2 with h2|h2;exact h2;exact h2.2
   exact .inr ⟨a1,a2⟩
  have hk':k<m:=J
  rcases h1 with h1|⟨h1,h1'⟩<;>rcases h2 with h2|⟨h2,h2'⟩
  .exact .inl (h.thr k hk' i j h1 h2)
  .exact .inr ⟨h.thr k hk' i m h1 h2,h2'⟩
  .exact .inr ⟨h1,h.thr k hk' m j h1' h2⟩
  exact .inr ⟨h1,h2'⟩
 rcases(bit x y).1 hb with h1|⟨h1,h2⟩
 .exact h.sound S hS x y hx h1
 exact h.sound S hS m y (h.sound S hS x m hx h1) h2
theorem Thr.wall{n:Int}{u0:Nat->BitVec 64}(hi:∀i j:Nat,(u0 i).getLsbD j=true->(i:Int)<n/\(j:Int)<n):∀m,Thr n u0 (wall n u0 m) m
 |0=>⟨hi,fun _ _ h=>h,fun k hk=>J,fun S hS x y hx hb=>hS x y hx hb⟩
 |m+1=>(Thr.wall hi m).pass
theorem Gl(r:Rl)(i j:Nat):(qf (eI r).up (pts r) i).getLsbD j=true↔((i:Int)<pts r/\(j:Int)<pts r/\(bL r i j=true\/i=j)):=by grind[Rl,qf,eI,pts,bL,dA,Eu,vD,x9,uM,rj]
theorem DF(r:Rl):Thr (pts r) (qf (eI r).up (pts r)) (js r).up (pts r).toNat:=Thr.wall (fun i j h=>by have:=(Gl r i j).1 h;exact⟨this.1,this.2.1⟩) _
theorem aa5{r:Rl}{u:Nat->BitVec 64}:pts ⟨pts r,u⟩=pts r:=by unfold pts;simp;omega
theorem zS(r:Rl):pts (js r)=pts r:=aa5
theorem Iq(r:Rl):pts (eI r)=pts r:=aa5
theorem jR{r:Rl}{i j:Int}(h:bL r i j=true):(0<=i/\i<pts r)/\(0<=j/\j<pts r)/\(r.up i.toNat).getLsbD j.toNat=true:=by grind[bL,rj]
theorem KH{r:Rl}{i j:Int}(hi:0<=i/\i<pts r)(hj:0<=j/\j<pts r)(h:(r.up i.toNat).getLsbD j.toNat=true):bL r i j=true:=by grind[bL,rj]
theorem aa6{r:Rl}{i j:Nat}:((js r).up i).getLsbD j=true↔bL (js r) i j=true:=by
 constructor
 .intro h
  have:=(DF r).Fp i j h
  exact KH Ib Ib x7
 intro h
 have:=(jR h).2.2;simpa using this
theorem yJ{r:Rl}{i:Int}(h:0<=i/\i<pts r):bL (js r) i i=true:=
 KH Ib Ib ((DF r).base _ _ ((Gl r _ _).2 ⟨J,J,.inr O⟩))
theorem Gm{r:Rl}{i j:Int}(h:bL r i j=true):bL (js r) i j=true:=by
 obtain⟨h1,h2,-⟩:=jR h
 refine KH Ib Ib ((DF r).base _ _ ((Gl r _ _).2 ⟨J,J,.inl ?_⟩))
 rw[gk h1.1,gk h2.1];exact h
theorem nn{r:Rl}{i j k:Int}(h1:bL (js r) i j=true)(h2:bL (js r) j k=true):bL (js r) i k=true:=by
 obtain⟨a1,a2,a3⟩:=jR h1
 obtain⟨b1,b2,b3⟩:=jR h2
 exact KH a1 b2 ((DF r).thr _ (by rw[zS]at a2;omega) _ _ a3 b3)
theorem DG{r:Rl}{i j:Int}(h:bL (js r) i j=true)(S:Int->Prop)(hS:∀x y,S x->bL r x y=true->S y)(hi:S i):S j:=by
 obtain⟨a1,a2,a3⟩:=jR h
 have:=(DF r).sound (fun x=>S (x:Int)) (fun x y hx hb=>by
  obtain⟨-,-,h1|h1⟩:=(Gl r x y).1 hb
  .exact hS _ _ hx h1
  subst h1;exact hx) i.toNat j.toNat (by rw[gk a1.1];exact hi) a3
 rwa[gk a2.1]at this
def scan(r:Rl)(x:Int)(l:List Int):Nat->List Int
 |0=>l
 |b+1=>if(bL r x b&& !(scan r x l b).contains (b:Int))=true then scan r x l b++[(b:Int)]else scan r x l b
def Xl(r:Rl):Nat->Nat->List Int->List Int
 |0,_,l=>l
 |f+1,a,l=>if a<l.length then Xl r f (a+1) (scan r (l.getD a 0) l (pts r).toNat)else l
def yc(r:Rl)(i:Int):List Int:=if Bx r i then Xl r 65 0 [i]else[]
theorem PD{r:Rl}{i:Int}(h:¬(0<=i/\i<pts r)):yc r i=[]:=aT fun h'=>h (rj.1 h')
def Uu(r:Rl)(l:List Int):Prop:=l.Nodup/\∀x∈l,0<=x/\x<pts r
theorem DH:∀(n:Nat) (l:List Int),l.Nodup->(∀x∈l,0<=x/\x<(n:Int))->l.length<=n
 |0,l,_,h=>by
  cases l with
  |nil=>simp
  |cons x l=>have:=h x aJ;omega
 |n+1,l,hn,h=>by
  by_cases hm:(n:Int)∈l
  .have h1:=XA hm
   have h2:=DH n (l.erase (n:Int)) (hn.erase _) fun x hx=>by
    have h3:=(hn.mem_erase_iff).1 hx
    have:=h x h3.2;omega
   have:0<l.length:=Rk hm
   omega
  have:=DH n l hn fun x hx=>by
   have:=h x hx
   have:x≠n:=fun e=>hm (e▸hx)
   omega
  omega
theorem Uu.len{r:Rl}{l:List Int}(h:Uu r l):l.length<=64:=by
 have hp:=dA r
 have:=DH (pts r).toNat l h.1 fun x hx=>by have:=h.2 x hx;omega
 omega
theorem Uu.one{r:Rl}{i:Int}(h:0<=i/\i<pts r):Uu r [i]:=by grind[Rl,pts,Uu]
theorem Uu.add{r:Rl}{l:List Int}{b:Int}(h:Uu r l)(hb:0<=b/\b<pts r)(hc:l.contains b=false):Uu r (l++[b]):=by grind[Rl,Uu,pts]
theorem aa7{r:Rl}{x:Int}{l:List Int}(h:Uu r l):∀k:Nat,(k:Int)<=pts r->Uu r (scan r x l k)
 |0,_=>h
 |k+1,hk=>by
  have ih:=aa7 (x:=x) h k J
  unfold scan
  split
  .rename_i hc
   simp only[cM,B6]at hc
   exact ih.add ⟨J,J⟩ hc.2
  exact ih
theorem Mf{r:Rl}{x:Int}{l:List Int}:∀k:Nat,∃t,scan r x l k=l++t/\∀y∈t,bL r x y=true
 |0=>⟨[],by simp[scan],aJ⟩
 |k+1=>by
  obtain⟨t,h1,h2⟩:=Mf (r:=r) (x:=x) (l:=l) k
  unfold scan
  split
  .rename_i hc
   simp only[cM]at hc
   refine⟨t++[(k:Int)],by rw[h1,dG],fun y hy=> ?_⟩
   rcases e8.1 hy with hy|hy
   .exact h2 y hy
   simp at hy;subst hy;exact hc.1
  exact⟨t,h1,h2⟩
theorem Uv{r:Rl}{x:Int}{l:List Int}:∀(k:Nat) (b:Nat),b<k->bL r x b=true->(b:Int)∈scan r x l k
 |0,b,hb,_=>by omega
 |k+1,b,hb,h=>by
  have ih:=Uv (r:=r) (x:=x) (l:=l) k b
  unfold scan
  split
  .rename_i hc
   by_cases e:b=k
   .subst e;simp
   exact dL _ (ih J h)
  rename_i hc
  by_cases e:b=k
  .subst e
   rw[h]at hc;simp at hc;exact hc
  exact ih J h
theorem aa8{r:Rl}(Q:Int->Prop)(hQ:∀x y,Q x->bL r x y=true->Q y):∀(f a:Nat) (l:List Int),(∀x∈l,Q x)->∀x∈Xl r f a l,Q x
 |0,a,l,h=>h
 |f+1,a,l,h=>by
  unfold Xl
  split
  .rename_i ha
   refine aa8 Q hQ f (a+1) _ ?_
   obtain⟨t,h1,h2⟩:=Mf (r:=r) (x:=l.getD a 0) (l:=l) (pts r).toNat
   rw[h1]
   intro y hy
   rcases e8.1 hy with hy|hy
   .exact h y hy
   refine hQ _ _ (h (l.getD a 0) ?_) (h2 y hy)
   rw[eT,eF ha];exact r8 _
  exact h
theorem Mg{r:Rl}:∀(f a:Nat) (l:List Int),f+a=65->Uu r l->a<=l.length->(∀k,k<a->∀b,bL r (l.getD k 0) b=true->b∈l)->
  Uu r (Xl r f a l)/\(∀x∈l,x∈Xl r f a l)/\∀x∈Xl r f a l,∀b,bL r x b=true->b∈Xl r f a l
 |0,a,l,hf,hok,ha,h=>by have:=hok.len;omega
 |f+1,a,l,hf,hok,ha,h=>by
  have hp:=dA r
  unfold Xl
  split
  .rename_i hlt
   obtain⟨t,h1,h2⟩:=Mf (r:=r) (x:=l.getD a 0) (l:=l) (pts r).toNat
   have Uw:∀k,k<l.length->(l++t).getD k 0=l.getD k 0:=fun k hk=>by
    rw[eT,eT,zD hk]
   have ih:=Mg f (a+1) (scan r (l.getD a 0) l (pts r).toNat) J (aa7 hok _ J) (by rw[h1,ec];omega) (fun k hk b hb=>by
    rw[h1,Uw k J]at hb
    by_cases e:k=a
    .subst e
     obtain⟨-,b2,-⟩:=jR hb
     have:=Uv (r:=r) (x:=l.getD k 0) (l:=l) (pts r).toNat b.toNat J (by rw[gk b2.1];exact hb)
     rwa[gk b2.1]at this
    rw[h1];exact dL _ (h k J b hb))
   refine⟨ih.1,fun x hx=>ih.2.1 x (by rw[h1];exact dL _ hx),ih.2.2⟩
  rename_i hge
  refine⟨hok,fun x hx=>hx,fun x hx b hb=> ?_⟩
  obtain⟨k,hk,rfl⟩:=uf hx
  refine h k J b ?_
  rw[eT,eF hk];exact hb
theorem ado(r:Rl)(i j:Int):j∈yc r i↔bL (js r) i j=true:=by
 by_cases h:0<=i/\i<pts r
 .rw[yc,aX (rj.2 h)]
  have hc:=Mg 65 0 [i] O (Uu.one h) aJ (fun k hk=>J)
  constructor
  .intro hj
   exact aa8 (fun x=>bL (js r) i x=true) (fun x y hx hy=>nn hx (Gm hy)) 65 0 [i] (fun x hx=>by simp at hx;subst hx;exact yJ h) j hj
  intro hj
  exact DG hj (fun x=>x∈Xl r 65 0 [i]) (fun x y hx hy=>hc.2.2 x hx y hy) (hc.2.1 i aJ)
 rw[PD h]
 constructor
 .intro hj;cases hj
 intro hj
 have:=(jR hj).1
 rw[zS]at this;exact absurd this h
theorem agz{r:Rl}{a:Int}{l:List Int}(h0:0<=a)(h:a<l.length)(hl:l.length<=64):Xl r (65-a.toNat) a.toNat l=Xl r (65-(a+1).toNat) (a+1).toNat (scan r (l.getD a.toNat 0) l (pts r).toNat):=by
 rw[show 65-a.toNat=(65-(a+1).toNat)+1 by omega,show(a+1).toNat=a.toNat+1 by omega]
 rw[Xl,aX J]
theorem aa9{r:Rl}{a:Int}{l:List Int}(h0:0<=a)(h:¬a<l.length):Xl r (65-a.toNat) a.toNat l=l:=by
 cases 65-a.toNat with
 |zero=>rfl
 |succ f=>rw[Xl,aT J]
theorem agA{r:Rl}{x b:Int}{l:List Int}(h0:0<=b)(h:bL r x b=true)(hc:(scan r x l b.toNat).contains b=false):scan r x l b.toNat++[b]=scan r x l (b+1).toNat:=by
 rw[show(b+1).toNat=b.toNat+1 by omega]
 rw[scan,gk h0,h,hc];rfl
theorem agB{r:Rl}{x b:Int}{l:List Int}(h0:0<=b)(h:bL r x b=false):scan r x l b.toNat=scan r x l (b+1).toNat:=by
 rw[show(b+1).toNat=b.toNat+1 by omega]
 rw[scan,gk h0,h];rfl
theorem agC{r:Rl}{x b:Int}{l:List Int}(h0:0<=b)(hc:(scan r x l b.toNat).contains b=true):scan r x l b.toNat=scan r x l (b+1).toNat:=by
 rw[show(b+1).toNat=b.toNat+1 by omega]
 rw[scan,gk h0,hc];simp
theorem adp(r:Rl){i:Nat}(h:(i:Int)<pts r):kW (yc r i)=(js r).up i:=eG fun j hj=>by
 rw[ic,gW hj,mF,gH,aa6,<-ado]
 simp[E2]
theorem Ux(r:Rl){i:Nat}(h:¬(i:Int)<pts r):(js r).up i=0#64:=eG fun j hj=>by
 cases hc:((js r).up i).getLsbD j with
 |false=>simp
 |true=>exact absurd ((DF r).Fp i j hc).1 h
theorem amb(r:Rl):Eu (pts r) (fun i=>kW (yc r i)) (pts r)=js r:=by
 refine ya fun i=> ?_
 by_cases h:(i:Int)<pts r
 .rw[aX h];exact adp r h
 rw[aT h];exact(Ux r h).symm
theorem adq(r:Rl):eI (js r)=js r:=by
 have hp:=dA r
 unfold eI
 rw[zS]
 refine ya fun i=> ?_
 show(if(i:Int)<pts r then vD (js r) i else 0#64)=(js r).up i
 by_cases h:(i:Int)<pts r
 .rw[aX h]
  refine eG fun j hj=> ?_
  rw[uM (js r) ⟨J,by rw[zS];exact h⟩,gH,aa6]
 rw[aT h];exact(Ux r h).symm
def agD(n:Int):Rl:=⟨pts ⟨n,fun _=>0#64⟩,fun _=>0#64⟩
def aDi(r:Rl)(p:Int×Int):Rl:=if Bx r p.1&&Bx r p.2 then r.put p.1.toNat (vC (r.up p.1.toNat) p.2)else r
def ofR(n:Int)(l:List (Int×Int)):Rl:=l.foldl aDi (agD n)
def aJt(r:Rl)(i j:Int):Rl:=if Bx r i&&Bx r j then(eI r).put i.toNat (vC ((eI r).up i.toNat) j)else eI r
def DI(r:Rl)(i:Int):BitVec 64:=upR r (kW [i])&&&Ev r (kW [i])
def gx(r:Rl):Bool:=decide ((eI r).eq (js r))&&decide (∀i:Nat,i<(pts r).toNat->∀j:Nat,j<i->(bL r i j&&bL r j i)=false)
theorem adr(r:Rl)(i j:Int):bL (eI r) i j=bL r i j:=by
 have hp:=dA r
 by_cases hi:0<=i/\i<pts r
 .by_cases hj:0<=j/\j<pts r
  .rw[bL,Bx,Bx,Iq,gW hi,gW hj]
   have e:(eI r).up i.toNat=vD r i:=by
    show(if((i.toNat:Nat):Int)<pts r then vD r (i.toNat:Nat)else 0#64)=vD r i
    rw[gk hi.1,aX hi.2]
   rw[e,uM r hi,gk hj.1];rfl
  rw[Sm (by rw[Bx,Iq];exact gZ hj),Sm (by rw[Bx];exact gZ hj)]
 rw[KF (by rw[Bx,Iq];exact gZ hi),KF (by rw[Bx];exact gZ hi)]
theorem has_eq{a b:Rl}(h:a.eq b)(i j:Int):bL a i j=bL b i j:=by
 have hp:pts a=pts b:=by unfold pts;rw[h.1]
 have hb:=dA b
 by_cases hi:0<=i/\i<pts b
 .rw[bL,bL,Bx,Bx,Bx,Bx,hp,h.2 i.toNat J]
 rw[KF (by rw[Bx,hp];exact gZ hi),KF (by rw[Bx];exact gZ hi)]
theorem sG{r:Rl}(h:(eI r).eq (js r))(i j:Int):bL r i j=bL (js r) i j:=by rw[<-adr,has_eq h]
theorem agE(r:Rl)(s:BitVec 64)(j:Nat):(upR r s).getLsbD j=true↔∃i:Int,hasB s i=true/\bL r i j=true:=by
 rw[upR,Ip,E4]
 constructor
 .rintro⟨i,h1,h2⟩
  rw[fD,hasB,sx,fH,cM,cM,eD,zY,eD]at h1
  have hi:0<=i/\i<pts r:=J
  refine⟨i,by rw[hasB,h1.2.1,zY,gW J];rfl,?_⟩
  rwa[uM r hi]at h2
 rintro⟨i,h1,h2⟩
 have hi:=(jR h2).1
 have hb:=uN h1
 refine⟨i,?_,by rw[uM r hi];exact h2⟩
 rw[fD,hasB,sx,fH]
 rw[hasB,cM]at h1
 rw[h1.1,h1.2,gW J];rfl
theorem Uy{s:BitVec 64}:s≠0#64↔∃i:Nat,s.getLsbD i=true:=by
 constructor
 .intro h
  by_cases hc:∃i:Nat,s.getLsbD i=true
  .exact hc
  refine absurd (eG fun i _=> ?_) h
  cases hb:s.getLsbD i with
  |false=>simp
  |true=>exact absurd ⟨i,hb⟩ hc
 rintro⟨i,h⟩ e
 rw[e]at h;simp at h
theorem Mh(r:Rl)(s:BitVec 64)(j:Nat):(Ev r s).getLsbD j=true↔∃i:Int,hasB s i=true/\bL r j i=true:=by
 have hp:=dA r
 rw[Ev,yb,kB,cM,cM,eD,eD,eD]
 rw[Uy]
 constructor
 .rintro⟨⟨h1,h2⟩,i,h3⟩
  rw[sx,cM,uM r ⟨J,J⟩]at h3
  have hi:=(jR h3.1).2.1
  exact⟨i,by rw[hasB,zY,gW J];simpa using h3.2,h3.1⟩
 rintro⟨i,h1,h2⟩
 obtain⟨a1,a2,-⟩:=jR h2
 refine⟨⟨J,J⟩,i.toNat,?_⟩
 rw[sx,uM r a1,gk a2.1,h2]
 rw[hasB,cM]at h1
 rw[h1.2];rfl
theorem Uz{i j:Int}(h:0<=i/\i<64):hasB (kW [i]) j=true↔j=i:=by grind[fD,uN,hasB,ic,zY]
theorem Mi{r:Rl}{i:Int}(h:0<=i/\i<pts r)(j:Nat):(DI r i).getLsbD j=true↔(bL r i j=true/\bL r j i=true):=by grind[Rl,pts,DI,bL,dA,agE,Mh,Uz]
theorem ads{r:Rl}(h:¬(eI r).eq (js r)):gx r=false:=by grind[gx]
theorem Fq{r:Rl}:(∀i:Nat,i<(pts r).toNat->∀j:Nat,j<i->(bL r i j&&bL r j i)=false)↔∀i j:Int,bL r i j=true->bL r j i=true->i=j:=by
 constructor
 .intro h i j h1 h2
  obtain⟨a1,a2,-⟩:=jR h1
  by_cases e:i=j
  .exact e
  by_cases hlt:j<i
  .have:=h i.toNat J j.toNat J
   rw[gk a1.1,gk a2.1,h1,h2]at this;cases this
  have:=h j.toNat J i.toNat J
  rw[gk a1.1,gk a2.1,h1,h2]at this;cases this
 intro h i hi j hj
 cases h1:bL r i j with
 |false=>rfl
 |true=>
  cases h2:bL r j i with
  |false=>rfl
  |true=>have:=h i j h1 h2;omega
theorem agF{r:Rl}{k:Int}(hc:(eI r).eq (js r))(hk:0<=k/\k<pts r)(h:DI r k≠kW [k]):gx r=false:=by
 rw[gx,Bool.and_eq_false_iff]
 refine .inr (gZ fun ha=>h ?_)
 have hp:=dA r
 rw[Fq]at ha
 refine eG fun j hj=> ?_
 rw[gH,Mi hk]
 constructor
 .rintro⟨h1,h2⟩
  have:=ha _ _ h1 h2
  rw[ic];simp[E2];omega
 intro h1
 have:(j:Int)=k:=by rw[ic]at h1;simp[E2]at h1;omega
 rw[this,sG hc,yJ hk];simp
theorem adt{r:Rl}(hc:(eI r).eq (js r))(h:∀j:Int,0<=j->j<pts r->DI r j=kW [j]):gx r=true:=by
 rw[gx,gW hc,mF,eD,Fq]
 intro i j h1 h2
 obtain⟨a1,a2,-⟩:=jR h1
 have hp:=dA r
 have h3:=(Mi a1 j.toNat).2 (by rw[gk a2.1];exact⟨h1,h2⟩)
 rw[h i a1.1 a1.2,ic]at h3
 simp[E2]at h3;omega
theorem Mj{r:Rl}{i:Int}(h:0<=i/\i<pts r)(j:Nat):(z7 r i).getLsbD j=true↔bL r i j=true/\¬(j:Int)=i:=by
 rw[z7,O4,uM r h];simp
theorem agG{n:Int}(j:Nat)(h:(below n).getLsbD j=true):(j:Int)<n:=by grind[fH]
def xb(r:Rl)(s:BitVec 64):BitVec 64:=wZ (z7 r) (gL s)&&&s
def Ml(r:Rl):Nat->BitVec 64->Int->Int
 |0,_,n=>n
 |f+1,s,n=>if xb r s=0#64 then n else Ml r f (xb r s) (n+1)
def aba(r:Rl):Int×Bool:=if gx r then(Ml r 65 (below (pts r)) 0,true)else(0,false)
theorem amc{r:Rl}{s:BitVec 64}(hs:∀j:Nat,s.getLsbD j=true->(j:Int)<pts r)(j:Nat)(h:(xb r s).getLsbD j=true):(j:Int)<pts r:=by grind[xb]
theorem Ir:∀(l m:List Int),l.Nodup->(∀x∈l,x∈m)->l.length<=m.length
 |[],m,_,_=>by simp
 |x::l,m,hn,h=>by
  rw[om]at hn
  have hx:=h x aJ
  have:=Ir l (m.erase x) hn.2 fun y hy=>(List.mem_erase_of_ne (show y≠x from fun e=>hn.1 (by rw[<-e];exact hy))).2 (h y (by simp[hy]))
  have h2:=XA hx
  have:0<m.length:=Rk hx
  simp;omega
theorem It(s:BitVec 64):(gL s).Nodup:=by
 have:=qe s
 exact this.imp fun h=>by omega
theorem agH{a b:BitVec 64}{j:Int}(h:∀i:Int,hasB a i=true->hasB b i=true)(hb:hasB b j=true)(ha:hasB a j=false):(gL a).length<(gL b).length:=by
 have:=Ir (j::gL a) (gL b) (by
  rw[om]
  exact⟨fun hm=>absurd ((fD _ _).1 hm) (by rw[ha];simp),It a⟩) fun x hx=>by
   rcases c8.1 hx with rfl|hx
   .exact(fD _ _).2 hb
   exact(fD _ _).2 (h x ((fD _ _).1 hx))
 simp at this;omega
theorem Mm(lt:Int->Int->Prop)(hi:∀x,¬lt x x)(ht:∀x y z,lt x y->lt y z->lt x z):∀l:List Int,l≠[]->∃m∈l,∀x∈l,¬lt x m
 |[],h=>absurd O h
 |[a],_=>⟨a,aJ,fun x hx=>by simp at hx;subst hx;exact hi _⟩
 |a::b::l,_=>by
  obtain⟨m,hm,h⟩:=Mm lt hi ht (b::l) aJ
  by_cases ha:lt a m
  .refine⟨a,aJ,fun x hx=> ?_⟩
   rcases c8.1 hx with rfl|hx
   .exact hi _
   exact fun hxa=>h x hx (ht _ _ _ hxa ha)
  refine⟨m,fX _ hm,fun x hx=> ?_⟩
  rcases c8.1 hx with rfl|hx
  .exact ha
  exact h x hx
theorem vE{r:Rl}(h:gx r=true):(eI r).eq (js r)/\∀i j:Int,bL r i j=true->bL r j i=true->i=j:=by
 rw[gx,cM,eD,eD,Fq]at h;exact h
theorem tg{r:Rl}(h:gx r=true){i j k:Int}(h1:bL r i j=true)(h2:bL r j k=true):bL r i k=true:=by grind[vE,sG,nn]
theorem fy(a b:BitVec 64)(i:Int):hasB (a&&&b) i=(hasB a i&&hasB b i):=by grind[hasB,zY]
theorem KI(a b:BitVec 64)(i:Int):hasB (a|||b) i=(hasB a i||hasB b i):=by grind[hasB,zY]
theorem Mn{s:BitVec 64}{i:Int}(h:hasB s i=true):s.getLsbD i.toNat=true:=by grind[hasB]
theorem amd{s:BitVec 64}{j:Nat}(h:s.getLsbD j=true):hasB s j=true:=by grind[hasB,zY]
theorem ame{r:Rl}{s:BitVec 64}(ho:gx r=true)(hs:∀j:Nat,s.getLsbD j=true->(j:Int)<pts r)(h:¬xb r s=0#64):(gL (xb r s)).length<(gL s).length:=by
 have hne:gL s≠[]:=fun e=>by
  rw[z6]at e;subst e
  exact h (by rw[xb];simp)
 obtain⟨m,hm,hmin⟩:=Mm (fun x y=>bL r x y=true/\x≠y) (fun x hx=>hx.2 O) (fun x y z h1 h2=>⟨tg ho h1.1 h2.1,fun e=>by
  subst e
  exact h1.2 ((vE ho).2 _ _ h1.1 h2.1)⟩) (gL s) hne
 rw[fD]at hm
 refine agH (j:=m) (fun i hi=>by rw[xb,fy,cM]at hi;exact hi.2) hm ?_
 cases hc:hasB (xb r s) m with
 |false=>rfl
 |true=>
  rw[xb,fy,cM]at hc
  have h1:=Mn hc.1
  rw[Ip,E4]at h1
  obtain⟨x,hx,hb⟩:=h1
  have hxs:=(fD _ _).1 hx
  have hbd:=uN hxs
  have hxp:=hs _ (Mn hxs)
  have hmb:=uN hm
  rw[Mj ⟨hbd.1,J⟩,gk hmb.1]at hb
  exact absurd ⟨hb.1,fun e=>hb.2 e.symm⟩ (hmin x hx)
def aDj(r:Rl)(i:Int):BitVec 64:=z7 r i&&& ~~~wZ (z7 r) (gL (z7 r i))
def agI(r:Rl)(k:Int):List (Int×Int):=(upto k).flatMap fun i=>(gL (aDj r i)).map fun y=>(i,y)
def aCh(r:Rl):List (Int×Int):=if gx r then agI r (pts r)else[]
def aDk:Rl:=⟨3,fun i=>[7#64,6#64,4#64].getD i 0#64⟩
def aJu(p:Int->Bool)(l:List Int)(a:Int):Bool:=(l.take a.toNat).any p
theorem adu{r:Rl}{k:Int}(hk:¬k<pts r)(hf:∀i j:Int,0<=j->j<i->i<k->(bL r i j&&bL r j i)=false):gx r=decide ((eI r).eq (js r)):=by grind[gx,pts,bL]
theorem UA{r:Rl}{i j:Int}(h1:bL r i j=true)(h2:bL r j i=true)(h:j<i):gx r=false:=by grind[gx,vE]
def UB(r:Rl)(k j:Int):Bool:=(upto j).all fun x=> !(bL r k x&&bL r x k)
def Bb(r:Rl)(k:Int):Int:=(((upto k).filter fun i=>UB (js r) i i).length:Nat)
theorem arz{r:Rl}{k:Int}(h0:0<=k):0<=Bb r k/\Bb r k<=k:=by grind[UB,js,upto,m7,Bb]
theorem UC{s:BitVec 64}{k:Int}(hk:hasB s k=true):(YK s).1=k↔∀j:Int,0<=j->j<k->hasB s j=false:=by
 have hkb:=uN hk
 have hs:s≠0#64:=fun e=>by
  have:=Mn hk
  rw[e]at this;simp at this
 have h1:(YK s).1=tz s:=by rw[YK,aT hs]
 rw[h1]
 have hl:=Mb hs
 have hmem:hasB s (tz s)=true:=(fD _ _).1 (by rw[hl];simp)
 have hsort:=qe s
 rw[hl,lS]at hsort
 constructor
 .intro e j h0 hj
  cases hc:hasB s j with
  |false=>rfl
  |true=>
   have:=(fD _ _).2 hc
   rw[hl]at this
   rcases c8.1 this with e2|h2
   .omega
   have:=hsort.1 j h2;omega
 intro h
 have hb:=uN hmem
 have hkm:=(fD _ _).2 hk
 rw[hl]at hkm
 rcases c8.1 hkm with e2|h2
 .exact e2.symm
 have:=hsort.1 k h2
 have:=h (tz s) hb.1 this
 rw[hmem]at this;cases this
theorem k7{s:BitVec 64}{j:Int}:hasB s j=true↔(0<=j/\j<64)/\s.getLsbD j.toNat=true:=by grind[hasB,zY]
theorem Mo(f:Int->BitVec 64)(l:List Int)(j:Int):hasB (wZ f l) j=true↔∃i∈l,hasB (f i) j=true:=by grind[k7,Ip]
theorem kI{r:Rl}{i j:Int}(h:bL r i j=true):(0<=i/\i<pts r)/\(0<=j/\j<pts r):=by have:=jR h;exact⟨this.1,this.2.1⟩
theorem Mp{r:Rl}{i:Int}(h:0<=i/\i<pts r)(j:Int):hasB (z7 r i) j=true↔bL r i j=true/\j≠i:=by grind[k7,Mj,kI,dA]
theorem l6(n j:Int):hasB (below n) j=true↔0<=j/\j<64/\j<n:=by grind[k7,fH]
def zw(r:Rl):Nat->BitVec 64
 |0=>below (pts r)
 |k+1=>xb r (zw r k)
theorem Sn(r:Rl):∀k j:Nat,(zw r k).getLsbD j=true->(j:Int)<pts r
 |0,j,h=>agG j h
 |k+1,j,h=>amc (Sn r k) j h
theorem agJ{r:Rl}{k:Nat}{j:Int}(h:hasB (zw r k) j=true):0<=j/\j<pts r:=by
 have:=k7.1 h
 have h2:=Sn r k _ this.2
 omega
theorem KJ{r:Rl}(k:Nat)(j:Int):hasB (zw r (k+1)) j=true↔hasB (zw r k) j=true/\∃i:Int,hasB (zw r k) i=true/\bL r i j=true/\j≠i:=by
 rw[zw,xb,fy,cM,Mo,and_comm]
 refine X8 fun hj=> ?_
 constructor
 .rintro⟨i,hi,h⟩
  have hi2:=(fD _ _).1 hi
  exact⟨i,hi2,(Mp (agJ hi2) j).1 h⟩
 rintro⟨i,hi,h⟩
 exact⟨i,(fD _ _).2 hi,(Mp (agJ hi) j).2 h⟩
theorem agK{r:Rl}:∀(k:Nat) {i j:Int},hasB (zw r k) i=true->bL r i j=true->j≠i->hasB (zw r (k+1)) j=true
 |0,i,j,hi,h,hne=>by
  have hb:=kI h;have hp:=dA r
  exact(KJ 0 j).2 ⟨(l6 _ _).2 J,i,hi,h,hne⟩
 |k+1,i,j,hi,h,hne=>by
  have h1:=(KJ k i).1 hi
  exact(KJ (k+1) j).2 ⟨agK k h1.1 h hne,i,hi,h,hne⟩
theorem UD{r:Rl}{j:Int}{a b:Nat}(h:a<=b)(hb:hasB (zw r b) j=true):hasB (zw r a) j=true:=by
 induction b with
 |zero=>rwa[show a=0 by omega]
 |succ b ih=>
  by_cases he:a=b+1
  .rwa[he]
  exact ih J ((KJ b j).1 hb).1
theorem vF(j:Int):hasB 0#64 j=false:=by rw[hasB];simp
theorem arA{r:Rl}{k:Nat}(h:zw r (k+1)≠0#64):zw r k≠0#64:=by grind[zw,xb]
theorem YM{s:BitVec 64}{n:Int}(h0:0<=n)(h:∀j:Nat,s.getLsbD j=true->(j:Int)<n):(gL s).length<=n.toNat:=
 DH n.toNat (gL s) (It s) fun x hx=>by
  have h1:=k7.1 ((fD _ _).1 hx)
  have:=h _ h1.2
  omega
theorem abb{s:BitVec 64}(h:s≠0#64):0<(gL s).length:=by grind[z6]
theorem KK{r:Rl}(ho:gx r=true):∀k:Nat,zw r k≠0#64->(gL (zw r k)).length+k<=(pts r).toNat
 |0,_=>by have:=YM (dA r).1 (Sn r 0);omega
 |k+1,h=>by
  have h1:=KK ho k (arA h)
  have h2:(gL (zw r (k+1))).length<(gL (zw r k)).length:=ame ho (Sn r k) h
  omega
theorem abc{s:BitVec 64}{j:Int}(h:hasB s j=true):s≠0#64:=by grind[vF]
theorem agL{r:Rl}(ho:gx r=true){k:Nat}{j:Int}(h:hasB (zw r k) j=true):(k:Int)<pts r:=by
 have h1:=KK ho k (abc h)
 have h2:=abb (abc h)
 have:=dA r
 omega
theorem Iu{r:Rl}(ho:gx r=true):∀f k:Nat,f+k=65->(k=0\/zw r k≠0#64)->∃m:Nat,Ml r f (zw r k) k=(m:Int)/\zw r (m+1)=0#64/\(m=0\/zw r m≠0#64)
 |0,k,h,h2=>by
  have hp:=dA r
  rcases h2 with h2|h2
  .omega
  have:=KK ho k h2;omega
 |f+1,k,h,h2=>by
  by_cases hs:xb r (zw r k)=0#64
  .exact⟨k,by rw[Ml,aX hs],hs,h2⟩
  obtain⟨m,h3,h4⟩:=Iu ho f (k+1) J (.inr hs)
  refine⟨m,?_,h4⟩
  rw[Ml,aT hs,<-h3];rfl
def aJv(r:Rl)(F:Nat->Int):Prop:=∀j:Int,0<=j->j<pts r->0<=F j.toNat/\hasB (zw r (F j.toNat).toNat) j=true
def YN(F:Nat->Int)(i:Nat)(x:Int):Nat->Int:=fun j=>if j=i then x else F j
theorem agM{F:Nat->Int}{i:Nat}{x:Int}(h:F i<=x)(k:Nat):F k<=YN F i x k:=by grind[YN]
def sH(r:Rl)(F0 F:Nat->Int)(i k:Int):Prop:=∀j:Int,j<k->bL r i j=true->i≠j->F0 i.toNat+1<=F j.toNat
def z8(r:Rl)(F0 F:Nat->Int)(k:Int):Prop:=∀i:Int,i<k->sH r F0 F i (pts r)
def PK(F0 F:Nat->Int):Prop:=∀k,F0 k<=F k
theorem PK.refl(F:Nat->Int):PK F F:=fun _=>lY _
theorem PK.put{F0 F:Nat->Int}{i:Nat}{x:Int}(h:PK F0 F)(hx:F i<=x):PK F0 (YN F i x):=by grind[PK,YN,agM]
theorem sH.put{r:Rl}{F0 F:Nat->Int}{i k:Int}{j:Nat}{x:Int}(h:sH r F0 F i k)(hx:F j<=x):sH r F0 (YN F j x) i k:=by grind[Rl,sH,YN,agM]
theorem z8.put{r:Rl}{F0 F:Nat->Int}{k:Int}{j:Nat}{x:Int}(h:z8 r F0 F k)(hx:F j<=x):z8 r F0 (YN F j x) k:=fun i hi=>(h i hi).put hx
theorem sH.next{r:Rl}{F0 F:Nat->Int}{i k:Int}(h:sH r F0 F i k)(hk:bL r i k=true->i≠k->F0 i.toNat+1<=F k.toNat):sH r F0 F i (k+1):=by grind[Rl,sH,bL]
theorem sH.none(r:Rl)(F0 F:Nat->Int)(i:Int):sH r F0 F i 0:=fun j h1 h2 _=>by have:=(kI h2).2;omega
theorem z8.none(r:Rl)(F0 F:Nat->Int):z8 r F0 F 0:=fun i hi j _ h2 _=>by have:=(kI h2).1;omega
theorem z8.next{r:Rl}{F0 F:Nat->Int}{i k:Int}(h:z8 r F0 F i)(hk:¬k<pts r)(h2:sH r F0 F i k):z8 r F0 F (i+1):=by grind[Rl,z8,pts,sH]
def aJw(r:Rl)(F:Nat->Int)(k:Int):Prop:=∀(v:Nat) (j:Int),(v:Int)<=k->hasB (zw r v) j=true->(v:Int)<=F j.toNat
def aDl(r:Rl)(i j k:Int):Bool:=(upto k).any fun x=>decide (x≠i)&&decide (x≠j)&&bL r i x&&bL r x j
def aDm(r:Rl)(i j:Int):Bool:=decide (i≠j)&&bL r i j&& !aDl r i j (pts r)
def aDn(r:Rl)(i k:Int):List (Int×Int):=((upto k).filter (aDm r i ·)).map fun y=>(i,y)
theorem xd(k:Int):(upto k).Pairwise (· <·):=by
 rw[upto,HL]
 exact XE.imp fun h=>by omega
def Tidy(r:Rl):Prop:=r.n=pts r/\∀i j:Nat,(r.up i).getLsbD j=true->(i:Int)<pts r/\(j:Int)<pts r
theorem Tidy.plain{r:Rl}(h:Tidy r):eI r=r:=by
 obtain⟨n,u⟩:=r
 have hn:n=pts ⟨n,u⟩:=h.1
 show(⟨pts ⟨n,u⟩,_⟩:Rl)=⟨n,u⟩
 rw[<-hn]
 refine ya fun i=>eG fun j hj=> ?_
 rw[gH]
 by_cases hi:(i:Int)<n
 .rw[aX hi,aa4,cM,eD]
  exact⟨fun h2=>h2.1,fun h2=>⟨h2,J,(h.2 i j h2).2⟩⟩
 rw[aT hi]
 constructor
 .intro h2;simp at h2
 intro h2;exact absurd (by have:=(h.2 i j h2).1;rw[<-hn]at this;exact this) hi
def inQ(n:Int)(q:Int×Int):Bool:=decide (0<=q.1/\0<=q.2/\q.1<pts ⟨n,fun _=>0#64⟩/\q.2<pts ⟨n,fun _=>0#64⟩)
def inR(r:Rl)(q:Int×Int):Bool:=decide (0<=q.1/\0<=q.2/\q.1<pts r/\q.2<pts r)
def aDo(n:Int)(p:Int×Int)(l:List (Int×Int))(k:Int):Bool:=(l.take k.toNat).any fun q=>decide (q=p)&&inQ n q
end Go.Proofs.YtlhjdflgjbkpmaaGreatDoor.M
namespace Go.Proofs.YtlhjdflgjbkpmaaGreatDoor.E
section
open Go Go.RowKit Go.Proofs.YtlhjdflgjbkpmaaGreatDoor.M
section ext
variable{w0 w:World}{L:List bu}{b off:Nat}{c:Array Value}{e:TypeId}{fr:Nat×Nat}{v:Value}{o:Obj}
theorem keep{o:Obj}(hb:Below w0.heap.size w0 w)(h:w0.heap[b]?=some o):w.heap[b]?=some o:=by
 rw[hb.block b (B4.1 h).1];exact h
theorem Hp.ext(h:Hp w0 w L)(hb:w0.heap[b]?=some o):w.heap[b]?=some o:=by
 rw[h.below.block b (B4.1 hb).1];exact hb
theorem Hp.eP(h:Hp w0 w L)(hb:w0.heap[b]?=some (.cells c e fr))(hc:c[off]?=some v):w.cell? ⟨b,off,none⟩=some v:=by
 rw[xS w b off c e fr (h.ext hb)];exact hc
end ext
def aDp(f:Nat->Int):List Value:=(List.range 64).map fun i=>I (f i)
@[irreducible] def aMG(f:Nat->Int):Array Value:=(aDp f).toArray
section runs
variable{P:Program}{σ:Env}{w:World}{dst:Option Tmp}{ty t u:TypeId}{pos:String}{bO:Array Edge}{g:Option (Nat×Bool)}{x y:Operand}{b:Nat}{e:TypeId}{r:Rl}{fr:Nat×Nat}
theorem s3{sz:Nat}(hu:P.underlying t=some (.slice e))(hs:∀w,(sizeOf e).run P w= .ok sz w):
  (execOp (ev σ) ⟨dst,.buildSlice t 0 #[],ty,pos,bO,g⟩).run P w= .ok (.value (.slice (some ⟨w.heap.size,0,none⟩) 0 0)) (w.alloc (.cells #[] e)):=by
 have h:(Instr.buildSlice t 0 #[]).run P w= .ok (.slice (some ⟨w.heap.size,0,none⟩) 0 0) (w.alloc (.cells #[] e)):=by
  simp[Instr.buildSlice,kp hu,hs,Instr.fill,newRow,newObj,Sem.run,show Array.range 0=#[]by decide]
 simp[execOp,h]
def rlL(l:List Rl):List Value:=l.flatMap wJ
theorem Fs{f:FuncId}{cs vs:List Value}{HC:List Operand}{ats:Array TypeId}(hf:∀args w,(callFunc f args).run P w= .ok (.enter f args) w)(hx:ev σ x= .func (.func f) #[] cs.toArray)(h:HC.map (ev σ)=vs):
  (execOp (ev σ) ⟨dst,.call {callee:= .value x,args:=HC.toArray,argTypes:=ats},ty,pos,bO,g⟩).run P w= .ok (.enter f (vs++cs).toArray) w:=by
 have:=PE (P:=P) (w:=w) (dst:=dst) (ty:=ty) (pos:=pos) (bO:=bO) (g:=g) (ats:=ats) hf hx h
 rw[this,List.append_toArray]
theorem Mq{f:FuncId}{cs:List Value}{ats:Array TypeId}(hf:∀args w,(callFunc f args).run P w= .ok (.enter f args) w)(hx:ev σ x= .func (.func f) #[] cs.toArray):
 (execOp (ev σ) ⟨dst,.call {callee:= .value x,args:=#[],argTypes:=ats},ty,pos,bO,g⟩).run P w= .ok (.enter f cs.toArray) w:=Fs (HC:=[]) hf hx O
theorem lC{f:FuncId}{cs:List Value}{v1:Value}{x1:Operand}{ats:Array TypeId}(hf:∀args w,(callFunc f args).run P w= .ok (.enter f args) w)(hx:ev σ x= .func (.func f) #[] cs.toArray)(h1:ev σ x1=v1):
 (execOp (ev σ) ⟨dst,.call {callee:= .value x,args:=#[x1],argTypes:=ats},ty,pos,bO,g⟩).run P w= .ok (.enter f (v1::cs).toArray) w:=Fs (HC:=[x1]) (vs:=[v1]) hf hx (by simp[h1])
theorem jb{f:FuncId}{cs:List Value}{v1 v2:Value}{x1 x2:Operand}{ats:Array TypeId}(hf:∀args w,(callFunc f args).run P w= .ok (.enter f args) w)(hx:ev σ x= .func (.func f) #[] cs.toArray)(h1:ev σ x1=v1)(h2:ev σ x2=v2):
 (execOp (ev σ) ⟨dst,.call {callee:= .value x,args:=#[x1,x2],argTypes:=ats},ty,pos,bO,g⟩).run P w= .ok (.enter f (v1::v2::cs).toArray) w:=Fs (HC:=[x1,x2]) (vs:=[v1,v2]) hf hx (by simp[h1,h2])
end runs
section aws
variable{P:Program}{n:Nat}{l:List Oper}{k:K}{σ:Env}{w w0:World}{L' Xk:List bu}{fuel i d:Nat}{listed:Array Bool}{ty:TypeId}{pos:String}{bO:Array Edge}{g:Option (Nat×Bool)}{x y:Operand}
theorem fT{t e:TypeId}{j:Nat}{ie:TypeInfo}{z:Value}{size bytes:Nat}{v u:Value}{m m':Nat}{xs news:List Value}(hi:l[i]?=some ⟨some d,.call {callee:= .builtin .append,args:=#[x,y],argTypes:=#[t,t]},ty,pos,bO,g⟩)
  (hg:∀a,Is n σ a->Region.wanted ⟨some d,.call {callee:= .builtin .append,args:=#[x,y],argTypes:=#[t,t]},ty,pos,bO,g⟩ (yielded l.toArray a.tmps)=true) (hd:Nat.blt d n=true) (hH:Hp w0 w Xk) (hL:Xk[j]?=some (.row v e size m xs))
  (hs:∀v',L'.Sublist (Xk.set j (.row v' e size (m+m') (xs++news)))) (hS:Sl w u size m' news)
  (hx:ev σ x=v) (hy:ev σ y=u) (ht:P.underlying t=some (.slice e)) (hie:P.info? e=some ie) (hz:ie.zero=some z)
  (hsize:ie.size=size) (hby:ie.bytes=bytes) (hzs:z.cells.size=size) (hsz:0<size) (h1:∀u∈news,u.oneCell'=true)
  (hbytes:(m+m')*bytes<=140737488355328) (h63:m+m'<=maxLen)
  (hk:∀v' w',Hp w0 w' (Xk.set j (.row v' e size (m+m') (xs++news)))->AN P n l (fun w=>Hp w0 w L') k fuel (listed.setIfInBounds i true) (lZ σ d v') w'):AO P n l (fun w=>Hp w0 w L') k fuel listed σ w i:=by
 obtain⟨v',w',hr,h2,h3,h4⟩:=s7 (P:=P) (ty:=ty) ht hie hz hsize hby hzs hsz (hH.get hL) hS h1 h63 hbytes hH.size
 have hH':=hH.yH hL h2 h3 h4
 exact Cs hi hg hd (s0 hx hy hr) (hH'.sub (hs v')) (hk v' w' hH')
end aws
end
end Go.Proofs.YtlhjdflgjbkpmaaGreatDoor.E
namespace Go.Proofs.YtlhjdflgjbkpmaaGreatDoor.M
def vG(P:Int->Bool)(n:Int):Int×Bool:=match(upto n).find? P with
 |some u=>(u,true)
 |none=>(0,false)
theorem adv{n:Int}:∀(k:Nat),(k:Int)<=n->upto n=upto k++((List.range (n.toNat-k)).map fun(i:Nat)=>((k+i:Nat):Int)):=fun k h=>by
 rw[upto,upto,show n.toNat=k+(n.toNat-k)by omega,Yb,gV]
 simp
theorem qx{P:Int->Bool}{n k:Int}(h0:0<=k)(hk:k<n)(hp:P k=true)(hf:∀j:Int,0<=j->j<k->P j=false):vG P n=(k,true):=by
 have h:(upto n).find? P=some k:=by
  rw[adv k.toNat J,List.find?_append]
  have h1:(upto (k.toNat:Int)).find? P=none:=by
   rw[List.find?_eq_none]
   intro x hx
   have:=cK.1 hx
   rw[hf x this.1 J];simp
  rw[h1,show n.toNat-k.toNat=(n.toNat-k.toNat-1)+1 by omega,XF]
  simp only[Option.none_or,lT,LB,gk h0,List.find?_cons,hp]
 rw[vG,h]
theorem th{P:Int->Bool}{n:Int}(hf:∀j:Int,0<=j->j<n->P j=false):vG P n=(0,false):=by grind[upto,cK,vG]
theorem ov(P:Int->Bool)(n:Int):(∃k:Int,0<=k/\k<n/\P k=true/\(∀j:Int,0<=j->j<k->P j=false)/\vG P n=(k,true))\/((∀j:Int,0<=j->j<n->P j=false)/\vG P n=(0,false)):=by
 have key:∀m:Nat,(∃k:Int,0<=k/\k<m/\P k=true/\∀j:Int,0<=j->j<k->P j=false)\/∀j:Int,0<=j->j<m->P j=false:=fun m=>by
  induction m with
  |zero=>exact .inr fun j h1 h2=>by omega
  |succ m ih=>
   rcases ih with⟨k,h1,h2,h3,h4⟩|h
   .exact .inl ⟨k,h1,J,h3,h4⟩
   .cases hm:P m with
    |true=>exact .inl ⟨m,J,J,hm,h⟩
    |false=>
     refine .inr fun j h1 h2=> ?_
     by_cases e:j=m
     .rw[e];exact hm
     exact h j h1 J
 rcases key n.toNat with⟨k,h1,h2,h3,h4⟩|h
 .exact .inl ⟨k,h1,J,h3,h4,qx h1 J h3 h4⟩
 exact .inr ⟨fun j h1 h2=>h j h1 J,th fun j h1 h2=>h j h1 J⟩
def gy(r:Rl)(i:Int):BitVec 64:=upR r (kW [i])
def bQ(r:Rl)(i:Int):BitVec 64:=if Bx r i then Ev r (kW [i])else 0#64
theorem Sp(i j:Int):hasB (kW [i]) j=true↔j=i/\0<=i/\i<64:=by grind[uN,hasB,ic,Uz]
theorem eV(r:Rl)(i j:Int):hasB (gy r i) j=bL r i j:=by
 have hp:=dA r
 rw[gH,k7,gy,agE]
 constructor
 .rintro⟨h1,x,h2,h3⟩
  rw[gk h1.1]at h3
  rw[<-((Sp i x).1 h2).1];exact h3
 intro h
 have hb:=kI h
 refine⟨J,i,(Sp i i).2 ⟨rfl,J⟩,?_⟩
 rw[gk hb.2.1];exact h
theorem agN(r:Rl)(i j:Int):hasB (Ev r (kW [i])) j=bL r j i:=by
 have hp:=dA r
 rw[gH,k7,Mh]
 constructor
 .rintro⟨h1,x,h2,h3⟩
  rw[gk h1.1]at h3
  rw[<-((Sp i x).1 h2).1];exact h3
 intro h
 have hb:=kI h
 refine⟨J,i,(Sp i i).2 ⟨rfl,J⟩,?_⟩
 rw[gk hb.1.1];exact h
theorem dJ(r:Rl)(i j:Int):hasB (bQ r i) j=bL r j i:=by grind[bQ,Bx,agN,vF,Sm]
theorem rq{a b:BitVec 64}(h:∀j:Int,hasB a j=hasB b j):a=b:=eG fun j hj=>by
 have:=h j
 rw[hasB,hasB,zY,gW J]at this
 simpa using this
theorem eU{a b:BitVec 64}:eu a b=true↔∀j:Int,hasB a j=true->hasB b j=true:=by
 rw[Gi]
 constructor
 .intro h j hj
  have:=k7.1 hj
  exact k7.2 ⟨this.1,h _ J this.2⟩
 intro h i hi hb
 have:=k7.1 (h i (amd hb))
 simpa using this.2
def ow(g:Int->BitVec 64)(i j u:Int):Bool:=hasB (g i&&&g j) u&&eu (g i&&&g j) (g u)
def Bc(g:Int->BitVec 64)(n i j:Int):Int×Bool:=vG (ow g i j) n
theorem awu{s:BitVec 64}{a b:Int}(h0:0<=a)(hb:b<(gL s).length)(h:a<b):(gL s).getD a.toNat 0<(gL s).getD b.toNat 0:=by grind[List.pairwise_iff_getElem,qe,List.getElem?_eq_getElem]
theorem abd{s:BitVec 64}{j:Int}(h:hasB s j=true):∃a:Int,0<=a/\a<(gL s).length/\(gL s).getD a.toNat 0=j:=by
 obtain⟨k,hk,he⟩:=uf ((fD _ _).2 h)
 refine⟨k,J,J,?_⟩
 rw[eT,eC,eF hk,he];rfl
theorem agO{g:Int->BitVec 64}{n i j a:Int}(hn:∀u,hasB (g i&&&g j) u=true->u<n)(a0:0<=a)(a1:a<(gL (g i&&&g j)).length)(h:eu (g i&&&g j) (g ((gL (g i&&&g j)).getD a.toNat 0))=true)
  (hf:∀b:Int,0<=b->b<a->eu (g i&&&g j) (g ((gL (g i&&&g j)).getD b.toNat 0))=false):Bc g n i j=((gL (g i&&&g j)).getD a.toNat 0,true):=by
 have h1:=YL a0 a1
 have h2:=PJ a0 a1
 refine qx h2.1 (hn _ h1) (by rw[ow,h1,h];rfl) fun x x0 x1=> ?_
 rw[ow]
 cases hc:hasB (g i&&&g j) x with
 |false=>rfl
 |true=>
  obtain⟨b,b0,b1,hb⟩:=abd hc
  have hba:b<a:=by
   rcases XW b a with h3|h3|h3
   .exact h3
   .subst h3;omega
   have:=awu a0 b1 h3;omega
  rw[<-hb,hf b b0 hba];rfl
theorem amf{g:Int->BitVec 64}{n i j a:Int}(a1:¬a<(gL (g i&&&g j)).length)(hf:∀b:Int,0<=b->b<a->eu (g i&&&g j) (g ((gL (g i&&&g j)).getD b.toNat 0))=false):Bc g n i j=(0,false):=by grind[gL,eu,Bc,th,ow,hasB,abd]
def jj(r:Rl)(i j:Int):Int×Bool:=Bc (gy r) (pts r) i j
def q9(r:Rl)(i j:Int):Int×Bool:=Bc (bQ r) (pts r) i j
theorem agP{r:Rl}{i j u:Int}(h:hasB (gy r i&&&gy r j) u=true):u<pts r:=by
 rw[fy,cM,eV]at h;exact(kI h.1).2.2
theorem adw{r:Rl}{i j u:Int}(h:hasB (bQ r i&&&bQ r j) u=true):u<pts r:=by
 rw[fy,cM,dJ]at h;exact(kI h.1).1.2
def Ew(r:Rl)(i j u v:Int):Bool:=bL r i u&&bL r j u&&(upto v).all fun x=> !(bL r i x&&bL r j x&& !bL r u x)
def Ey(r:Rl)(i j u v:Int):Bool:=bL r u i&&bL r u j&&(upto v).all fun x=> !(bL r x i&&bL r x j&& !bL r x u)
theorem Yk{r:Rl}{i j u v:Int}(h0:0<=v):Ew r i j u (v+1)=(Ew r i j u v&& !(bL r i v&&bL r j v&& !bL r u v)):=by grind[Ew,ja]
theorem Yl{r:Rl}{i j u v:Int}(h0:0<=v):Ey r i j u (v+1)=(Ey r i j u v&& !(bL r v i&&bL r v j&& !bL r v u)):=by grind[Ey,ja]
theorem Iv(r:Rl)(i j u:Int){v:Int}(hv:v=pts r):ow (gy r) i j u=Ew r i j u v:=by
 subst hv
 rw[ow,Ew,fy,eV,eV,gH,cM,cM (_&&_)]
 refine X8 fun _=> ?_
 rw[eU,iR]
 constructor
 .intro h x hx
  have:=h x
  rw[fy,eV,eV,eV,cM]at this
  cases h1:bL r i x with
  |false=>rfl
  |true=>cases h2:bL r j x with
   |false=>rfl
   |true=>rw[this ⟨h1,h2⟩];rfl
 intro h x hx
 rw[fy,eV,eV,cM]at hx
 have h3:=h x (cK.2 (kI hx.1).2)
 rw[hx.1,hx.2]at h3
 rw[eV];simpa using h3
theorem Iw(r:Rl)(i j u:Int){v:Int}(hv:v=pts r):ow (bQ r) i j u=Ey r i j u v:=by
 subst hv
 rw[ow,Ey,fy,dJ,dJ,gH,cM,cM (_&&_)]
 refine X8 fun _=> ?_
 rw[eU,iR]
 constructor
 .intro h x hx
  have:=h x
  rw[fy,dJ,dJ,dJ,cM]at this
  cases h1:bL r x i with
  |false=>rfl
  |true=>cases h2:bL r x j with
   |false=>rfl
   |true=>rw[this ⟨h1,h2⟩];rfl
 intro h x hx
 rw[fy,dJ,dJ,cM]at hx
 have h3:=h x (cK.2 (kI hx.1).1)
 rw[hx.1,hx.2]at h3
 rw[dJ];simpa using h3
theorem UE{r:Rl}{i j u v:Int}(u0:0<=u)(u1:u<pts r)(hv:v=pts r)(h:Ew r i j u v=true)(hf:∀x:Int,0<=x->x<u->ow (gy r) i j x=false):jj r i j=(u,true):=
 qx u0 u1 (by rw[Iv r i j u hv];exact h) hf
theorem amg{r:Rl}{i j u:Int}(u1:¬u<pts r)(hf:∀x:Int,0<=x->x<u->ow (gy r) i j x=false):jj r i j=(0,false):=th fun x h1 h2=>hf x h1 J
theorem UF{r:Rl}{i j u v:Int}(u0:0<=u)(u1:u<pts r)(hv:v=pts r)(h:Ey r i j u v=true)(hf:∀x:Int,0<=x->x<u->ow (bQ r) i j x=false):q9 r i j=(u,true):=
 qx u0 u1 (by rw[Iw r i j u hv];exact h) hf
theorem amh{r:Rl}{i j u:Int}(u1:¬u<pts r)(hf:∀x:Int,0<=x->x<u->ow (bQ r) i j x=false):q9 r i j=(0,false):=th fun x h1 h2=>hf x h1 J
def uE(r:Rl)(i j:Int):Bool:=(jj r i j).2&&(q9 r i j).2
def tj(r:Rl):Bool:=decide (1<=r.n/\r.n<=64)&&gx r&&(upto r.n).all fun i=>(upto i).all fun j=>uE r i j
theorem KL{r:Rl}(h:¬(1<=r.n/\r.n<=64)):tj r=false:=by grind[tj]
theorem abe{r:Rl}(h:gx r=false):tj r=false:=by rw[tj,h];simp
theorem KM{r:Rl}{i j:Int}(i0:i<r.n)(j0:0<=j)(j1:j<i)(h:uE r i j=false):tj r=false:=by
 cases hc:tj r with
 |false=>rfl
 |true=>
  rw[tj,cM,iR]at hc
  have h1:=hc.2 i (cK.2 ⟨J,i0⟩)
  rw[iR]at h1
  rw[h1 j (cK.2 ⟨j0,j1⟩)]at h;cases h
theorem abf{r:Rl}{k:Int}(hn:1<=r.n/\r.n<=64)(ho:gx r=true)(hk:¬k<r.n)(hf:∀i j:Int,0<=j->j<i->i<k->uE r i j=true):tj r=true:=by grind[tj,cK]
def eX(r:Rl)(w:BitVec 64):Int×Bool:=vG (fun i=>decide (bQ r i=w)) (pts r)
theorem DJ{r:Rl}{w:BitVec 64}{k:Int}(h0:0<=k)(hk:k<pts r)(h:bQ r k=w)(hf:∀j:Int,0<=j->j<k->bQ r j≠w):eX r w=(k,true):=by grind[Rl,pts,bQ,eX,qx]
theorem Gn{r:Rl}{w:BitVec 64}{k:Int}(hk:¬k<pts r)(hf:∀j:Int,0<=j->j<k->bQ r j≠w):eX r w=(0,false):=by grind[Rl,pts,bQ,eX,th]
def ju(r:Rl)(a b:BitVec 64):BitVec 64:=if((eX r a).2&&(eX r b).2&&(jj r (eX r a).1 (eX r b).1).2)=true then bQ r (jj r (eX r a).1 (eX r b).1).1 else a|||b
theorem Ix{r:Rl}{a b:BitVec 64}(h1:(eX r a).2=true)(h2:(eX r b).2=true)(h3:(jj r (eX r a).1 (eX r b).1).2=true):ju r a b=bQ r (jj r (eX r a).1 (eX r b).1).1:=by grind[ju]
theorem Iy{r:Rl}{a b:BitVec 64}(h1:(eX r a).2=false):ju r a b=a|||b:=by rw[ju,h1];rfl
theorem Iz{r:Rl}{a b:BitVec 64}(h1:(eX r b).2=false):ju r a b=a|||b:=by rw[ju,h1];simp
theorem PL{r:Rl}{a b:BitVec 64}(h1:(jj r (eX r a).1 (eX r b).1).2=false):ju r a b=a|||b:=by rw[ju,h1];simp
def wK(r:Rl)(g:Int->BitVec 64):Int×Bool:=vG (fun i=>decide (g i=below (pts r))) (pts r)
theorem abg{r:Rl}{g:Int->BitVec 64}{k:Int}(h0:0<=k)(hk:k<pts r)(h:g k=below (pts r))(hf:∀j:Int,0<=j->j<k->g j≠below (pts r)):wK r g=(k,true):=by grind[Rl,pts,below,wK,qx]
theorem agQ{r:Rl}{g:Int->BitVec 64}{k:Int}(hk:¬k<pts r)(hf:∀j:Int,0<=j->j<k->g j≠below (pts r)):wK r g=(0,false):=by grind[Rl,pts,below,wK,th]
def ru(r:Rl)(i k:Int):List Int:=(upto k).filter (bL r · i)
theorem adx{r:Rl}{i k:Int}(h0:0<=k)(h:bL r k i=true):ru r i k++[k]=ru r i (k+1):=by grind[ru,ja]
theorem agR{r:Rl}{i k:Int}(h0:0<=k)(h:bL r k i=false):ru r i k=ru r i (k+1):=by grind[ru,ja]
theorem PM{r:Rl}{i k:Int}:(ru r i k).length<=k.toNat:=by grind[ru,m7]
theorem Mr(l:List Int)(j:Int):hasB (kW l) j=true↔(0<=j/\j<64)/\j∈l:=by grind[k7,ic]
theorem ady{r:Rl}{i k:Int}(hk:k=pts r):kW (ru r i k)=bQ r i:=rq fun j=>by
 subst hk
 have hp:=dA r
 rw[gH,Mr,dJ,ru,xP,cK]
 constructor
 .exact fun h=>h.2.2
 intro h
 have:=(kI h).1
 exact⟨J,this,h⟩
def Ft(r:Rl)(t:Bool)(i k:Int):Bool:=(upto k).all fun x=>if t then bL r x i else bL r i x
theorem ac2{r:Rl}{t:Bool}{i k:Int}(h0:0<=k):Ft r t i (k+1)=(Ft r t i k&&if t then bL r k i else bL r i k):=by grind[Ft,ja]
theorem Aa{r:Rl}{i k:Int}(hk:k=pts r):Ft r false i k=true↔gy r i=below (pts r):=by
 subst hk
 rw[Ft,iR]
 constructor
 .intro h
  refine rq fun j=> ?_
  rw[gH,eV,l6]
  constructor
  .intro h1;have:=kI h1;have:=dA r;omega
  intro h1;simpa using h j (cK.2 J)
 intro h x hx
 have h1:=cK.1 hx
 have hp:=dA r
 have h2:hasB (gy r i) x=true:=by rw[h,l6];omega
 rw[eV]at h2;simpa using h2
theorem Ms{r:Rl}{i k:Int}(hk:k=pts r):Ft r true i k=true↔bQ r i=below (pts r):=by
 subst hk
 rw[Ft,iR]
 constructor
 .intro h
  refine rq fun j=> ?_
  rw[gH,dJ,l6]
  constructor
  .intro h1;have:=kI h1;have:=dA r;omega
  intro h1;simpa using h j (cK.2 J)
 intro h x hx
 have h1:=cK.1 hx
 have hp:=dA r
 have h2:hasB (bQ r i) x=true:=by rw[h,l6];omega
 rw[dJ]at h2;simpa using h2
theorem agS{r:Rl}{t:Bool}{i k:Int}(i0:0<=i)(i1:i<pts r)(hk:k=pts r)(h:Ft r t i k=true)(hg:∀x:Int,0<=x->x<i->Ft r t x (pts r)=false):wK r (if t=true then bQ r else gy r)=(i,true):=by grind[abg,Ms,Aa]
theorem agT{r:Rl}{t:Bool}{i:Int}(i1:¬i<pts r)(hg:∀x:Int,0<=x->x<i->Ft r t x (pts r)=false):wK r (if t=true then bQ r else gy r)=(0,false):=by grind[agQ,Ms,Aa]
def aMH:Rl:=⟨5,fun i=>[31#64,18#64,20#64,24#64,16#64].getD i 0#64⟩
theorem PN(g:Int->BitVec 64)(n i j:Int):Bc g n i j=Bc g n j i:=by
 rw[Bc,Bc]
 congr 1
 funext u
 rw[ow,ow,BitVec.and_comm]
theorem join_comm(r:Rl)(i j:Int):jj r i j=jj r j i:=PN _ _ _ _
theorem meet_comm(r:Rl)(i j:Int):q9 r i j=q9 r j i:=PN _ _ _ _
theorem jv{r:Rl}(h:tj r=true):(1<=r.n/\r.n<=64)/\gx r=true/\pts r=r.n/\∀i j:Int,0<=j->j<i->i<r.n->uE r i j=true:=by
 rw[tj,cM,cM,eD,iR]at h
 refine⟨h.1.1,h.1.2,by unfold pts;omega,fun i j h1 h2 h3=> ?_⟩
 have h4:=h.2 i (cK.2 ⟨J,h3⟩)
 rw[iR]at h4
 exact h4 j (cK.2 ⟨h1,h2⟩)
structure IsJ(r:Rl)(i j k:Int):Prop where
 a:bL r i k=true
 b:bL r j k=true
 l:∀v:Int,bL r i v=true->bL r j v=true->bL r k v=true
structure IsM(r:Rl)(i j k:Int):Prop where
 a:bL r k i=true
 b:bL r k j=true
 g:∀v:Int,bL r v i=true->bL r v j=true->bL r v k=true
theorem UG{r:Rl}{i j k:Int}:ow (gy r) i j k=true↔IsJ r i j k:=by
 rw[ow,fy,eV,eV,cM,cM,eU]
 constructor
 .rintro⟨⟨h1,h2⟩,h3⟩
  refine⟨h1,h2,fun v h4 h5=> ?_⟩
  have:=h3 v
  rw[fy,eV,eV,eV,cM]at this
  exact this ⟨h4,h5⟩
 rintro⟨h1,h2,h3⟩
 refine⟨⟨h1,h2⟩,fun v hv=> ?_⟩
 rw[fy,eV,eV,cM]at hv
 rw[eV];exact h3 v hv.1 hv.2
theorem UH{r:Rl}{i j k:Int}:ow (bQ r) i j k=true↔IsM r i j k:=by
 rw[ow,fy,dJ,dJ,cM,cM,eU]
 constructor
 .rintro⟨⟨h1,h2⟩,h3⟩
  refine⟨h1,h2,fun v h4 h5=> ?_⟩
  have:=h3 v
  rw[fy,dJ,dJ,dJ,cM]at this
  exact this ⟨h4,h5⟩
 rintro⟨h1,h2,h3⟩
 refine⟨⟨h1,h2⟩,fun v hv=> ?_⟩
 rw[fy,dJ,dJ,cM]at hv
 rw[dJ];exact h3 v hv.1 hv.2
theorem yK{r:Rl}(h:gx r=true){i:Int}(hi:0<=i/\i<pts r):bL r i i=true:=by grind[sG,vE,yJ]
theorem KO{r:Rl}(h:tj r=true){i j:Int}(hi:0<=i/\i<r.n)(hj:0<=j/\j<r.n):(jj r i j).2=true/\IsJ r i j (jj r i j).1:=by
 obtain⟨hn,ho,hp,hb⟩:=jv h
 rcases ov (ow (gy r) i j) (pts r)with⟨k,k0,k1,k2,-,k3⟩|⟨h1,h2⟩
 .have h3:jj r i j=(k,true):=k3
  rw[h3];exact⟨rfl,UG.1 k2⟩
 have h3:jj r i j=(0,false):=h2
 exfalso
 rcases XW i j with hl|hl|hl
 .have:=hb j i hi.1 hl hj.2
  rw[uE,cM,join_comm,h3]at this;cases this.1
 .subst hl
  have h4:=h1 i hi.1 J
  have h5:=yK ho (show 0<=i/\i<pts r by omega)
  rw[UG.2 ⟨h5,h5,fun v hv _=>hv⟩]at h4;cases h4
 have:=hb i j hj.1 hl hi.2
 rw[uE,cM,h3]at this;cases this.1
theorem KP{r:Rl}(h:tj r=true){i j:Int}(hi:0<=i/\i<r.n)(hj:0<=j/\j<r.n):(q9 r i j).2=true/\IsM r i j (q9 r i j).1:=by
 obtain⟨hn,ho,hp,hb⟩:=jv h
 rcases ov (ow (bQ r) i j) (pts r)with⟨k,k0,k1,k2,-,k3⟩|⟨h1,h2⟩
 .have h3:q9 r i j=(k,true):=k3
  rw[h3];exact⟨rfl,UH.1 k2⟩
 have h3:q9 r i j=(0,false):=h2
 exfalso
 rcases XW i j with hl|hl|hl
 .have:=hb j i hi.1 hl hj.2
  rw[uE,cM,meet_comm,h3]at this;cases this.2
 .subst hl
  have h4:=h1 i hi.1 J
  have h5:=yK ho (show 0<=i/\i<pts r by omega)
  rw[UH.2 ⟨h5,h5,fun v hv _=>hv⟩]at h4;cases h4
 have:=hb i j hj.1 hl hi.2
 rw[uE,cM,h3]at this;cases this.2
section aDq
variable{r:Rl}(h:tj r=true){a b c:Int}(ha:0<=a/\a<r.n)(hb:0<=b/\b<r.n)(hc:0<=c/\c<r.n)
include h ha hb
theorem abh:0<=(jj r a b).1/\(jj r a b).1<r.n:=by
 have:=(kI (KO h ha hb).2.a).2
 rw[(jv h).2.2.1]at this;exact this
theorem apb:0<=(q9 r a b).1/\(q9 r a b).1<r.n:=by
 have:=(kI (KP h ha hb).2.a).1
 rw[(jv h).2.2.1]at this;exact this
theorem adz:bQ r (q9 r a b).1=bQ r a&&&bQ r b:=rq fun j=>by
 have ho:=(jv h).2.1
 have hm:=(KP h ha hb).2
 rw[fy,dJ,dJ,dJ,gH,cM]
 exact⟨fun h1=>⟨tg ho h1 hm.a,tg ho h1 hm.b⟩,fun h1=>hm.g j h1.1 h1.2⟩
include hc
end aDq
theorem ami{r:Rl}(h:tj r=true){a b:Int}(ha:0<=a/\a<r.n)(hb:0<=b/\b<r.n):(bL r a b==eu (bQ r a) (bQ r b))=true:=by
 have ho:=(jv h).2.1
 rw[Cd,gH,eU]
 constructor
 .intro h1 j hj
  rw[dJ]at hj⊢;exact tg ho hj h1
 intro h1
 have:=h1 a
 rw[dJ,dJ]at this
 exact this (yK ho (by rw[(jv h).2.2.1];exact ha))
theorem amj{r:Rl}(h:tj r=true):∃m:Int,(0<=m/\m<r.n)/\∀x:Int,0<=x->x<r.n->bL r m x=true:=by
 have hs:=jv h
 have key:∀k:Nat,(k:Int)<r.n->∃m:Int,(0<=m/\m<r.n)/\∀x:Int,0<=x->x<=k->bL r m x=true:=fun k=>by
  induction k with
  |zero=>exact fun hk=>⟨0,J,fun x h1 h2=>by rw[show x=0 by omega];exact yK hs.2.1 J⟩
  |succ k ih=>
   intro hk
   obtain⟨m,h1,h2⟩:=ih J
   have hm:=(KP h h1 (show 0<=((k+1:Nat):Int)/\((k+1:Nat):Int)<r.n by omega)).2
   refine⟨_,apb h h1 (show 0<=((k+1:Nat):Int)/\((k+1:Nat):Int)<r.n by omega),fun x h3 h4=> ?_⟩
   by_cases he:x=((k+1:Nat):Int)
   .rw[he];exact hm.b
   exact tg hs.2.1 hm.a (h2 x h3 J)
 obtain⟨m,h1,h2⟩:=key (r.n-1).toNat J
 exact⟨m,h1,fun x h3 h4=>h2 x h3 J⟩
theorem amk{r:Rl}(h:tj r=true):(wK r (gy r)).2=true/\(0<=(wK r (gy r)).1/\(wK r (gy r)).1<r.n)/\∀x:Int,0<=x->x<r.n->bL r (wK r (gy r)).1 x=true:=by
 have hs:=jv h
 rcases ov (fun i=>decide (gy r i=below (pts r))) (pts r)with⟨k,k0,k1,k2,-,k3⟩|⟨h1,-⟩
 .have h3:wK r (gy r)=(k,true):=k3
  rw[h3]
  refine⟨rfl,by rw[hs.2.2.1]at k1;exact⟨k0,k1⟩,fun x h4 h5=> ?_⟩
  have:=(Aa (r:=r) (i:=k) O).2 (Lr k2)
  rw[Ft,iR]at this
  simpa using this x (cK.2 J)
 obtain⟨m,hm,hx⟩:=amj h
 have h4:=h1 m hm.1 J
 rw[wW]at h4
 exact absurd ((Aa (r:=r) (i:=m) O).1 (by
  rw[Ft,iR]
  intro x hx2
  have:=cK.1 hx2
  simpa using hx x this.1 J)) h4
theorem word_inj{r:Rl}(ho:gx r=true){a b:Int}(ha:0<=a/\a<pts r)(hb:0<=b/\b<pts r)(e:bQ r a=bQ r b):a=b:=by
 have h1:hasB (bQ r b) a=true:=by rw[<-e,dJ];exact yK ho ha
 have h2:hasB (bQ r a) b=true:=by rw[e,dJ];exact yK ho hb
 rw[dJ]at h1 h2
 exact(vE ho).2 _ _ h1 h2
theorem vH{r:Rl}(ho:gx r=true){a:Int}(ha:0<=a/\a<pts r):eX r (bQ r a)=(a,true):=by grind[DJ,word_inj]
theorem adA{r:Rl}(h:tj r=true){a b:Int}(ha:0<=a/\a<r.n)(hb:0<=b/\b<r.n):ju r (bQ r a) (bQ r b)=bQ r (jj r a b).1:=by grind[Rl,tj,ju,bQ,jj,jv,vH,pts,Ix,KO]
def cV(r:Rl):Bool:=decide (1<=r.n/\r.n<=8)&&decide ((eI r).eq (js r))
theorem eY{r:Rl}(h:cV r=true):(1<=r.n/\r.n<=8)/\pts r=r.n/\(eI r).eq (js r):=by grind[cV,pts]
theorem IA{r:Rl}(h:cV r=true){i:Int}(hi:0<=i/\i<r.n):bL r i i=true:=by simp_all[eY,sG,yJ]
theorem KQ{r:Rl}(h:cV r=true){i j k:Int}(h1:bL r i j=true)(h2:bL r j k=true):bL r i k=true:=by grind[Rl,cV,bL,eY,sG,nn]
theorem Bz{r:Rl}(h:cV r=true){i j:Int}(h1:bL r i j=true):(0<=i/\i<r.n)/\(0<=j/\j<r.n):=by
 have:=kI h1
 rw[(eY h).2.1]at this;exact this
theorem PO(r:Rl)(s:BitVec 64)(j:Int):hasB (Ev r s) j=true↔∃i:Int,hasB s i=true/\bL r j i=true:=by
 have hp:=dA r
 rw[k7,Mh]
 constructor
 .rintro⟨h1,i,h2,h3⟩;rw[gk h1.1]at h3;exact⟨i,h2,h3⟩
 rintro⟨i,h2,h3⟩
 have hb:=kI h3
 exact⟨J,i,h2,by rw[gk hb.1.1];exact h3⟩
def JC(r:Rl)(w:BitVec 64)(o:Int):BitVec 64:=(w>>>(BitVec.ofInt 64 (8*o)).toNat)&&&below r.n
theorem UI{r:Rl}{w:BitVec 64}{o:Int}(ho:0<=o/\o<8)(hn:r.n<=8)(x:Int):hasB (JC r w o) x=true↔(0<=x/\x<r.n)/\hasB w (8*o+x)=true:=by grind[JC,fy,l6,k7,ot]
def xe(f:Int->BitVec 64)(k:Int):BitVec 64:=(upto k).foldl (fun a o=>a|||(f o<<<(BitVec.ofInt 64 (8*o)).toNat)) 0#64
theorem IB{f:Int->BitVec 64}{k:Int}(h0:0<=k):xe f k|||(f k<<<(BitVec.ofInt 64 (8*k)).toNat)=xe f (k+1):=by grind[xe,ja]
theorem aml{a:BitVec 64}{o:Int}(ho:0<=o/\o<8)(z:Int):hasB (a<<<(BitVec.ofInt 64 (8*o)).toNat) z=true↔(0<=z/\z<64)/\hasB a (z-8*o)=true:=by grind[k7,ot]
theorem UJ{f:Int->BitVec 64}(z:Int):∀k:Nat,k<=8->(hasB (xe f k) z=true↔∃o:Int,(0<=o/\o<k)/\(0<=z/\z<64)/\hasB (f o) (z-8*o)=true)
 |0,_=>by
  rw[show xe f ((0:Nat):Int)=0#64 from O,vF]
  constructor
  .intro h;cases h
  rintro⟨o,h,-⟩;omega
 |k+1,hk=>by
  have e:xe f ((k+1:Nat):Int)=xe f (k:Int)|||(f k<<<(BitVec.ofInt 64 (8*(k:Int))).toNat):=(IB (k:=(k:Int)) J).symm
  rw[e,KI,qa,UJ z k J,aml J]
  constructor
  .rintro(⟨o,h1,h2⟩|⟨h1,h2⟩)
   .exact⟨o,J,h2⟩
   exact⟨k,J,h1,h2⟩
  rintro⟨o,h1,h2,h3⟩
  by_cases he:o=k
  .subst he;exact .inr ⟨h2,h3⟩
  exact .inl ⟨o,J,h2,h3⟩
theorem UK{f:Int->BitVec 64}{n:Int}(hn:0<=n/\n<=8)(hf:∀o y:Int,0<=o->o<n->hasB (f o) y=true->y<8)(z:Int):hasB (xe f n) z=true↔∃o y:Int,(0<=o/\o<n)/\hasB (f o) y=true/\z=8*o+y:=by
 have h:=UJ (f:=f) z n.toNat J
 rw[gk hn.1]at h
 rw[h]
 constructor
 .rintro⟨o,h1,h2,h3⟩;exact⟨o,z-8*o,h1,h3,J⟩
 rintro⟨o,y,h1,h2,h3⟩
 have:=uN h2
 have:=hf o y h1.1 h1.2 h2
 exact⟨o,h1,J,by rw[show z-8*o=y by omega];exact h2⟩
def IC(r:Rl)(w:BitVec 64)(o:Int):BitVec 64:=wZ (fun p=>Ev r (JC r w p)) (gL (gy r o))
def gh(r:Rl)(w:BitVec 64):BitVec 64:=if cV r then xe (IC r w) r.n else 0#64
theorem Fu{r:Rl}(h:cV r=true)(w:BitVec 64)(o x:Int):hasB (IC r w o) x=true↔∃p y:Int,bL r o p=true/\bL r x y=true/\hasB w (8*p+y)=true:=by
 have hs:=eY h
 rw[IC,Mo]
 constructor
 .rintro⟨p,hp,h1⟩
  rw[fD,eV]at hp
  have hb:=Bz h hp
  rw[PO]at h1
  obtain⟨y,h2,h3⟩:=h1
  rw[UI J hs.1.2]at h2
  exact⟨p,y,hp,h3,h2.2⟩
 rintro⟨p,y,h1,h2,h3⟩
 have hb:=Bz h h1
 refine⟨p,by rw[fD,eV];exact h1,?_⟩
 rw[PO]
 exact⟨y,(UI J hs.1.2 y).2 ⟨(Bz h h2).2,h3⟩,h2⟩
theorem jI{r:Rl}(h:cV r=true)(w:BitVec 64)(z:Int):hasB (gh r w) z=true↔∃o x p y:Int,z=8*o+x/\bL r o p=true/\bL r x y=true/\hasB w (8*p+y)=true:=by
 have hs:=eY h
 rw[gh,aX h,UK J (fun o y _ _ hy=>by
  obtain⟨p,q,-,h2,-⟩:=(Fu h w o y).1 hy
  have:=Bz h h2;omega)]
 constructor
 .rintro⟨o,x,h1,h2,h3⟩
  obtain⟨p,y,h4⟩:=(Fu h w o x).1 h2
  exact⟨o,x,p,y,h3,h4⟩
 rintro⟨o,x,p,y,h3,h4⟩
 exact⟨o,x,(Bz h h4.1).1,(Fu h w o x).2 ⟨p,y,h4⟩,h3⟩
theorem UL{r:Rl}{w:BitVec 64}(h:cV r=false):gh r w=0#64:=by rw[gh,h];rfl
theorem adB{r:Rl}{w:BitVec 64}(h:cV r=true):xe (IC r w) r.n=gh r w:=by rw[gh,h];rfl
def Gp(r:Rl)(w:BitVec 64)(o x:Int):Bool:=decide (0<=o/\0<=x/\o<r.n/\x<r.n)&&hasB w (8*o+x)
theorem DK{r:Rl}{w:BitVec 64}{o x:Int}:Gp r w o x=true↔(0<=o/\0<=x/\o<r.n/\x<r.n)/\hasB w (8*o+x)=true:=by grind[Gp]
def Sq(r:Rl)(w:BitVec 64)(o x:Int):Bool:=(upto r.n).any fun p=>(upto r.n).any fun y=>Gp r w p y&&bL r o p&&bL r x y
theorem KR{r:Rl}{w:BitVec 64}{o x:Int}:Sq r w o x=true↔∃p y:Int,Gp r w p y=true/\bL r o p=true/\bL r x y=true:=by
 rw[Sq,E4]
 constructor
 .rintro⟨p,-,h⟩
  rw[E4]at h
  obtain⟨y,-,h⟩:=h
  rw[cM,cM]at h
  exact⟨p,y,h.1.1,h.1.2,h.2⟩
 rintro⟨p,y,h1,h2,h3⟩
 have hb:=(DK.1 h1).1
 refine⟨p,cK.2 J,?_⟩
 rw[E4]
 exact⟨y,cK.2 J,by rw[h1,h2,h3];rfl⟩
theorem agU{r:Rl}{w:BitVec 64}{o x k:Int}(hk:¬k<r.n)(hf:∀p y:Int,0<=p->p<k->¬(Gp r w p y=true/\bL r o p=true/\bL r x y=true)):Sq r w o x=false:=by grind[Sq,KR,DK]
def Fv(r:Rl)(w:BitVec 64)(o k:Int):List Int:=((upto k).filter (Sq r w o ·)).map (8*o+·)
def Cx(r:Rl)(w:BitVec 64)(k:Int):List Int:=(upto k).flatMap fun o=>Fv r w o r.n
theorem agV{r:Rl}{w:BitVec 64}{o k:Int}(h0:0<=k)(h:Sq r w o k=true):Fv r w o k++[8*o+k]=Fv r w o (k+1):=by grind[Fv,ja]
theorem amm{r:Rl}{w:BitVec 64}{o k:Int}(h0:0<=k)(h:Sq r w o k=false):Fv r w o k=Fv r w o (k+1):=by grind[Fv,ja]
theorem UM{r:Rl}{w:BitVec 64}{k x:Int}(h0:0<=k)(hx:x=r.n):Cx r w k++Fv r w k x=Cx r w (k+1):=by grind[Cx,ja]
theorem Mt{r:Rl}{w:BitVec 64}{o k:Int}:(Fv r w o k).length<=k.toNat:=by grind[Fv,m7]
theorem Sr{f:Int->List Int}{m:Nat}(h:∀o,(f o).length<=m):∀l:List Int,(l.flatMap f).length<=l.length*m
 |[]=>by simp
 |o::l=>by
  have:=Sr h l
  have:=h o
  rw[uC,ec,fw,lz];omega
theorem Mu{r:Rl}{w:BitVec 64}{k:Int}(hn:r.n<=8)(hk:k<=8):(Cx r w k).length<=64:=by
 have h:=Sr (f:=fun o=>Fv r w o r.n) (m:=8) (fun o=>kL Mt J) (upto k)
 rw[m7]at h
 have:k.toNat*8<=64:=J
 exact kL h this
theorem UN{r:Rl}{w:BitVec 64}{o k z:Int}:z∈Fv r w o k↔∃x:Int,(0<=x/\x<k)/\Sq r w o x=true/\z=8*o+x:=by
 rw[Fv,fZ]
 constructor
 .rintro⟨x,hx,rfl⟩
  rw[xP,cK]at hx
  exact⟨x,hx.1,hx.2,rfl⟩
 rintro⟨x,h1,h2,rfl⟩
 exact⟨x,xP.2 ⟨cK.2 h1,h2⟩,rfl⟩
theorem adC{r:Rl}{w:BitVec 64}{k:Int}(h:cV r=true)(hk:k=r.n):kW (Cx r w k)=gh r w:=rq fun z=>by
 subst hk
 have hs:=eY h
 rw[gH,Mr,jI h,Cx,List.mem_flatMap]
 constructor
 .rintro⟨h1,o,ho,hz⟩
  rw[UN]at hz
  obtain⟨x,hx,hf,rfl⟩:=hz
  obtain⟨p,y,h2,h3,h4⟩:=KR.1 hf
  exact⟨o,x,p,y,rfl,h3,h4,(DK.1 h2).2⟩
 rintro⟨o,x,p,y,rfl,h2,h3,h4⟩
 have b1:=Bz h h2;have b2:=Bz h h3
 refine⟨J,o,cK.2 b1.1,?_⟩
 rw[UN]
 exact⟨x,b2.1,KR.2 ⟨p,y,DK.2 ⟨J,h4⟩,h2,h3⟩,rfl⟩
def p6(r:Rl)(w:BitVec 64):Bool:=cV r&&decide (gh r w=w)
def aJz(r:Rl)(s:BitVec 64)(x k:Int):Bool:=(upto k).any fun y=>hasB s y&&bL r y x
def aJA(r:Rl)(s:BitVec 64)(o k:Int):List Int:=((upto k).filter fun x=> !hasB (upR r s) x).map (8*o+·)
def aDr(o:Int)(s:BitVec 64):Int->BitVec 64:=fun x=>if x=o then s else 0#64
def apc(r:Rl)(o:Int):Bool:=cV r&&decide (0<=o/\o<r.n)
def awv(r:Rl)(o:Int)(s:BitVec 64):BitVec 64:=if apc r o then gh r (xe (aDr o (below r.n&&& ~~~upR r s)) r.n)else 0#64
def agW(r:Rl)(w:BitVec 64)(o:Int):BitVec 64:=if apc r o then below r.n&&& ~~~JC r w o else 0#64
def aJB(r:Rl)(w:BitVec 64)(o k:Int):List Int:=(upto k).filter fun x=> !Gp r w o x
def aDs(r:Rl)(w:BitVec 64)(k:Int):List Int:=(upto k).filter fun o=>decide (JC r w o≠0#64)
def Ss(r:Rl)(w:BitVec 64):BitVec 64:=if cV r then kW (aDs r w r.n)else 0#64
def J5(r:Rl):BitVec 64:=if cV r then xe (fun _=>below r.n) r.n else 0#64
theorem arB{r:Rl}(h:cV r=false):J5 r=0#64:=by rw[J5,h];rfl
theorem St{r:Rl}(h:cV r=true)(z:Int):hasB (J5 r) z=true↔∃o x:Int,(0<=o/\o<r.n)/\(0<=x/\x<r.n)/\z=8*o+x:=by
 have hs:=eY h
 rw[J5,aX h,UK J fun o y _ _ hy=>by rw[l6]at hy;omega]
 constructor
 .rintro⟨o,x,h1,h2,h3⟩
  rw[l6]at h2
  exact⟨o,x,h1,J,h3⟩
 rintro⟨o,x,h1,h2,h3⟩
 exact⟨o,x,h1,(l6 _ _).2 J,h3⟩
def UO(r:Rl)(k:Int):List Int:=(upto k).flatMap fun o=>(upto r.n).map (8*o+·)
theorem adD{r:Rl}{k x:Int}(h0:0<=k)(hx:x=r.n):UO r k++(upto x).map (8*k+·)=UO r (k+1):=by grind[UO,ja]
theorem adE{o x:Int}(h0:0<=x):(upto x).map (8*o+·)++[8*o+x]=(upto (x+1)).map (8*o+·):=by grind[ja]
theorem UP{r:Rl}{k:Int}(hn:r.n<=8)(hk:k<=8):(UO r k).length<=64:=by
 have h:=Sr (f:=fun o=>(upto r.n).map (8*o+·)) (m:=8) (fun o=>by rw[gF,m7];omega) (upto k)
 rw[m7]at h
 have:k.toNat*8<=64:=J
 exact kL h this
theorem amn{r:Rl}{k:Int}(h:cV r=true)(hk:k=r.n):kW (UO r k)=J5 r:=rq fun z=>by
 subst hk
 have hs:=eY h
 rw[gH,Mr,St h,UO,List.mem_flatMap]
 constructor
 .rintro⟨h1,o,ho,hz⟩
  rw[fZ]at hz
  obtain⟨x,hx,rfl⟩:=hz
  exact⟨o,x,cK.1 ho,cK.1 hx,rfl⟩
 rintro⟨o,x,h1,h2,rfl⟩
 exact⟨J,o,cK.2 h1,fZ.2 ⟨x,cK.2 h2,rfl⟩⟩
def KS(r:Rl):Int:=if cV r then Bb r (pts r)*Bb r (pts r)else 0
theorem Mv{r:Rl}(h:cV r=true):Bb r (pts r)*Bb r (pts r)=KS r:=by rw[KS,h];rfl
theorem agX{r:Rl}(h:cV r=true)(v:BitVec 64):eu (v&&&J5 r) (gh r v)=true:=eU.2 fun z hz=>by
 rw[fy,cM,St h]at hz
 obtain⟨h1,o,x,h2,h3,rfl⟩:=hz
 exact(jI h v _).2 ⟨o,x,o,x,rfl,IA h h2,IA h h3,h1⟩
theorem YO{r:Rl}(h:cV r=true)(v:BitVec 64):eu (gh r v) (J5 r)=true:=eU.2 fun z hz=>by
 obtain⟨o,x,p,y,rfl,h1,h2,-⟩:=(jI h v z).1 hz
 exact(St h _).2 ⟨o,x,(Bz h h1).1,(Bz h h2).1,rfl⟩
theorem aDt{o x p y:Int}(hx:0<=x/\x<8)(hy:0<=y/\y<8)(h:8*o+x=8*p+y):o=p/\x=y:=J
theorem Su{r:Rl}(h:cV r=true)(v:BitVec 64):gh r (gh r v)=gh r v:=rq fun z=>by
 have hs:=eY h
 rw[gH,jI h,jI h]
 constructor
 .rintro⟨o,x,p,y,rfl,h1,h2,h3⟩
  obtain⟨p',y',q,t,e,h4,h5,h6⟩:=(jI h v _).1 h3
  have b1:=Bz h h1;have b2:=Bz h h2;have b3:=Bz h h4;have b4:=Bz h h5
  obtain⟨rfl,rfl⟩:=aDt J J e
  exact⟨o,x,q,t,rfl,KQ h h1 h4,KQ h h2 h5,h6⟩
 rintro⟨o,x,p,y,rfl,h1,h2,h3⟩
 have b1:=Bz h h1;have b2:=Bz h h2
 exact⟨o,x,o,x,rfl,IA h b1.1,IA h b2.1,(jI h v _).2 ⟨o,x,p,y,rfl,h1,h2,h3⟩⟩
theorem Mw{r:Rl}(h:cV r=true){v w:BitVec 64}(hv:eu v w=true):eu (gh r v) (gh r w)=true:=by grind[eU,jI]
theorem ID{r:Rl}(h:cV r=true){w:BitVec 64}(e:gh r w=w):p6 r w=true:=by grind[p6]
theorem aww{r:Rl}(h:cV r=true)(v w:BitVec 64):p6 r (gh r v|||gh r w)=true:=ID h (rq fun z=>by
 rw[gH]
 constructor
 .intro hz
  obtain⟨o,x,p,y,e,h1,h2,h3⟩:=(jI h _ z).1 hz
  rw[KI,qa]at h3⊢
  rcases h3 with h3|h3
  .left;rw[<-Su h v];exact(jI h _ z).2 ⟨o,x,p,y,e,h1,h2,h3⟩
  right;rw[<-Su h w];exact(jI h _ z).2 ⟨o,x,p,y,e,h1,h2,h3⟩
 intro hz
 have h1:hasB (J5 r) z=true:=by
  rw[KI,qa]at hz
  rcases hz with hz|hz
  .exact eU.1 (YO h v) z hz
  exact eU.1 (YO h w) z hz
 exact eU.1 (agX h _) z (by rw[fy,hz,h1];rfl))
theorem arC{r:Rl}(h:cV r=true)(v w:BitVec 64):p6 r (gh r v&&&gh r w)=true:=ID h (rq fun z=>by
 rw[gH]
 constructor
 .intro hz
  have h1:=eU.1 (Mw h (Gk (gh r v) (gh r w))) z hz
  have h2:=eU.1 (Mw h (v:=gh r v&&&gh r w) (w:=gh r w) (by rw[BitVec.and_comm];exact Gk _ _)) z hz
  rw[Su h]at h1 h2
  rw[fy,h1,h2];rfl
 intro hz
 have h1:hasB (J5 r) z=true:=by
  have hz2:=hz
  rw[fy,cM]at hz2
  exact eU.1 (YO h v) z hz2.1
 exact eU.1 (agX h _) z (by rw[fy (gh r v&&&gh r w),hz,h1];rfl))
def aDu(r:Rl)(i:Int):BitVec 64:=gh r (kW [i])
def Mx(r:Rl)(p:Int):Bool:=decide (0<=p/\p<r.n)&&UB (js r) p p
theorem My{r:Rl}(h:cV r=true)(p:Int):Mx r p=true↔(0<=p/\p<r.n)/\∀x:Int,0<=x->x<p->¬(bL r p x=true/\bL r x p=true):=by grind[Rl,cV,Mx,bL,eY,UB,cK,sG]
theorem YP{r:Rl}(h:cV r=true):∀(n:Nat) (p:Int),p<=n->0<=p->p<r.n->∃q:Int,q<=p/\Mx r q=true/\bL r p q=true/\bL r q p=true
 |n,p,hn,h0,h1=>by
  cases hc:Mx r p with
  |true=>exact⟨p,lY _,hc,IA h ⟨h0,h1⟩,IA h ⟨h0,h1⟩⟩
  |false=>
   have hex:∃x:Int,0<=x/\x<p/\bL r p x=true/\bL r x p=true:=Lj fun hno=>by
    have:Mx r p=true:=(My h p).2 ⟨⟨h0,h1⟩,fun x x0 x1 hx=>hno ⟨x,x0,x1,hx⟩⟩
    rw[hc]at this;cases this
   obtain⟨x,x0,x1,x2,x3⟩:=hex
   cases n with
   |zero=>omega
   |succ n=>
    obtain⟨q,q1,q2,q3,q4⟩:=YP h n x J x0 J
    exact⟨q,J,q2,KQ h x2 q3,KQ h q4 x3⟩
def Mz(r:Rl)(i:Int):Bool:=Mx r (i/8)&&Mx r (i%8)
def arD(r:Rl)(k:Int):List (BitVec 64):=((upto k).filter (Mz r)).map (aDu r)
def aMI(c:BitVec 64)(l:List (BitVec 64))(j:Int):Bool:=decide (c=0#64)||(l.take j.toNat).any fun w=>decide (w=c)
theorem agY{r:Rl}(h:cV r=true){o p:Int}(hp:hasB (gy r o) p=true):0<=p/\p<8:=by
 have hs:=eY h
 rw[eV]at hp
 have:=Bz h hp;omega
def aDv:Rl:=⟨2,fun i=>[3#64,2#64].getD i 0#64⟩
theorem agZ(A:Int->Bool):((upto 64).filter fun i=>A (i/8)&&A (i%8)).length=((upto 8).filter A).length*((upto 8).filter A).length:=by
 have e:upto 64=(upto 8).flatMap fun p=>(upto 8).map (8*p+·):=by decide+kernel
 have key:∀l:List Int,((l.flatMap fun p=>(upto 8).map (8*p+·)).filter fun i=>A (i/8)&&A (i%8)).length=(l.filter A).length*((upto 8).filter A).length:=fun l=>by
  induction l with
  |nil=>simp
  |cons p l ih=>
   rw[uC,Rr,ec,ih]
   have h1:(((upto 8).map (8*p+·)).filter fun i=>A (i/8)&&A (i%8))=((upto 8).filter fun y=>A p&&A y).map (8*p+·):=by
    rw[List.filter_map]
    congr 1
    refine List.filter_congr fun y hy=> ?_
    have:=cK.1 hy
    simp only[Function.comp]
    rw[show(8*p+y)/8=p by omega,show(8*p+y)%8=y by omega]
   rw[h1,gF]
   cases hp:A p with
   |true=>
    rw[xJ hp,fw,lz]
    simp only[mF]
    show((upto 8).filter A).length+_=_
    omega
   |false=>simp[hp]
 rw[e,key]
theorem adF{r:Rl}(h:cV r=true){k:Int}(hk:k=64):((arD r k).length:Int)=KS r:=by
 subst hk
 have hs:=eY h
 have h1:(upto 8).filter (Mx r)=(upto (pts r)).filter fun i=>UB (js r) i i:=by
  refine zZ ((xd _).filter _) ((xd _).filter _) fun x=> ?_
  rw[xP,xP,cK,cK,Mx,cM,eD,hs.2.1]
  constructor
  .rintro⟨h2,h3,h4⟩;exact⟨h3,h4⟩
  rintro⟨h2,h3⟩;exact⟨J,h2,h3⟩
 rw[<-Mv h,arD,gF,show Mz r=fun i=>Mx r (i/8)&&Mx r (i%8)from O,agZ,h1,Bb]
 push_cast;rfl
abbrev Tx:=ByteArray
def sC(s:Tx)(i:Int):Int:=((s.data.toList.getD i.toNat 0).toNat:Int)
def jG(c:Int):Bool:=decide (97<=c/\c<=122)
def uD(c:Int):Bool:=decide ((97<=c/\c<=122)\/(48<=c/\c<=57)\/c=95)
def iS(s:Tx):Bool:=decide (1<=s.size/\s.size<=16)&&jG (sC s 0)&&(upto s.size).all fun i=>uD (sC s i)
theorem DL{s:Tx}(h:¬(1<=s.size/\s.size<=16)):iS s=false:=by grind[iS]
theorem PR{s:Tx}(h:jG (sC s 0)=false):iS s=false:=by rw[iS,h];simp
theorem IE{s:Tx}{i:Int}(i0:0<=i)(i1:i<s.size)(h:uD (sC s i)=false):iS s=false:=by grind[iS,cK]
theorem PS{s:Tx}{k:Int}(h1:1<=s.size/\s.size<=16)(h2:jG (sC s 0)=true)(hk:¬k<s.size)(hf:∀j:Int,0<=j->j<k->uD (sC s j)=true):iS s=true:=by grind[iS,cK]
theorem Cy{c:Int}(h:jG c=true):uD c=true:=by grind[jG,uD]
def tw(P:Int->Bool)(n:Int):Int:=if(vG P n).2 then(vG P n).1 else-1
theorem vI{P:Int->Bool}{n k:Int}(h0:0<=k)(hk:k<n)(hp:P k=true)(hf:∀j:Int,0<=j->j<k->P j=false):tw P n=k:=by
 rw[tw,qx h0 hk hp hf];rfl
theorem Gq{P:Int->Bool}{n:Int}(hf:∀j:Int,0<=j->j<n->P j=false):tw P n= -1:=by
 rw[tw,th hf];rfl
theorem YQ(P:Int->Bool)(n:Int):(∃k:Int,0<=k/\k<n/\P k=true/\(∀j:Int,0<=j->j<k->P j=false)/\tw P n=k)\/((∀j:Int,0<=j->j<n->P j=false)/\tw P n= -1):=by grind[tw,ov,vI,Gq]
abbrev qg:Tx:=⟨#[]⟩
def ry(l:List Tx)(s:Tx):Int:=tw (fun i=>decide (l.getD i.toNat qg=s)) l.length
theorem fF{α:Type}{l:List α}{d:α}{i:Int}(h0:0<=i)(h:i<l.length):l[i.toNat]?=some (l.getD i.toNat d):=by grind
theorem getD_take{α:Type}{l:List α}{d:α}{i k:Int}(h0:0<=i)(h:i<k):(l.take k.toNat).getD i.toNat d=l.getD i.toNat d:=by grind
def yL(l:List Tx):Int:=tw (fun i=>decide (ry l (l.getD i.toNat qg)<i)) l.length
theorem ag0{l:List Tx}{i:Int}(i0:0<=i)(i1:i<l.length):decide (ry (l.take i.toNat) (l.getD i.toNat qg)>=0)=decide (ry l (l.getD i.toNat qg)<i):=by
 rw[gH,eD,eD]
 have hl:((l.take i.toNat).length:Int)=i:=by rw[dW];omega
 rw[ry,hl]
 rcases YQ (fun j=>decide ((l.take i.toNat).getD j.toNat qg=l.getD i.toNat qg)) i with⟨k,k0,k1,k2,k3,e⟩|⟨h,e⟩
 .rw[e]
  have h1:ry l (l.getD i.toNat qg)=k:=vI k0 J (by rw[<-k2,getD_take k0 k1]) fun j a b=>by
   rw[<-k3 j a b,getD_take a J]
  rw[h1];omega
 rw[e]
 have h1:ry l (l.getD i.toNat qg)=i:=vI i0 i1 aJ fun j a b=>by
  rw[<-h j a b,getD_take a b]
 rw[h1];omega
def aJC(a b:List Tx):Bool:=decide (a=b)
end Go.Proofs.YtlhjdflgjbkpmaaGreatDoor.M
namespace Go.Proofs.YtlhjdflgjbkpmaaGreatDoor.E
section
open Go Go.RowKit Go.Proofs.YtlhjdflgjbkpmaaGreatDoor.M
abbrev S(s:Tx):Value:= .string s
abbrev JD(l:List Tx):List Value:=l.map Value.string
theorem Cz{l:List Tx}{k:Int}(h:0<=k/\k<l.length):(JD l)[k.toNat*1]?=some (S (l.getD k.toNat qg)):=by grind
theorem iq{w:World}{v:Value}{sz n:Nat}{c:List Value}(h:Sl w v sz n c):v.oneCell'=true/\v.cells=#[v]:=by
 obtain⟨a,cap,rfl,-,-⟩:=h.shape;exact⟨rfl,rfl⟩
theorem Sl.aDw{w:World}{v:Value}{l:List Tx}{n:Int}(h:Sl w v 1 l.length (JD l))(hn:0<=n/\n<=l.length):Sl w (uL v n.toNat) 1 (l.take n.toNat).length (JD (l.take n.toNat)):=
 (h.cut n.toNat J).conv (by rw[dW];omega) (by rw[lX];exact Ca.symm)
theorem arE{s:Tx}:s=qg↔s.size=0:=by
 constructor
 .intro h;rw[h];rfl
 intro h
 cases s with
 |mk d=>
  have:d.size=0:=h
  have e:d=#[]:=afr this
  rw[e]
section runs
variable{P:Program}{σ:Env}{w:World}{dst:Option Tmp}{ty t u:TypeId}{pos:String}{bO:Array Edge}{g:Option (Nat×Bool)}{x y:Operand}{a b:Tx}{k:IntKind}{i:Int}
theorem arF(a b:Tx):(a.toList==b.toList)=decide (a=b):=by
 rw[ByteArray.toList_eq,ByteArray.toList_eq,gH,Cd,eD]
 constructor
 .exact fun h=>WideShapes.bytes_inj h
 exact fun h=>by rw[h]
theorem ag2{op:BinOp}{v:Value}(hx:ev σ x=S a)(hy:ev σ y=S b)(h:(binOp op t (S a) (S b)).run P w= .ok v w):
  (execOp (ev σ) ⟨dst,.binOp op t x y u,ty,pos,bO,g⟩).run P w= .ok (.value v) w:=by
 have he:(eqGuard op t x y (S a) (S b))=pure ():=by cases op<;>rfl
 simp[execOp,hx,hy,he,h]
theorem MA(hx:ev σ x=S a)(hy:ev σ y=S b):(execOp (ev σ) ⟨dst,.binOp .eql t x y u,ty,pos,bO,g⟩).run P w= .ok (.value (.bool (decide (a=b)))) w:=
 ag2 hx hy (by rw[binOp_string_eql,arF];rfl)
theorem tA(ht:P.underlying t=some .string)(hx:ev σ x=S a)(hy:ev σ y= .int k i)(h:0<=i/\i<a.size):(execOp (ev σ) ⟨dst,.index t x y,ty,pos,bO,g⟩).run P w= .ok (.value (.int .u8 (sC a i))) w:=by
 have h1:=run_index_string (P:=P) w t a k i ht
 rw[dif_pos h]at h1
 have h2:((a[i.toNat]'J).toNat:Int)=sC a i:=by
  have hl:i.toNat<a.data.toList.length:=by
   have:a.data.toList.length=a.size:=by cases a;rfl
   omega
  rw[sC,eT,eF hl]
  cases a;rfl
 rw[h2]at h1
 simp[execOp,hx,hy,h1]
end runs
abbrev Vu:=Nat->Obj->Prop
def Kw(w:World):Vu:=fun b o=>w.heap[b]?=some o
def Kz(K:Vu)(Z:List bu):Vu:=fun b o=>K b o\/bu.blk b o∈Z
def PU(K:Vu)(b j:Nat)(c:Value):Prop:=∃cs e fr,K b (.cells cs e fr)/\cs[j]?=some c
structure oR(K:Vu)(v:Value)(sz n:Nat)(cells:List Value):Prop where
 shape:∃a cap,v= .slice a n cap/\n<=cap/\(0<n->a=some ⟨sb v,so v,none⟩)
 len:cells.length=n*sz
 cell:∀j c,cells[j]?=some c->PU K (sb v) (so v+j) c
 small:n<=maxLen
def Le(K K':Vu):Prop:=∀b o,K b o->K' b o
theorem Le.refl(K:Vu):Le K K:=fun _ _ h=>h
theorem Le.trans{K K' K'':Vu}(h:Le K K')(h':Le K' K''):Le K K'':=fun b o hb=>h' b o (h b o hb)
theorem Le.z(K:Vu)(Z:List bu):Le K (Kz K Z):=fun _ _ h=> .inl h
theorem Le.zz{K:Vu}{Z Z':List bu}(h:∀x,x∈Z->x∈Z'):Le (Kz K Z) (Kz K Z'):=fun b o hb=>hb.imp id (h _)
theorem Le.kk{K:Vu}{Z Z':List bu}:Le (Kz (Kz K Z) Z') (Kz K (Z'++Z)):=fun b o hb=>by
 rcases hb with(hb|hb)|hb
 .exact .inl hb
 .exact .inr (by simp[hb])
 exact .inr (by simp[hb])
theorem PU.mono{K K':Vu}{b j:Nat}{c:Value}(h:PU K b j c)(hl:Le K K'):PU K' b j c:=by
 obtain⟨cs,e,fr,h1,h2⟩:=h;exact⟨cs,e,fr,hl _ _ h1,h2⟩
theorem oR.mono{K K':Vu}{v:Value}{sz n:Nat}{cells:List Value}(h:oR K v sz n cells)(hl:Le K K'):oR K' v sz n cells:=⟨h.shape,h.len,fun j c hc=>(h.cell j c hc).mono hl,h.small⟩
theorem oR.nil(K:Vu)(sz:Nat):oR K (.slice none 0 0) sz 0 []:=⟨⟨none,0,rfl,fh _,fun h=>J⟩,aJ,fun j c h=>by simp at h,gd⟩
section
variable{w0 w w':World}{L L' Z:List bu}{K:Vu}{v:Value}{sz n:Nat}{cells:List Value}
theorem oR.sl(h:oR (Kw w) v sz n cells):Sl w v sz n cells:=⟨h.shape,h.len,fun j c hc=>by
 obtain⟨cs,e,fr,h1,h2⟩:=h.cell j c hc
 rw[xS w _ _ cs e fr h1];exact h2,h.small⟩
theorem adG{b j:Nat}{c:Value}(h1:w.cell? ⟨b,j,none⟩=some c):PU (Kw w) b j c:=by
 unfold World.cell? at h1
 cases hq:w.heap[b]? with
 |none=>simp[hq]at h1
 |some o=>
  cases o with
  |cells cs e fr=>simp[hq]at h1;exact⟨cs,e,fr,hq,h1⟩
  |_=>simp[hq]at h1
theorem Sl.slv(h:Sl w v sz n cells):oR (Kw w) v sz n cells:=⟨h.shape,h.len,fun j c hc=>adG (h.cell j c hc),h.small⟩
theorem Kw.below(hb:Below w.heap.size w w'):Le (Kw w) (Kw w'):=fun b o h=>by
 show w'.heap[b]?=some o
 rw[hb.block b (B4.1 h).1];exact h
theorem Hp.kw(h:Hp w0 w L):Le (Kw w0) (Kw w):=Kw.below h.below
theorem Hp.kz(h:Hp w0 w L)(hK:Le K (Kw w0))(hZ:∀x,x∈Z->x∈L):Le (Kz K Z) (Kw w):=fun b o hb=>by
 rcases hb with hb|hb
 .exact h.kw _ _ (hK _ _ hb)
 exact(h.ok _ (hZ _ hb)).2
theorem Hp.Gr(h:Hp w0 w L)(hz:Hp w w' Z):Hp w0 w' (Z++L):=by
 have h':=h.call hz.below
 refine⟨h'.below,fun x hx=> ?_,E3.2 ⟨hz.LZ,h'.LZ,fun x hx y hy=> ?_⟩⟩
 .rcases e8.1 hx with hx|hx
  .have h1:=hz.ok x hx
   rcases x with⟨b,o⟩|⟨v,e,sz,n,xs⟩
   .exact⟨kL h.size h1.1,h1.2⟩
   refine⟨h1.1,?_⟩
   rcases h1.2 with hn|⟨gb,cap,cur,rfl,h2,rest⟩
   .exact .inl hn
   exact .inr ⟨gb,cap,cur,rfl,kL h.size h2,rest⟩
  exact h'.ok x hx
 .cases hf:x.sD with
  |none=>exact .inl O
  |some b=>
   refine .inr fun e=> ?_
   have h1:=(bu.Jz (hz.ok x hx) b hf).1
   have h2:=(bu.Jz (h.ok y hy) b (by rw[<-e])).2
   omega
theorem Hp.HD(h:Hp w0 w (Z++(L++L'))):Hp w0 w (L++(Z++L')):=by grind[Hp]
theorem Hp.T4{e:TypeId}{xs:List Value}(h:Hp w0 w (.row v e sz n xs::L))(K:Vu):∃Z:List bu,Hp w0 w (Z++L)/\oR (Kz K Z) v sz n xs/\(∀x∈Z,∃b c e,x= .blk b (.cells c e (0,0))):=by
 have h1:=h.ok _ (qU ..)
 obtain⟨hl,h2⟩:=h1
 rcases h2 with⟨rfl,rfl⟩|⟨gb,cap,cur,rfl,hb,hg,hn,hm,hs,ht⟩
 .have:xs=[]:=zC (by simpa using hl)
  subst this
  exact⟨[],h.tail,oR.nil _ _,fun x hx=>by simp at hx⟩
 refine⟨[.blk gb (.cells cur e (0,0))],⟨h.below,fun x hx=> ?_,?_⟩,⟨⟨_,cap,rfl,hn,fun _=>rfl⟩,hl,fun j c hj=>⟨cur,e,(0,0),.inr (by simp[sb]),?_⟩,kL hn hm⟩,fun x hx=> ?_⟩
 .rcases c8.1 hx with rfl|hx
  .exact⟨hb,hg⟩
  exact h.ok x (fX _ hx)
 .exact List.Pairwise.cons (fun y hy=>(lS.1 h.LZ).1 y hy) (lS.1 h.LZ).2
 .simp only[so,gO]
  rw[<-ht,u9]at hj
  split at hj
  .simpa using hj
  .cases hj
 simp at hx;exact⟨_,_,_,hx⟩
theorem Gs{b:Nat}{c:List Value}{e:TypeId}(hZ:bu.blk b (.cells c.toArray e (0,0))∈Z)(hl:c.length=n*sz)(hn:n<=maxLen):oR (Kz K Z) (.slice (some ⟨b,0,none⟩) n n) sz n c:=
 ⟨⟨_,n,rfl,fh _,fun _=>rfl⟩,hl,fun j u hu=>⟨c.toArray,e,(0,0),.inr hZ,by simp only[so,gO];simpa using hu⟩,hn⟩
end
def Gt(K:Vu)(p:Vu->Value->Prop)(w:World):Ending->World->Prop:=jY fun u w'=>∃Z:List bu,Hp w w' Z/\p (Kz K Z) u
section calls
variable{P:Program}{n:Nat}{ops:Array Oper}{k:K}{rest:List Oper}{σ:Env}{w0 w:World}{L:List bu}{op:Op}{ty:TypeId}{pos:String}{bO:Array Edge}{d:Nat}{Kv:Vu}{p:Vu->Value->Prop}
theorem IF{f:FuncId}{args:Array Value}(hd:Nat.blt d n=true)(hH:Hp w0 w L)(hc:Calls P f args w (Gt Kv p w))
  (hr:(execOp (ev σ) ⟨some d,op,ty,pos,bO,none⟩).run P w= .ok (.enter f args) w)
  (hk:∀v w' Z,Hp w0 w' (Z++L)->p (Kz Kv Z) v->RL P n ops k rest (lZ σ d v) w'):RL P n ops k (⟨some d,op,ty,pos,bO,none⟩::rest) σ w:=
 Ig hd hr hc fun u w' ⟨Z,hz,hp⟩=>hk u w' Z (hH.Gr hz) hp
variable{l:List Oper}{i fuel:Nat}{listed:Array Bool}{g:Option (Nat×Bool)}{L':List bu}
theorem YR{f:FuncId}{args:Array Value}(hi:l[i]?=some ⟨some d,op,ty,pos,bO,g⟩)(hg:∀a,Is n σ a->Region.wanted ⟨some d,op,ty,pos,bO,g⟩ (yielded l.toArray a.tmps)=true)(hd:Nat.blt d n=true)
  (hH:Hp w0 w L') (hs:L.Sublist L') (hc:Calls P f args w (Gt Kv p w)) (hr:(execOp (ev σ) ⟨some d,op,ty,pos,bO,g⟩).run P w= .ok (.enter f args) w)
  (h:∀v w' Z,Hp w0 w' (Z++L')->p (Kz Kv Z) v->AN P n l (fun w=>Hp w0 w L) k fuel (listed.setIfInBounds i true) (lZ σ d v) w'):AO P n l (fun w=>Hp w0 w L) k fuel listed σ w i:=
 Sg hi hg hd hc hr fun u w' ⟨Z,hz,hp⟩=>⟨(hH.Gr hz).sub (List.Sublist.trans hs (Xy _ _)),h u w' Z (hH.Gr hz) hp⟩
end calls
section flat
variable{α:Type}{cl:α->List Value}{sz:Nat}
theorem flat_get(hsz:∀a,(cl a).length=sz):∀(l:List α) (k:Nat) (a:α),l[k]?=some a->∀j c,(cl a)[j]?=some c->(l.flatMap cl)[k*sz+j]?=some c
 |[],k,a,h=>by simp at h
 |p::l,0,a,h=>fun j c hj=>by
  simp at h;subst h
  rw[uC,zD (by have:=(nX.1 hj).1;omega),RH,gO];exact hj
 |p::l,k+1,a,h=>fun j c hj=>by
  have:=flat_get hsz l k a x7 j c hj
  rw[uC,E1 (by rw[hsz,lz];omega),hsz,show(k+1)*sz+j-sz=k*sz+j by rw[lz];omega];exact this
theorem fK(hsz:∀a,(cl a).length=sz)(l:List α):(l.flatMap cl).length=l.length*sz:=by
 induction l with
 |nil=>simp
 |cons a l ih=>rw[uC,ec,hsz,ih,fw,lz];omega
variable{P:Program}{σ:Env}{w:World}{dst:Option Tmp}{ty t:TypeId}{pos:String}{bO:Array Edge}{g:Option (Nat×Bool)}{x:Operand}{v:Value}{l:List α}{k:Int}
theorem dZ{d:TypeDesc}{dv:α}(hsz:∀a,(cl a).length=sz)(hS:Sl w v sz l.length (l.flatMap cl))(hu:P.underlying t=some d)(hd:d.isRow=true)(hi:(P.info? t).map (·.size)=some sz)
  (hx:ev σ x= .pointer (some ⟨sb v,so v+k.toNat*sz,none⟩)) (hk:0<=k/\k<l.length):
  (execOp (ev σ) ⟨dst,.load t x,ty,pos,bO,g⟩).run P w= .ok (.value (.agg (cl (l.getD k.toNat dv)).toArray)) w:=by
 refine cA hu hd (by rw[hsz];exact hi) hx fun j c hj=> ?_
 have:=hS.cell _ _ (flat_get hsz l k.toNat _ (fF hk.1 hk.2) j c hj)
 rw[zH];exact this
theorem gC{d:TypeDesc}{dv:α}{off:Nat}{c:Value}(hsz:∀a,(cl a).length=sz)(hS:Sl w v sz l.length (l.flatMap cl))(hu:P.underlying t=some d)(hd:d.isRow=false)
  (hx:ev σ x= .pointer (some ⟨sb v,so v+k.toNat*sz+off,none⟩)) (hk:0<=k/\k<l.length) (hc:(cl (l.getD k.toNat dv))[off]?=some c):
  (execOp (ev σ) ⟨dst,.load t x,ty,pos,bO,g⟩).run P w= .ok (.value c) w:=by
 refine aG hu hd hx ?_
 have:=hS.cell _ _ (flat_get hsz l k.toNat _ (fF hk.1 hk.2) off c hc)
 rw[zH];exact this
theorem l7{d:TypeDesc}{dv:α}{off:Nat}{cs:List Value}(hsz:∀a,(cl a).length=sz)(hS:Sl w v sz l.length (l.flatMap cl))(hu:P.underlying t=some d)(hd:d.isRow=true)(hi:(P.info? t).map (·.size)=some cs.length)
  (hx:ev σ x= .pointer (some ⟨sb v,so v+k.toNat*sz+off,none⟩)) (hk:0<=k/\k<l.length) (hc:∀j c,cs[j]?=some c->(cl (l.getD k.toNat dv))[off+j]?=some c):
  (execOp (ev σ) ⟨dst,.load t x,ty,pos,bO,g⟩).run P w= .ok (.value (.agg cs.toArray)) w:=by
 refine cA hu hd hi hx fun j c hj=> ?_
 have:=hS.cell _ _ (flat_get hsz l k.toNat _ (fF hk.1 hk.2) (off+j) c (hc j c hj))
 rw[zH,zH];exact this
end flat
end
end Go.Proofs.YtlhjdflgjbkpmaaGreatDoor.E
namespace Go.Proofs.YtlhjdflgjbkpmaaGreatDoor.M
section
open Go
abbrev El:=Nat->BitVec 64
def rR(a b:El):Prop:=∀i,i<8->a i=b i
instance(a b:El):Decidable (rR a b):=inferInstanceAs (Decidable (∀i,i<8->a i=b i))
def dg:El:=fun _=>0#64
def tB(e:El)(i:Nat)(x:BitVec 64):El:=fun j=>if j=i then x else e j
structure Fc where
 kind:Int
 names:List Tx
 rel:Rl
structure Sh where
 tuple:Bool
 aZ:List Fc
def vJ:Fc:=⟨0,[],Rl.none⟩
def ir(l:List Tx):Bool:=decide (1<=l.length/\l.length<=64)&&decide (yL l<0)&&l.all iS
theorem DM{l:List Tx}(h:¬(1<=l.length/\l.length<=64)):ir l=false:=by grind[ir]
theorem PV{l:List Tx}(h:¬yL l<0):ir l=false:=by grind[ir]
theorem PW{l:List Tx}{k:Int}(k0:0<=k)(k1:k<l.length)(h:iS (l.getD k.toNat qg)=false):ir l=false:=by
 cases hc:ir l with
 |false=>rfl
 |true=>
  rw[ir,cM,iR]at hc
  rw[hc.2 _ (lR (fF (d:=qg) k0 k1))]at h;cases h
theorem qy{l:List Tx}{k:Int}(h1:1<=l.length/\l.length<=64)(h2:yL l<0)(hk:¬k<l.length)(hf:∀j:Int,0<=j->j<k->iS (l.getD j.toNat qg)=true):ir l=true:=by
 rw[ir,gW h1,gW h2,mF,mF,iR]
 intro x hx
 obtain⟨i,hi,rfl⟩:=uf hx
 have:=hf i J J
 rw[eC,eT,eF hi]at this
 exact this
def cZ(f:Fc):Bool:=ir f.names&&
 (if f.kind=1\/f.kind=2 then decide (pts f.rel=0)else if f.kind=3 then decide (f.rel.n=f.names.length)&&cV f.rel else if f.kind=4 then decide (f.rel.n=f.names.length)&&tj f.rel else false)
theorem adH(r:Rl):(eI r).eq (eI Rl.none)↔pts r=0:=by
 have hp:=dA r
 constructor
 .intro h;exact h.1
 intro h
 refine⟨h,fun i hi=> ?_⟩
 show(if(i:Int)<pts r then vD r i else 0#64)=(if(i:Int)<0 then vD Rl.none i else 0#64)
 rw[aT J,aT J]
def mA(s:Sh):Bool:=decide (1<=s.aZ.length/\s.aZ.length<=8)&&(s.tuple||decide (s.aZ.length=1))&&s.aZ.all cZ
theorem KT{s:Sh}(h:¬(1<=s.aZ.length/\s.aZ.length<=8)):mA s=false:=by grind[mA]
theorem abi{s:Sh}(h:s.tuple=false)(h2:¬s.aZ.length=1):mA s=false:=by grind[mA]
theorem KU{s:Sh}{k:Int}(k0:0<=k)(k1:k<s.aZ.length)(h:cZ (s.aZ.getD k.toNat vJ)=false):mA s=false:=by
 cases hc:mA s with
 |false=>rfl
 |true=>
  rw[mA,cM,iR]at hc
  rw[hc.2 _ (lR (fF (d:=vJ) k0 k1))]at h;cases h
theorem KV{s:Sh}{k:Int}(h1:1<=s.aZ.length/\s.aZ.length<=8)(h2:s.tuple=true\/s.aZ.length=1)(hk:¬k<s.aZ.length)(hf:∀j:Int,0<=j->j<k->cZ (s.aZ.getD j.toNat vJ)=true):mA s=true:=by
 have h3:(s.tuple||decide (s.aZ.length=1))=true:=by rcases h2 with h2|h2<;>simp[h2]
 rw[mA,gW h1,h3,mF,mF,iR]
 intro x hx
 obtain⟨i,hi,rfl⟩:=uf hx
 have:=hf i J J
 rw[eC,eT,eF hi]at this
 exact this
theorem n4{s:Sh}(h:mA s=true):(1<=s.aZ.length/\s.aZ.length<=8)/\(s.tuple=true\/s.aZ.length=1)/\∀f∈s.aZ,cZ f=true:=by grind[mA]
theorem PC{s:Sh}(h:mA s=true){k:Int}(k0:0<=k)(k1:k<s.aZ.length):cZ (s.aZ.getD k.toNat vJ)=true:=by simp_all[Sh,mA,cZ,vJ,n4,fF,k1]
theorem pG{f:Fc}(h:cZ f=true):(1<=f.names.length/\f.names.length<=64)/\((f.kind=1/\pts f.rel=0)\/(f.kind=2/\pts f.rel=0)\/(f.kind=3/\f.rel.n=f.names.length/\cV f.rel=true)\/(f.kind=4/\f.rel.n=f.names.length/\tj f.rel=true)):=by grind[cZ,ir]
def arH(a b:Fc):Bool:=decide (a.kind=b.kind)&&decide (a.names=b.names)&&decide ((eI a.rel).eq (eI b.rel))
def aJE(a b:Sh):Bool:=decide (a.tuple=b.tuple)&&decide (a.aZ.length=b.aZ.length)&&(upto a.aZ.length).all fun i=>arH (a.aZ.getD i.toNat vJ) (b.aZ.getD i.toNat vJ)
def kC(f:Fc)(w:BitVec 64):Bool:=if f.kind=1 then(level f.names.length w).2 else if f.kind=2 then eu w (below f.names.length)else if f.kind=3 then p6 f.rel w else(eX f.rel w).2
def cJ(s:Sh)(e:El):Bool:=mA s&&(upto 8).all fun i=>if i<s.aZ.length then kC (s.aZ.getD i.toNat vJ) (e i.toNat)else decide (e i.toNat=0#64)
theorem UQ{s:Sh}{e:El}(h:mA s=false):cJ s e=false:=by rw[cJ,h];rfl
theorem UR{s:Sh}{e:El}{k:Int}(k0:0<=k)(k1:k<8)(h:k<s.aZ.length)(h2:kC (s.aZ.getD k.toNat vJ) (e k.toNat)=false):cJ s e=false:=by
 cases hc:cJ s e with
 |false=>rfl
 |true=>
  rw[cJ,cM,iR]at hc
  have:=hc.2 k (cK.2 ⟨k0,k1⟩)
  rw[aX h,h2]at this;cases this
theorem MB{s:Sh}{e:El}{k:Int}(k0:0<=k)(k1:k<8)(h:¬k<s.aZ.length)(h2:e k.toNat≠0#64):cJ s e=false:=by
 cases hc:cJ s e with
 |false=>rfl
 |true=>
  rw[cJ,cM,iR]at hc
  have:=hc.2 k (cK.2 ⟨k0,k1⟩)
  rw[aT h,eD]at this;exact absurd this h2
def Ez(s:Sh)(e:El)(k:Int):Prop:=∀j:Int,0<=j->j<k->(j<s.aZ.length->kC (s.aZ.getD j.toNat vJ) (e j.toNat)=true)/\(¬j<s.aZ.length->e j.toNat=0#64)
theorem MC{s:Sh}{e:El}{k:Int}(h:mA s=true)(hk:¬k<8)(hf:Ez s e k):cJ s e=true:=by
 rw[cJ,h,mF,iR]
 intro i hi
 have h1:=cK.1 hi
 have h2:=hf i h1.1 J
 split
 .rename_i h3;exact h2.1 h3
 rename_i h3;exact gW (h2.2 h3)
theorem Ez.none(s:Sh)(e:El):Ez s e 0:=fun j a b=>absurd b J
theorem Ez.next{s:Sh}{e:El}{k:Int}(h:Ez s e k)(h1:k<s.aZ.length->kC (s.aZ.getD k.toNat vJ) (e k.toNat)=true)(h2:¬k<s.aZ.length->e k.toNat=0#64):Ez s e (k+1):=fun j a b=>by
 by_cases he:j=k
 .subst he;exact⟨h1,h2⟩
 exact h j a J
def cS(a b:El):Bool:=(upto 8).all fun i=>eu (a i.toNat) (b i.toNat)
theorem ag3{a b:El}{k:Int}(k0:0<=k)(k1:k<8)(h:eu (a k.toNat) (b k.toNat)=false):cS a b=false:=by
 cases hc:cS a b with
 |false=>rfl
 |true=>
  rw[cS,iR]at hc
  rw[hc k (cK.2 ⟨k0,k1⟩)]at h;cases h
theorem abj{a b:El}{k:Int}(hk:¬k<8)(hf:∀j:Int,0<=j->j<k->eu (a j.toNat) (b j.toNat)=true):cS a b=true:=by grind[cS,cK]
def US(s:Sh)(a b:El)(i:Nat):BitVec 64:=if(i:Int)<s.aZ.length/\(s.aZ.getD i vJ).kind=4 then ju (s.aZ.getD i vJ).rel (a i) (b i)else a i|||b i
def eo(s:Sh)(a b:El):El:=fun i=>US s a b i
def o7(a b:El):El:=fun i=>a i&&&b i
def m8(a b:El)(k:Int):El:=fun i=>if(i:Int)<k then a i else b i
theorem vK(a b:El):m8 a b 0=b:=funext fun i=>aT J
theorem uO{a b:El}{k:Int}{x:BitVec 64}(k0:0<=k)(h:x=a k.toNat):tB (m8 a b k) k.toNat x=m8 a b (k+1):=by grind[tB,m8]
theorem YS{a b:El}{k:Int}(k0:0<=k):m8 a b k k.toNat=b k.toNat:=aT J
theorem alU{a b:El}{k:Int}(hk:¬k<8):rR (m8 a b k) a:=fun i hi=>aX J
def ew(f:Fc):BitVec 64:=if f.kind≠4 then 0#64 else bQ f.rel (wK f.rel (gy f.rel)).1
def Fw(f:Fc):BitVec 64:=if f.kind=1 then awm f.names.length else if f.kind=2 then below f.names.length else if f.kind=3 then J5 f.rel else bQ f.rel (wK f.rel (bQ f.rel)).1
def gJ(s:Sh)(f:Fc->BitVec 64):El:=fun i=>if mA s=true/\(i:Int)<s.aZ.length then f (s.aZ.getD i vJ)else 0#64
def yM(f:Fc):Int:=if f.kind=1 then f.names.length-1 else if f.kind=2 then f.names.length else if f.kind=3 then KS f.rel else(aba f.rel).1
def CA(s:Sh)(k:Int):Int:=((upto k).map fun i=>yM (s.aZ.getD i.toNat vJ)).sum
theorem ag4{s:Sh}{k:Int}(k0:0<=k):CA s k+yM (s.aZ.getD k.toNat vJ)=CA s (k+1):=by grind[CA,ja]
def gK(s:Sh):Int:=if mA s then CA s s.aZ.length else 0
end
end Go.Proofs.YtlhjdflgjbkpmaaGreatDoor.M
namespace Go.Proofs.YtlhjdflgjbkpmaaGreatDoor.E
section
open Go Go.RowKit Go.Proofs.YtlhjdflgjbkpmaaGreatDoor.M
def pJ(e:El):List Value:=(List.range 8).map fun i=>U (e i)
@[irreducible] def iM(e:El):Array Value:=(pJ e).toArray
theorem ig(e:El):iM e=(pJ e).toArray:=by unfold iM;rfl
theorem cY(e:El):(pJ e).length=8:=by simp[pJ]
theorem Gc(e:El):(iM e).size=8:=by rw[ig];simp[pJ]
theorem jM(e:El){i:Nat}(h:i<8):(iM e)[0+i*1]?=some (U (e i)):=by grind[ig,pJ]
theorem arI(e:El){k:Int}(h:0<=k/\k<8):(iM e)[k.toNat]?=some (U (e k.toNat)):=by grind[ig,pJ]
theorem n5(e:El)(i:Nat)(x:BitVec 64):(iM e).setIfInBounds (0+i*1) (U x)=iM (tB e i x):=by grind[ig,cY,pJ,tB]
theorem l8{a b:El}(h:rR a b):iM a=iM b:=by simp_all[El,rR,iM,ig,pJ]
theorem ag5:iM dg=Array.replicate 8 (U 0#64):=by rw[ig];rfl
theorem abk(e:El):∀u∈iM e,u.oneCell'=true:=by
 rw[ig];simp[pJ]
 exact fun _ _=>rfl
structure qz where
 kind:Int
 nv:Value
 names:List Tx
 rel:Rl
def qz.fc(f:qz):Fc:=⟨f.kind,f.names,f.rel⟩
def sI(f:qz):List Value:=I f.kind::f.nv::wJ f.rel
theorem fB(f:qz):(sI f).length=67:=by simp[sI,pI]
abbrev uP(f:qz):Array Value:=(sI f).toArray
def iB:qz:=⟨0,.slice none 0 0,[],Rl.none⟩
theorem MD(f:qz):∀j c,(wJ f.rel)[j]?=some c->(sI f)[2+j]?=some c:=by grind[sI]
structure wL(K:Vu)(f:qz):Prop where
 names:oR K f.nv 1 f.names.length (JD f.names)
theorem wL.mono{K K':Vu}{f:qz}(h:wL K f)(hl:Le K K'):wL K' f:=⟨h.names.mono hl⟩
structure kR where
 tuple:Bool
 fv:Value
 aZ:List qz
def kR.sh(s:kR):Sh:=⟨s.tuple,s.aZ.map qz.fc⟩
abbrev qL(s:kR):Array Value:=#[B s.tuple,s.fv]
structure k8(K:Vu)(s:kR):Prop where
 aZ:oR K s.fv 67 s.aZ.length (s.aZ.flatMap sI)
 each:∀f∈s.aZ,wL K f
theorem k8.mono{K K':Vu}{s:kR}(h:k8 K s)(hl:Le K K'):k8 K' s:=⟨h.aZ.mono hl,fun f hf=>(h.each f hf).mono hl⟩
theorem pw(s:kR):s.sh.aZ.length=s.aZ.length:=by simp[kR.sh]
theorem iF(s:kR)(k:Int):s.sh.aZ.getD k.toNat vJ=(s.aZ.getD k.toNat iB).fc:=by
 rw[kR.sh,eT,eT,qu]
 cases s.aZ[k.toNat]?<;>rfl
theorem k8.at{K:Vu}{s:kR}(h:k8 K s){k:Int}(h0:0<=k)(h1:k<s.aZ.length):wL K (s.aZ.getD k.toNat iB):=h.each _ (lR (fF (d:=iB) h0 h1))
section runs
variable{P:Program}{σ:Env}{w:World}{dst:Option Tmp}{ty t u e:TypeId}{pos:String}{bO:Array Edge}{g:Option (Nat×Bool)}{x y:Operand}{b:Nat}{fr:Nat×Nat}
structure ElT(P:Program)(t e:TypeId):Prop where
 u:P.underlying t=some (.array 8 e)
 ue:P.underlying e=some (.int .u64)
 se:∀w,(sizeOf e).run P w= .ok 1 w
 ae:∀w,(isAgg e).run P w= .ok false w
 eg:P.eqGuardType P.depth t=false
theorem ElT.eql(T:ElT P t e)(a b:El)(w:World):(Op.equalIn 10000 t (.agg (iM a)) (.agg (iM b))).run P w= .ok (decide (rR a b)) w:=by
 rw[ig,ig]
 exact ao8 9998 a b T.u T.ue T.se T.ae
theorem IG{a b:El}(T:ElT P t e)(hx:ev σ x= .agg (iM a))(hy:ev σ y= .agg (iM b)):
  (execOp (ev σ) ⟨dst,.binOp .eql t x y u,ty,pos,bO,g⟩).run P w= .ok (.value (.bool (decide (rR a b)))) w:=by
 have h:=run_eql_struct (P:=P) w t (iM a) (iM b)
 rw[T.eql]at h
 simp only[execOp,hx,hy,uj,X7 w .eql t x y _ _ T.eg,xL]
 simp[h]
theorem PX{a b:El}(T:ElT P t e)(hx:ev σ x= .agg (iM a))(hy:ev σ y= .agg (iM b)):
  (execOp (ev σ) ⟨dst,.binOp .neq t x y u,ty,pos,bO,g⟩).run P w= .ok (.value (.bool (!decide (rR a b)))) w:=by
 have h:=run_neq_struct (P:=P) w t (iM a) (iM b)
 rw[T.eql]at h
 simp only[execOp,hx,hy,uj,X7 w .neq t x y _ _ T.eg,xL]
 simp[h]
theorem cN{a:El}{d:TypeDesc}(hu:P.underlying t=some d)(hd:d.isRow=true)(hi:(P.info? t).map (·.size)=some 8)(hx:ev σ x= .pointer (some ⟨b,0,none⟩))
 (hg:w.heap[b]?=some (.cells (iM a) e fr)):(execOp (ev σ) ⟨dst,.load t x,ty,pos,bO,g⟩).run P w= .ok (.value (.agg (iM a))) w:=by grind[ig,cA,cY,bj]
theorem cR{a a0:El}(hi:(P.info? t).map (·.size)=some 8)(hx:ev σ x= .pointer (some ⟨b,0,none⟩))(hy:ev σ y= .agg (iM a))(hg:w.heap[b]?=some (.cells (iM a0) e (0,0))):
 (execOp (ev σ) ⟨dst,.store t x y,ty,pos,bO,g⟩).run P w= .ok .skip (w.setRow b (iM a)):=by grind[dO,Gc,abk]
theorem yN{f:qz}{d:TypeDesc}(hu:P.underlying t=some d)(hd:d.isRow=true)(hi:(P.info? t).map (·.size)=some 67)(hx:ev σ x= .pointer (some ⟨b,0,none⟩))
 (hg:w.heap[b]?=some (.cells (uP f) e fr)):(execOp (ev σ) ⟨dst,.load t x,ty,pos,bO,g⟩).run P w= .ok (.value (.agg (uP f))) w:=by grind[cA,fB,bj]
theorem l9{K:Vu}{v:Value}{sz n:Nat}{c:List Value}(h:oR K v sz n c):v.oneCell'=true/\v.cells=#[v]:=by
 obtain⟨a,cap,rfl,-,-⟩:=h.shape;exact⟨rfl,rfl⟩
theorem UU{K:Vu}{f:qz}(h:wL K f):∀u∈sI f,u.oneCell'=true:=by
 intro u hu
 rw[sI,c8,c8]at hu
 rcases hu with rfl|rfl|hu
 .rfl
 .exact(l9 h.names).1
 exact Me f.rel u (by rw[jt];simpa using hu)
theorem sJ{K:Vu}{f f0:qz}(h:wL K f)(hi:(P.info? t).map (·.size)=some 67)(hx:ev σ x= .pointer (some ⟨b,0,none⟩))(hy:ev σ y= .agg (uP f))(hg:w.heap[b]?=some (.cells (uP f0) e (0,0))):
 (execOp (ev σ) ⟨dst,.store t x y,ty,pos,bO,g⟩).run P w= .ok .skip (w.setRow b (uP f)):=by grind[dO,fB,UU]
theorem gz{d:TypeDesc}{v:Value}{l:List El}{k:Int}(hS:Sl w v 8 l.length (l.flatMap pJ))(hu:P.underlying t=some d)(hd:d.isRow=true)(hi:(P.info? t).map (·.size)=some 8)
 (hx:ev σ x= .pointer (some ⟨sb v,so v+k.toNat*8,none⟩)) (hk:0<=k/\k<l.length):(execOp (ev σ) ⟨dst,.load t x,ty,pos,bO,g⟩).run P w= .ok (.value (.agg (iM (l.getD k.toNat dg)))) w:=by grind[ig,dZ,cY]
theorem rz{w0:World}{fn:Func}{L:List bu}{i p:Nat}{q:Value->World->Prop}{d:TypeDesc}{c:Array Value}(h:fn.results=#[.cell p ty])(hp:σ p= .pointer (some ⟨b,0,none⟩))(hH:Hp w0 w L)
  (hi:L[i]?=some (.blk b (.cells c e fr))) (hu:P.underlying ty=some d) (hd:d.isRow=true) (hz:(P.info? ty).map (·.size)=some c.size) (hq:q (.agg c) w):Out P fn q σ w:=
 fun n a ha=>⟨_,results_cell_row h _ w b e c fr d (by rw[ha.get,hp]) (hH.blk hi) hu (by cases d<;>simp_all) hz,hq⟩
theorem UW{d:TypeDesc}{v:Value}{l:List qz}{k:Int}(hS:Sl w v 67 l.length (l.flatMap sI))(hu:P.underlying t=some d)(hd:d.isRow=true)(hi:(P.info? t).map (·.size)=some 65)
  (hx:ev σ x= .pointer (some ⟨sb v,so v+k.toNat*67+2,none⟩)) (hk:0<=k/\k<l.length):
  (execOp (ev σ) ⟨dst,.load t x,ty,pos,bO,g⟩).run P w= .ok (.value (.agg (dU (l.getD k.toNat iB).rel))) w:=by
 rw[jt]
 exact l7 fB hS hu hd (by rw[pI];exact hi) hx hk (MD _)
theorem iV{d:TypeDesc}{f:qz}(hu:P.underlying t=some d)(hd:d.isRow=true)(hi:(P.info? t).map (·.size)=some 65)(hx:ev σ x= .pointer (some ⟨b,0+2,none⟩))
  (hg:w.heap[b]?=some (.cells (uP f) e fr)):(execOp (ev σ) ⟨dst,.load t x,ty,pos,bO,g⟩).run P w= .ok (.value (.agg (dU f.rel))) w:=by
 rw[jt]
 refine cA hu hd (by rw[pI];exact hi) hx fun j c hj=> ?_
 rw[xS w b _ _ e fr hg]
 simpa using MD f j c hj
end runs
end
end Go.Proofs.YtlhjdflgjbkpmaaGreatDoor.E
namespace Go.Proofs.YtlhjdflgjbkpmaaGreatDoor.M
theorem tC(a:BitVec 64):eu a a=true:=eU.2 fun _ h=>h
theorem mc{a b c:BitVec 64}(h:eu a b=true)(h':eu b c=true):eu a c=true:=by grind[eU]
theorem UX{a b:BitVec 64}(h:eu a b=true)(h':eu b a=true):a=b:=rq fun j=>gH.2 ⟨eU.1 h j,eU.1 h' j⟩
theorem Gu(a b:BitVec 64):eu b (a|||b)=true:=by grind[eu,Im]
theorem ag6(a b:BitVec 64):eu (a&&&b) b=true:=by grind[eu,Gk]
theorem YT{a b c:BitVec 64}(h:eu a c=true)(h':eu b c=true):eu (a|||b) c=true:=by grind[eU,KI]
theorem amo{a b c:BitVec 64}(h:eu c a=true)(h':eu c b=true):eu c (a&&&b)=true:=by grind[eU,fy]
theorem zero_sub(a:BitVec 64):eu 0#64 a=true:=by grind[eU,vF]
theorem CB{n:Int}{w:BitVec 64}(h:(level n w).2=true):(1<=n/\n<=64)/\∃k:Int,(0<=k/\k<n)/\w=below k:=by grind[Fl,L7]
theorem ME{n k:Int}(hn:1<=n/\n<=64)(hk:0<=k/\k<n):(level n (below k)).2=true:=by
 have:=YI (n:=n) (k:=k) ⟨hn.1,hn.2,hk.1,hk.2⟩
 rw[u3 ⟨hn.1,hn.2,hk.1,hk.2⟩]at this
 rw[this]
theorem ag7{r:Rl}{w:BitVec 64}(h:(eX r w).2=true):∃k:Int,(0<=k/\k<pts r)/\w=bQ r k:=by
 rcases ov (fun i=>decide (bQ r i=w)) (pts r)with⟨k,k0,k1,k2,-,-⟩|⟨-,e⟩
 .exact⟨k,⟨k0,k1⟩,(Lr k2).symm⟩
 have:eX r w=(0,false):=e
 rw[this]at h;cases h
def xf(f:Fc)(a b:BitVec 64):BitVec 64:=if f.kind=4 then ju f.rel a b else a|||b
theorem PY{f:Fc}(h:f.kind=1)(w:BitVec 64):kC f w=(level f.names.length w).2:=by rw[kC,aX h]
theorem PZ{f:Fc}(h:f.kind=2)(w:BitVec 64):kC f w=eu w (below f.names.length):=by grind[kC]
theorem P0{f:Fc}(h:f.kind=3)(w:BitVec 64):kC f w=p6 f.rel w:=by grind[kC]
theorem apd{f:Fc}(h:f.kind=4)(w:BitVec 64):kC f w=(eX f.rel w).2:=by grind[kC]
theorem u5{r:Rl}{w:BitVec 64}(h:p6 r w=true):cV r=true/\gh r w=w:=by grind[p6]
theorem Gv{f:Fc}(h:f.kind≠4)(a b:BitVec 64):xf f a b=a|||b:=by rw[xf,aT h]
structure aDx(f:Fc):Prop where
 l:tj f.rel=true
 n:pts f.rel=f.rel.n
theorem J6{f:Fc}(h:cZ f=true)(h4:f.kind=4):aDx f:=by
 have hs:=(pG h).2
 rcases hs with hs|hs|hs|hs
 .omega
 .omega
 .omega
 exact⟨hs.2.2,(jv hs.2.2).2.2.1⟩
theorem me{f:Fc}(h:cZ f=true)(h4:f.kind=4){w:BitVec 64}(hw:kC f w=true):∃k:Int,(0<=k/\k<f.rel.n)/\w=bQ f.rel k:=by
 rw[apd h4]at hw
 obtain⟨k,hk,e⟩:=ag7 hw
 rw[(J6 h h4).n]at hk
 exact⟨k,hk,e⟩
theorem MF{f:Fc}(h:cZ f=true)(h4:f.kind=4){k:Int}(hk:0<=k/\k<f.rel.n):kC f (bQ f.rel k)=true:=by
 have ht:=J6 h h4
 rw[apd h4,vH (jv ht.l).2.1 (by rw[ht.n];exact hk)]
theorem ag8{f:Fc}(h:cZ f=true)(h4:f.kind=4){i j:Int}(hi:0<=i/\i<f.rel.n)(hj:0<=j/\j<f.rel.n):xf f (bQ f.rel i) (bQ f.rel j)=bQ f.rel (jj f.rel i j).1:=by
 rw[xf,aX h4,adA (J6 h h4).l hi hj]
theorem YU{f:Fc}(h:cZ f=true)(h4:f.kind=4){i j:Int}(hi:0<=i/\i<f.rel.n)(hj:0<=j/\j<f.rel.n):eu (bQ f.rel i) (bQ f.rel j)=bL f.rel i j:=by grind[Fc,cZ,eu,bQ,bL,ami,J6]
theorem vM{f:Fc}(h:cZ f=true):f.kind=1\/f.kind=2\/(f.kind=3/\cV f.rel=true)\/f.kind=4:=by grind[Fc,cZ,cV,pG]
section one
variable{f:Fc}(h:cZ f=true){a b c:BitVec 64}(ha:kC f a=true)(hb:kC f b=true)(hc:kC f c=true)
include h ha hb
theorem arJ:kC f (xf f a b)=true:=by
 rcases vM h with k|k|⟨k,hr⟩|k
 .rw[Gv J]
  rw[PY k]at*
  obtain⟨hn,i,hi,rfl⟩:=CB ha
  obtain⟨-,j,hj,rfl⟩:=CB hb
  rw[agi];exact ME hn J
 .rw[Gv J]
  rw[PZ k]at*;exact YT ha hb
 .rw[Gv J]
  rw[P0 k]at*
  have:=aww hr a b
  rwa[(u5 ha).2,(u5 hb).2]at this
 obtain⟨i,hi,rfl⟩:=me h k ha
 obtain⟨j,hj,rfl⟩:=me h k hb
 rw[ag8 h k hi hj];exact MF h k (abh (J6 h k).l hi hj)
theorem arK:kC f (a&&&b)=true:=by
 rcases vM h with k|k|⟨k,hr⟩|k
 .rw[PY k]at*
  obtain⟨hn,i,hi,rfl⟩:=CB ha
  obtain⟨-,j,hj,rfl⟩:=CB hb
  rw[adg];exact ME hn J
 .rw[PZ k]at*;exact mc (Gk a b) ha
 .rw[P0 k]at*
  have:=arC hr a b
  rwa[(u5 ha).2,(u5 hb).2]at this
 obtain⟨i,hi,rfl⟩:=me h k ha
 obtain⟨j,hj,rfl⟩:=me h k hb
 rw[<-adz (J6 h k).l hi hj];exact MF h k (apb (J6 h k).l hi hj)
theorem aDy:eu a (xf f a b)=true/\eu b (xf f a b)=true:=by
 by_cases k:f.kind=4
 .obtain⟨i,hi,rfl⟩:=me h k ha
  obtain⟨j,hj,rfl⟩:=me h k hb
  have hl:=J6 h k
  have hJ:=(KO hl.l hi hj).2
  rw[ag8 h k hi hj,YU h k hi (abh hl.l hi hj),YU h k hj (abh hl.l hi hj)]
  exact⟨hJ.a,hJ.b⟩
 rw[Gv k];exact⟨Im a b,Gu a b⟩
include hc
theorem awy(h1:eu a c=true)(h2:eu b c=true):eu (xf f a b) c=true:=by
 by_cases k:f.kind=4
 .obtain⟨i,hi,rfl⟩:=me h k ha
  obtain⟨j,hj,rfl⟩:=me h k hb
  obtain⟨m,hm,rfl⟩:=me h k hc
  have hl:=J6 h k
  rw[YU h k hi hm]at h1;rw[YU h k hj hm]at h2
  rw[ag8 h k hi hj,YU h k (abh hl.l hi hj) hm]
  exact(KO hl.l hi hj).2.l m h1 h2
 rw[Gv k];exact YT h1 h2
end one
theorem amp{f:Fc}(h:cZ f=true):kC f (ew f)=true/\∀a,kC f a=true->eu (ew f) a=true:=by
 have hn:=(pG h).1
 rcases vM h with k|k|⟨k,hr⟩|k
 .rw[ew,aX J]
  refine⟨?_,fun a _=>zero_sub a⟩
  rw[PY k,show(0#64)=below 0 from O];exact ME J J
 .rw[ew,aX J]
  exact⟨by rw[PZ k];exact zero_sub _,fun a _=>zero_sub a⟩
 .rw[ew,aX J]
  refine⟨?_,fun a _=>zero_sub a⟩
  rw[P0 k]
  refine ID hr (rq fun z=> ?_)
  rw[vF]
  cases hc:hasB (gh f.rel 0#64) z with
  |false=>rfl
  |true=>
   obtain⟨o,x,p,y,-,-,-,h4⟩:=(jI hr _ z).1 hc
   rw[vF]at h4;cases h4
 have ht:=J6 h k
 have he:=amk ht.l
 rw[ew,aT J]
 refine⟨MF h k he.2.1,fun a ha=> ?_⟩
 obtain⟨i,hi,rfl⟩:=me h k ha
 rw[YU h k he.2.1 hi];exact he.2.2 i hi.1 hi.2
theorem qA{s:Sh}{e:El}(h:cJ s e=true):mA s=true/\∀i:Nat,i<8->(((i:Int)<s.aZ.length->kC (s.aZ.getD i vJ) (e i)=true)/\(¬(i:Int)<s.aZ.length->e i=0#64)):=by
 rw[cJ,cM,iR]at h
 refine⟨h.1,fun i hi=> ?_⟩
 have:=h.2 (i:Int) (cK.2 J)
 rw[eC]at this
 split at this
 .rename_i h3;exact⟨fun _=>this,fun h4=>absurd h3 h4⟩
 rename_i h3;exact⟨fun h4=>absurd h4 h3,fun _=>Lr this⟩
theorem Sv{s:Sh}{e:El}(h:mA s=true)(hf:∀i:Nat,i<8->(((i:Int)<s.aZ.length->kC (s.aZ.getD i vJ) (e i)=true)/\(¬(i:Int)<s.aZ.length->e i=0#64))):cJ s e=true:=
 MC h (k:=8) J fun j j0 j1=>by
  have:=hf j.toNat J
  rw[gk j0]at this;exact this
theorem p7{a b:El}:cS a b=true↔∀i:Nat,i<8->eu (a i) (b i)=true:=by grind[cS,List.all_eq_true,cK,Int.toNat_natCast]
theorem MG{s:Sh}{a b:El}{i:Nat}(h:(i:Int)<s.aZ.length):eo s a b i=xf (s.aZ.getD i vJ) (a i) (b i):=by simp_all[Sh,El,eo,xf,vJ,US]
theorem II{s:Sh}{a b:El}{i:Nat}(h:¬(i:Int)<s.aZ.length):eo s a b i=a i|||b i:=by
 show US s a b i=_
 rw[US,aT (fun hc=>h hc.1)]
theorem CC{s:Sh}(h:mA s=true){i:Nat}(hi:(i:Int)<s.aZ.length):cZ (s.aZ.getD i vJ)=true:=by grind[PC,Int.toNat_natCast]
section elems
variable{s:Sh}{a b c:El}(ha:cJ s a=true)(hb:cJ s b=true)(hc:cJ s c=true)
include ha hb
theorem IJ:cJ s (eo s a b)=true:=by grind[qA,Sv,MG,arJ,CC,II]
theorem arL:cJ s (o7 a b)=true:=by grind[cJ,o7,qA,Sv,arK,CC]
theorem YV:cS a (eo s a b)=true/\cS b (eo s a b)=true:=by grind[qA,p7,MG,aDy,CC,II,Im,Gu]
include hc
theorem abl(h1:cS a c=true)(h2:cS b c=true):cS (eo s a b) c=true:=by grind[qA,p7,MG,awy,CC,II,YT]
end elems
theorem arM(a b:El):cS (o7 a b) a=true/\cS (o7 a b) b=true:=by simp_all[El,cS,o7,p7,Gk,ag6]
theorem awz{a b c:El}(h1:cS c a=true)(h2:cS c b=true):cS c (o7 a b)=true:=by simp_all[El,cS,o7,p7,amo]
theorem YW{a b:El}(h1:cS a b=true)(h2:cS b a=true):rR a b:=fun i hi=>UX (p7.1 h1 i hi) (p7.1 h2 i hi)
theorem Sw{s:Sh}{f:Fc->BitVec 64}{i:Nat}(h:mA s=true)(hi:(i:Int)<s.aZ.length):gJ s f i=f (s.aZ.getD i vJ):=aX ⟨h,hi⟩
theorem UY{s:Sh}{f:Fc->BitVec 64}{i:Nat}(hi:¬(i:Int)<s.aZ.length):gJ s f i=0#64:=aT fun h=>hi h.2
theorem P3{s:Sh}(h:mA s=true):cJ s (gJ s ew)=true/\∀a,cJ s a=true->cS (gJ s ew) a=true:=by grind[Sv,UY,p7,Sw,amp,CC,qA,zero_sub]
def MH(r:Rl)(k:Int):Nat:=((List.range 65).filter fun v=>decide (1<=v)&&hasB (zw r v) k).length
theorem adI{r:Rl}(ho:gx r=true){k:Int}(hk:0<=k/\k<pts r):∀m:Nat,hasB (zw r m) k=true->(∀v,m<v->hasB (zw r v) k=false)->MH r k=m:=fun m hm hno=>by
 have hp:=dA r
 have hlt:=agL ho hm
 have e:((List.range 65).filter fun v=>decide (1<=v)&&hasB (zw r v) k)=(List.range m).map (· +1):=by
  have h1:List.range 65=0::((List.range m).map (· +1)++(List.range (64-m)).map (· +(m+1))):=by
   rw[show 65=(m+(64-m))+1 by omega,XF,Yb,gV,RI]
   simp only[Lv,true_and]
   congr 1
   refine HK fun x _=> ?_
   simp only[Function.comp];omega
  rw[h1,zE aJ,Rr]
  have h2:((List.range m).map (· +1)).filter (fun v=>decide (1<=v)&&hasB (zw r v) k)=(List.range m).map (· +1):=by
   rw[List.filter_eq_self]
   intro v hv
   rw[fZ]at hv
   obtain⟨x,hx,rfl⟩:=hv
   rw[qv]at hx
   rw[UD (show x+1<=m by omega) hm];simp
  have h3:((List.range (64-m)).map (· +(m+1))).filter (fun v=>decide (1<=v)&&hasB (zw r v) k)=[]:=by
   rw[List.filter_eq_nil_iff]
   intro v hv
   rw[fZ]at hv
   obtain⟨x,-,rfl⟩:=hv
   rw[hno _ J];simp
  rw[h2,h3,mY]
 rw[MH,e,gF,Rt]
theorem Sy{r:Rl}(ho:gx r=true){k:Int}(hk:0<=k/\k<pts r):∃m:Nat,hasB (zw r m) k=true/\(∀v,m<v->hasB (zw r v) k=false)/\MH r k=m:=by
 have hp:=dA r
 have h0:hasB (zw r 0) k=true:=(l6 _ _).2 J
 have key:∀n:Nat,(∃m,m<=n/\hasB (zw r m) k=true/\∀v,m<v->v<=n->hasB (zw r v) k=false):=fun n=>by
  induction n with
  |zero=>exact⟨0,fh _,h0,fun v h1 h2=>J⟩
  |succ n ih=>
   obtain⟨m,h1,h2,h3⟩:=ih
   cases hc:hasB (zw r (n+1)) k with
   |true=>exact⟨n+1,fh _,hc,fun v h4 h5=>J⟩
   |false=>
    refine⟨m,J,h2,fun v h4 h5=> ?_⟩
    by_cases he:v=n+1
    .rw[he];exact hc
    exact h3 v h4 J
 obtain⟨m,h1,h2,h3⟩:=key 64
 have hno:∀v,m<v->hasB (zw r v) k=false:=fun v hv=>by
  by_cases hv2:v<=64
  .exact h3 v hv hv2
  .cases hc:hasB (zw r v) k with
   |false=>rfl
   |true=>have:=agL ho hc;omega
 exact⟨m,h2,hno,adI ho hk m h2 hno⟩
theorem amq{r:Rl}(ho:gx r=true){i j:Int}(h:bL r i j=true)(hne:j≠i):MH r i<MH r j:=by
 have hb:=kI h
 obtain⟨m,h1,h2,h3⟩:=Sy ho hb.1
 obtain⟨m',h4,h5,h6⟩:=Sy ho hb.2
 rw[h3,h6]
 have h7:=agK m h1 h hne
 by_cases hle:m'<=m
 .rw[h5 (m+1) J]at h7;cases h7
 omega
theorem adJ{r:Rl}(ho:gx r=true){k:Int}(hk:0<=k/\k<pts r):(MH r k:Int)<=(aba r).1:=by
 obtain⟨m,h1,h2,h3⟩:=Sy ho hk
 obtain⟨t,h4,h5,h6⟩:=Iu ho 65 0 O (.inl O)
 have h4':Ml r 65 (below (pts r)) 0=(t:Int):=h4
 rw[aba,aX ho,h4',h3]
 by_cases hle:m<=t
 .show(m:Int)<=t;omega
 have:=UD (show t+1<=m by omega) h1
 rw[h5,vF]at this;cases this
def vN(f:Fc)(w:BitVec 64):Nat:=if f.kind=3 then((upto 64).filter fun i=>Mz f.rel i&&hasB w i).length else if f.kind=4 then MH f.rel (eX f.rel w).1 else(gL w).length
theorem filter_lt{A B:Int->Bool}:∀l:List Int,(∀x∈l,A x=true->B x=true)->(∃x∈l,B x=true/\A x=false)->(l.filter A).length<(l.filter B).length
 |[],_,h=>by obtain⟨x,hx,_⟩:=h;simp at hx
 |y::l,h1,h2=>by
  have hle:∀m:List Int,(∀x∈m,A x=true->B x=true)->(m.filter A).length<=(m.filter B).length:=fun m hm=>by
   induction m with
   |nil=>simp
   |cons z m ih=>
    have:=ih fun x hx=>hm x q7
    have hz:=hm z aJ
    cases ha:A z with
    |true=>rw[xJ ha,xJ (hz ha)];simp;omega
    |false=>
     rw[zE (by simp[ha])]
     cases hb:B z with
     |true=>rw[xJ hb];simp;omega
     |false=>rw[zE (by simp[hb])];exact this
  have hl:=hle l fun x hx=>h1 x q7
  have hy:=h1 y aJ
  obtain⟨x,hx,hbx,hax⟩:=h2
  rcases c8.1 hx with rfl|hx
  .rw[zE (by simp[hax]),xJ hbx];simp;omega
  have ih:=filter_lt l (fun z hz=>h1 z (by simp[hz])) ⟨x,hx,hbx,hax⟩
  cases ha:A y with
  |true=>rw[xJ ha,xJ (hy ha)];simp;omega
  |false=>
   rw[zE (by simp[ha])]
   cases hb:B y with
   |true=>rw[xJ hb];simp;omega
   |false=>rw[zE (by simp[hb])];exact ih
theorem arN{a b:BitVec 64}(h:eu a b=true)(hne:a≠b):∃j:Int,hasB b j=true/\hasB a j=false:=by grind[UX,eU,hasB]
theorem MI{r:Rl}(h:cV r=true){w:BitVec 64}(hw:gh r w=w){o x p y:Int}(h1:bL r o p=true)(h2:bL r x y=true)(h3:hasB w (8*p+y)=true):hasB w (8*o+x)=true:=by grind[jI]
theorem UZ{f:Fc}(h:cZ f=true){a b:BitVec 64}(ha:kC f a=true)(hb:kC f b=true)(hs:eu a b=true)(hne:a≠b):vN f a<vN f b:=by
 obtain⟨j,hj1,hj2⟩:=arN hs hne
 by_cases k3:f.kind=3
 .have hr:cV f.rel=true:=by
   rcases vM h with k|k|⟨-,hr⟩|k
   .omega
   .omega
   .exact hr
   omega
  rw[P0 k3]at ha hb
  have ca:=(u5 ha).2;have cb:=(u5 hb).2
  rw[vN,vN,aX k3,aX k3]
  refine filter_lt _ (fun x _ hx=> ?_) ?_
  .rw[cM]at hx⊢;exact⟨hx.1,eU.1 hs x hx.2⟩
  have hsp:=eY hr
  have awA:=hj1
  rw[<-cb]at awA
  obtain⟨o,x,p,y,rfl,h1,h2,-⟩:=(jI hr b j).1 awA
  have b1:=Bz hr h1;have b2:=Bz hr h2
  obtain⟨q,q1,q2,q3,q4⟩:=YP hr o.toNat o J b1.1.1 b1.1.2
  obtain⟨t,t1,t2,t3,t4⟩:=YP hr x.toNat x J b2.1.1 b2.1.2
  have nq:=(My hr q).1 q2;have nt:=(My hr t).1 t2
  refine⟨8*q+t,cK.2 J,?_,?_⟩
  .rw[Mz,show(8*q+t)/8=q by omega,show(8*q+t)%8=t by omega,q2,t2,MI hr cb q4 t4 hj1];rfl
  .cases hc:hasB a (8*q+t)with
   |false=>simp
   |true=>rw[MI hr ca q3 t3 hc]at hj2;cases hj2
 by_cases k4:f.kind=4
 .obtain⟨i,hi,rfl⟩:=me h k4 ha
  obtain⟨m,hm,rfl⟩:=me h k4 hb
  have ht:=J6 h k4
  have ho:=(jv ht.l).2.1
  rw[YU h k4 hi hm]at hs
  rw[vN,vN,aT k3,aT k3,aX k4,aX k4,vH ho (by rw[ht.n];exact hi),vH ho (by rw[ht.n];exact hm)]
  exact amq ho hs fun e=>hne (by have e2:m=i:=e;rw[e2])
 rw[vN,vN,aT k3,aT k3,aT k4,aT k4]
 exact agH (eU.1 hs) hj1 hj2
theorem P4{k:Int}(h0:0<=k)(h:k<=64):(gL (below k)).length=k.toNat:=by
 have e:gL (below k)=upto k:=zZ (qe _) (xd _) fun x=>by rw[fD,l6,cK];omega
 rw[e,m7]
theorem ag9{f:Fc}(h:cZ f=true){a:BitVec 64}(ha:kC f a=true):(vN f a:Int)<=yM f:=by
 have hn:=(pG h).1
 rcases vM h with k|k|⟨k,hr⟩|k
 .rw[PY k]at ha
  obtain⟨-,i,hi,rfl⟩:=CB ha
  rw[vN,aT J,aT J,yM,aX k,P4 hi.1 J];omega
 .rw[PZ k]at ha
  rw[vN,aT J,aT J,yM,aT J,aX k]
  have:=Ir (gL a) (gL (below f.names.length)) (It a) fun x hx=>(fD _ _).2 (eU.1 ha x ((fD _ _).1 hx))
  rw[P4 J J]at this;omega
 .rw[vN,aX k,yM,aT J,aT J,aX k,<-adF hr O,arD,gF]
  have:∀l:List Int,(l.filter fun i=>Mz f.rel i&&hasB a i).length<=(l.filter (Mz f.rel)).length:=fun l=>by
   induction l with
   |nil=>simp
   |cons z l ih=>
    cases hg:Mz f.rel z with
    |true=>
     rw[xJ hg]
     cases hz:hasB a z with
     |true=>rw[xJ (by simp[hg,hz])];simp;omega
     |false=>rw[zE (by simp[hz])];simp;omega
    |false=>rw[zE (by simp[hg]),zE (by simp[hg])];exact ih
  have:=this (upto 64)
  omega
 obtain⟨i,hi,rfl⟩:=me h k ha
 have ht:=J6 h k
 have ho:=(jv ht.l).2.1
 rw[vN,aT J,aX k,yM,aT J,aT J,aT J,vH ho (by rw[ht.n];exact hi)]
 exact adJ ho (by rw[ht.n];exact hi)
def Fx(s:Sh)(e:El)(k:Int):Int:=((upto k).map fun i=>(vN (s.aZ.getD i.toNat vJ) (e i.toNat):Int)).sum
def m9(s:Sh)(e:El):Int:=Fx s e s.aZ.length
theorem Sz{F G:Int->Int}:∀l:List Int,(∀x∈l,F x<=G x)->(l.map F).sum<=(l.map G).sum
 |[],_=>by simp
 |y::l,h=>by
  have:=Sz l fun x hx=>h x q7
  have:=h y aJ
  simp;omega
theorem aha{F G:Int->Int}:∀l:List Int,(∀x∈l,F x<=G x)->(∃x∈l,F x<G x)->(l.map F).sum<(l.map G).sum
 |[],_,h=>by obtain⟨x,hx,_⟩:=h;simp at hx
 |y::l,h,h2=>by
  have hle:=Sz l fun x hx=>h x q7
  have hy:=h y aJ
  obtain⟨x,hx,U0⟩:=h2
  rcases c8.1 hx with rfl|hx
  .simp;omega
  have:=aha l (fun z hz=>h z (by simp[hz])) ⟨x,hx,U0⟩
  simp;omega
theorem ahb(s:Sh)(e:El):0<=m9 s e:=by
 have:=Sz (F:=fun _=>0) (G:=fun i=>(vN (s.aZ.getD i.toNat vJ) (e i.toNat):Int)) (upto s.aZ.length) fun x _=>by omega
 rw[m9,Fx]
 refine LC ?_ this
 have hz:∀l:List Int,(l.map fun _=>(0:Int)).sum=0:=fun l=>by
  induction l with
  |nil=>rfl
  |cons y l ih=>rw[lT,E8,ih];rfl
 rw[hz];exact lY _
theorem ahc{s:Sh}{e:El}(h:cJ s e=true):m9 s e<=gK s:=by
 have hf:=qA h
 have hs:=n4 hf.1
 rw[gK,aX hf.1,m9,Fx,CA]
 refine Sz _ fun x hx=> ?_
 have:=cK.1 hx
 have h2:=(hf.2 x.toNat J).1 J
 exact ag9 (CC hf.1 J) h2
theorem ahd{s:Sh}{a b:El}(ha:cJ s a=true)(hb:cJ s b=true)(hl:cS a b=true)(hne:¬rR b a):m9 s a<m9 s b:=by
 have fa:=qA ha;have fb:=qA hb
 have hs:=n4 fa.1
 rw[p7]at hl
 have hex:∃i:Nat,i<8/\b i≠a i:=Lj fun hno=>hne fun i hi=>Lj fun h=>hno ⟨i,hi,h⟩
 obtain⟨i,hi,hd⟩:=hex
 have hin:(i:Int)<s.aZ.length:=Lj fun h=>hd (by rw[(fb.2 i hi).2 h,(fa.2 i hi).2 h])
 rw[m9,m9,Fx,Fx]
 refine aha _ (fun x hx=> ?_) ⟨i,cK.2 J,?_⟩
 .have:=cK.1 hx
  have hx8:x.toNat<8:=J
  have U0:((x.toNat:Nat):Int)<s.aZ.length:=J
  by_cases he:a x.toNat=b x.toNat
  .rw[he];exact lY _
  have:=UZ (CC fa.1 U0) ((fa.2 _ hx8).1 U0) ((fb.2 _ hx8).1 U0) (hl _ hx8) he
  omega
 rw[eC]
 have:=UZ (CC fa.1 hin) ((fa.2 i hi).1 hin) ((fb.2 i hi).1 hin) (hl i hi) (fun e=>hd e.symm)
 omega
theorem MJ{f:Fc}(h:ir f.names=false):cZ f=false:=by rw[cZ,h];rfl
theorem YX{f:Fc}(h:ir f.names=true)(hk:f.kind=1\/f.kind=2):cZ f=decide (pts f.rel=0):=by grind[cZ]
theorem abm{f:Fc}(h:ir f.names=true)(hk:f.kind=1\/f.kind=2):cZ f=decide ((eI f.rel).eq (eI Rl.none)):=by grind[YX,adH]
theorem awB{f:Fc}(h:ir f.names=true)(hk:f.kind=3):cZ f=(decide (f.rel.n=f.names.length)&&cV f.rel):=by grind[cZ]
theorem awC{f:Fc}(h:ir f.names=true)(hk:f.kind=4):cZ f=(decide (f.rel.n=f.names.length)&&tj f.rel):=by grind[cZ]
theorem ape{f:Fc}(h1:¬f.kind=1)(h2:¬f.kind=2)(h3:¬f.kind=3)(h4:¬f.kind=4):cZ f=false:=by grind[cZ]
theorem ahe{f:Fc}(hk:f.kind=3)(h:¬f.rel.n=f.names.length):cZ f=false:=by grind[cZ]
theorem ahf{f:Fc}(hk:f.kind=4)(h:¬f.rel.n=f.names.length):cZ f=false:=by grind[cZ]
theorem ahg{f:Fc}(h:ir f.names=true)(hk:f.kind=3)(hn:f.rel.n=f.names.length):cZ f=cV f.rel:=by grind[awB]
theorem ahh{f:Fc}(h:ir f.names=true)(hk:f.kind=4)(hn:f.rel.n=f.names.length):cZ f=tj f.rel:=by grind[awC]
theorem apf{f:Fc}(h1:¬f.kind=1)(h2:¬f.kind=2)(h3:¬f.kind=3)(w:BitVec 64):kC f w=(eX f.rel w).2:=by grind[kC]
theorem arO{f:Fc}(h:cZ f=true)(hk:f.kind=3)(w:BitVec 64):kC f w=decide (gh f.rel w=w):=by grind[P0,p6,vM]
theorem amr{f:Fc}(h:cZ f=true):0<=yM f/\yM f<=64:=by
 have hn:=(pG h).1
 rcases(pG h).2 with k|k|⟨k,k2,k3⟩|⟨k,k2,k3⟩
 .rw[yM,aX k.1];omega
 .rw[yM,aT J,aX k.1];omega
 .rw[yM,aT J,aT J,aX k,<-Mv k3]
  have hs:=eY k3
  have hb:= @arz f.rel (pts f.rel) J
  have h1:0<=Bb f.rel (pts f.rel)*Bb f.rel (pts f.rel):=Int.mul_nonneg hb.1 hb.1
  have h2:Bb f.rel (pts f.rel)*Bb f.rel (pts f.rel)<=8*8:=Int.mul_le_mul J J hb.1 J
  omega
 rw[yM,aT J,aT J,aT J]
 obtain⟨m,h1,-,h3⟩:=Iu (jv k3).2.1 65 0 O (.inl O)
 have h1':Ml f.rel 65 (below (pts f.rel)) 0=(m:Int):=h1
 rw[aba,aX (jv k3).2.1,h1']
 have hp:=dA f.rel
 rcases h3 with h3|h3
 .subst h3;exact⟨lY _,J⟩
 have:=KK (jv k3).2.1 m h3
 have:=abb h3
 show 0<=(m:Int)/\(m:Int)<=64
 omega
theorem SA{s:Sh}(h:mA s=true):∀k:Nat,(k:Int)<=s.aZ.length->0<=CA s k/\CA s k<=64*k
 |0,_=>⟨lY _,lY _⟩
 |k+1,hk=>by
  have ih:=SA h k J
  have h1:=ag4 (s:=s) (k:=(k:Int)) J
  have h2:=amr (PC h (k:=(k:Int)) J J)
  have h3:CA s ((k+1:Nat):Int)=CA s ((k:Int)+1):=rfl
  rw[h3,<-h1];omega
theorem ams{s:Sh}(h:mA s=true){k:Int}(k0:0<=k)(hk:k<=s.aZ.length):0<=CA s k/\CA s k<=512:=by
 have h1:=SA h k.toNat J
 have h2:=(n4 h).1
 rw[gk k0]at h1;omega
theorem U1{s:Sh}{f:Fc->BitVec 64}{k:Int}(hk:k=s.aZ.length):rR (m8 (gJ s f) dg k) (gJ s f):=fun i hi=>by
 unfold m8
 by_cases h:(i:Int)<k
 .rw[aX h]
 rw[aT h,UY J];rfl
theorem abn{s:Sh}{f:Fc->BitVec 64}(h:mA s=false):rR dg (gJ s f):=fun i hi=>by
 rw[gJ,aT (by rw[h];simp)];rfl
theorem CD{s:Sh}{f:Fc->BitVec 64}{e:El}{k:Int}(h:mA s=true)(he:e=m8 (gJ s f) dg k)(k0:0<=k)(k1:k<s.aZ.length):tB e k.toNat (f (s.aZ.getD k.toNat vJ))=m8 (gJ s f) dg (k+1):=by grind[uO,Sw]
theorem adK{s:Sh}{f:Fc->BitVec 64}{e:El}{k:Int}(h:mA s=true)(he:e=m8 (gJ s f) dg k)(k0:0<=k)(k1:k<s.aZ.length)(hf:f (s.aZ.getD k.toNat vJ)=0#64):e=m8 (gJ s f) dg (k+1):=by
 subst he
 funext i
 unfold m8
 by_cases h1:(i:Int)<k
 .rw[aX h1,aX J]
 rw[aT h1]
 by_cases h2:(i:Int)<k+1
 .rw[aX h2,show i=k.toNat by omega,Sw h J,hf];rfl
 rw[aT h2]
theorem ahi{a b e:El}{k:Int}(he:e=m8 (o7 a b) a k)(k0:0<=k):tB e k.toNat (e k.toNat&&&b k.toNat)=m8 (o7 a b) a (k+1):=by
 subst he
 exact uO k0 (by rw[YS k0];rfl)
theorem adL{a b e:El}{k:Int}(he:e=m8 (o7 a b) dg k)(k0:0<=k):tB e k.toNat (a k.toNat&&&b k.toNat)=m8 (o7 a b) dg (k+1):=by
 subst he
 exact uO k0 O
theorem amt(e:El)(i:Nat)(x y:BitVec 64):tB (tB e i x) i y=tB e i y:=by grind[tB]
theorem abo{s:Sh}{a b:El}{k:Int}(k0:0<=k)(k1:k<s.aZ.length)(h4:(s.aZ.getD k.toNat vJ).kind=4):eo s a b k.toNat=ju (s.aZ.getD k.toNat vJ).rel (a k.toNat) (b k.toNat):=aX ⟨J,h4⟩
theorem abp{s:Sh}{a b:El}{k:Int}(k0:0<=k)(h:¬(k<s.aZ.length/\(s.aZ.getD k.toNat vJ).kind=4)):eo s a b k.toNat=a k.toNat|||b k.toNat:=aT fun hc=>h ⟨J,hc.2⟩
def IK(t:Bool):Fc->BitVec 64:=if t=true then Fw else ew
theorem ahj:IK false=ew:=rfl
theorem YY:IK true=Fw:=rfl
theorem awD{f:Fc}{t:Bool}(h:f.kind=4):bQ f.rel (wK f.rel (if t=true then bQ f.rel else gy f.rel)).1=IK t f:=by
 cases t with
 |true=>
  show bQ f.rel (wK f.rel (bQ f.rel)).1=Fw f
  rw[Fw,aT J,aT J,aT J]
 |false=>
  show bQ f.rel (wK f.rel (gy f.rel)).1=ew f
  rw[ew,aT J]
theorem awE{f:Fc}{t:Bool}(ht:t=true)(h:f.kind=3):J5 f.rel=IK t f:=by simp_all[YY,Fw]
theorem awF{f:Fc}{t:Bool}(ht:t=true)(h:f.kind=2):below f.names.length=IK t f:=by simp_all[YY,Fw]
theorem end_1{f:Fc}{t:Bool}(hf:cZ f=true)(ht:t=true)(h2:¬f.kind=2)(h3:¬f.kind=3)(h4:¬f.kind=4):below (f.names.length-1)=IK t f:=by
 subst ht
 have hn:=(pG hf).1
 rcases vM hf with k|k|k|k
 .rw[YY,Fw,aX k,awm,aX J]
 .exact absurd k h2
 .exact absurd k.1 h3
 exact absurd k h4
theorem awG{f:Fc}{t:Bool}(ht:t=false)(h4:¬f.kind=4):IK t f=0#64:=by simp_all[ahj,ew]
def O5(l:List Tx):Bool:=decide (70<l.length)||l.any fun t=>decide (40<t.size)
def U2(s:Sh):Bool:=decide (12<s.aZ.length)||s.aZ.any fun f=>O5 f.names
theorem awH{s:Sh}(h:12<s.aZ.length):U2 s=true:=by grind[U2]
theorem apg{s:Sh}{k:Int}(k0:0<=k)(k1:k<s.aZ.length)(h:O5 (s.aZ.getD k.toNat vJ).names=true):U2 s=true:=by
 rw[U2,qa,E4]
 exact .inr ⟨_,lR (fF (d:=vJ) k0 k1),h⟩
theorem arP{l:List Tx}(h:70<l.length):O5 l=true:=by grind[O5]
theorem arQ{l:List Tx}{k:Int}(k0:0<=k)(k1:k<l.length)(h:40<(l.getD k.toNat qg).size):O5 l=true:=by
 rw[O5,qa,E4]
 exact .inr ⟨_,lR (fF (d:=qg) k0 k1),gW h⟩
theorem amu{l:List Tx}{k:Int}(h:¬70<l.length)(hk:¬k<l.length)(hf:∀j:Int,0<=j->j<k->¬40<(l.getD j.toNat qg).size):O5 l=false:=by
 rw[O5,gZ h,Bool.false_or,XX]
 intro x hx
 obtain⟨i,hi,rfl⟩:=uf hx
 have:=hf i J J
 rw[eC,eT,eF hi]at this
 simpa using this
theorem arR{s:Sh}{k:Int}(h:¬12<s.aZ.length)(hk:¬k<s.aZ.length)(hf:∀j:Int,0<=j->j<k->O5 (s.aZ.getD j.toNat vJ).names=false):U2 s=false:=by
 rw[U2,gZ h,Bool.false_or,XX]
 intro x hx
 obtain⟨i,hi,rfl⟩:=uf hx
 have:=hf i J J
 rw[eC,eT,eF hi]at this
 simpa using this
end Go.Proofs.YtlhjdflgjbkpmaaGreatDoor.M
namespace Go.Proofs.YtlhjdflgjbkpmaaGreatDoor.E
section
open Go Go.RowKit Go.Proofs.YtlhjdflgjbkpmaaGreatDoor.M
theorem adM{s:kR}{a b e:El}{k:Int}(he:e=m8 (eo s.sh a b) a k)(k0:0<=k)(k1:k<s.aZ.length)(h4:(s.aZ.getD k.toNat iB).kind=4):tB e k.toNat (ju (s.aZ.getD k.toNat iB).rel (e k.toNat) (b k.toNat))=m8 (eo s.sh a b) a (k+1):=by
 subst he
 exact uO k0 (by rw[YS k0,abo k0 (by rw[pw];exact k1) (by rw[iF];exact h4),iF];rfl)
theorem P5{s:kR}{a b e:El}{k:Int}(he:e=m8 (eo s.sh a b) a k)(k0:0<=k)(h:¬(k<s.aZ.length/\(s.aZ.getD k.toNat iB).kind=4)):tB e k.toNat (e k.toNat|||b k.toNat)=m8 (eo s.sh a b) a (k+1):=by
 subst he
 exact uO k0 (by rw[YS k0,abp k0 (by rw[pw,iF];exact h)])
theorem YZ{s:kR}{a b e:El}{k:Int}{x:BitVec 64}(he:e=m8 (eo s.sh a b) dg k)(k0:0<=k)(k1:k<s.aZ.length)(h4:(s.aZ.getD k.toNat iB).kind=4):tB (tB e k.toNat x) k.toNat (ju (s.aZ.getD k.toNat iB).rel (a k.toNat) (b k.toNat))=m8 (eo s.sh a b) dg (k+1):=by
 subst he
 rw[amt]
 exact uO k0 (by rw[abo k0 (by rw[pw];exact k1) (by rw[iF];exact h4),iF];rfl)
theorem MK{s:kR}{a b e:El}{k:Int}(he:e=m8 (eo s.sh a b) dg k)(k0:0<=k)(h:¬(k<s.aZ.length/\(s.aZ.getD k.toNat iB).kind=4)):tB e k.toNat (a k.toNat|||b k.toNat)=m8 (eo s.sh a b) dg (k+1):=by
 subst he
 exact uO k0 (by rw[abp k0 (by rw[pw,iF];exact h)])
def yd(s:kR):List Value:=[B s.tuple,s.fv]
theorem ML(s:kR):(yd s).length=2:=rfl
def D2:kR:=⟨false,.slice none 0 0,[]⟩
structure P6(K:Vu)(l:List kR):Prop where
 each:∀s∈l,k8 K s
theorem P6.at{K:Vu}{l:List kR}(h:P6 K l){k:Int}(h0:0<=k)(h1:k<l.length):k8 K (l.getD k.toNat D2):=h.each _ (lR (fF (d:=D2) h0 h1))
theorem P6.mono{K K':Vu}{l:List kR}(h:P6 K l)(hl:Le K K'):P6 K' l:=⟨fun s hs=>(h.each s hs).mono hl⟩
structure tD(K:Vu)(l:List qz):Prop where
 each:∀f∈l,wL K f
theorem tD.mono{K K':Vu}{l:List qz}(h:tD K l)(hl:Le K K'):tD K' l:=⟨fun s hs=>(h.each s hs).mono hl⟩
theorem tD.nil(K:Vu):tD K []:=⟨fun f hf=>by simp at hf⟩
theorem tD.snoc{K:Vu}{l:List qz}{f:qz}(h:tD K l)(hf:wL K f):tD K (l++[f]):=⟨fun x hx=>by
 rcases e8.1 hx with hx|hx
 .exact h.each x hx
 simp at hx;subst hx;exact hf⟩
theorem tD.app{K:Vu}{l m:List qz}(h:tD K l)(hf:tD K m):tD K (l++m):=⟨fun x hx=>by
 rcases e8.1 hx with hx|hx
 .exact h.each x hx
 exact hf.each x hx⟩
theorem tD.at{K:Vu}{l:List qz}(h:tD K l){k:Int}(h0:0<=k)(h1:k<l.length):wL K (l.getD k.toNat iB):=h.each _ (lR (fF (d:=iB) h0 h1))
def Bd(l:List kR):List Fc:=l.flatMap fun s=>s.sh.aZ
theorem adN{l:List kR}{k:Int}(h0:0<=k)(h1:k<l.length):Bd (l.take (k+1).toNat)=Bd (l.take k.toNat)++(l.getD k.toNat D2).sh.aZ:=by
 have h2:k.toNat<l.length:=J
 rw[show(k+1).toNat=k.toNat+1 by omega,xM,Bd,Gb,eT,eF h2]
 simp[Bd]
theorem ahk{l:List kR}{k:Int}(h:¬k<l.length):Bd (l.take k.toNat)=Bd l:=by grind[List.take_of_length_le]
theorem IL{l:List qz}{k:Int}(h0:0<=k)(h1:k<l.length):(l.take (k+1).toNat).map qz.fc=(l.take k.toNat).map qz.fc++[(l.getD k.toNat iB).fc]:=by
 have h2:k.toNat<l.length:=J
 rw[show(k+1).toNat=k.toNat+1 by omega,xM,gV,eT,eF h2]
 simp
theorem amv{b:Bool}{v:Value}(h:v.oneCell'=true):∀u∈(#[B b,v]:Array Value),u.oneCell'=true:=fun u hu=>by
 simp only[Lu,c8,List.not_mem_nil,Ce]at hu
 rcases hu with rfl|rfl
 .rfl
 exact h
theorem amw{Z L:List bu}{i:Nat}{x:bu}(h:L[i]?=some x):(Z++L)[Z.length+i]?=some x:=by grind
theorem MM{K:Vu}{f:qz}(h:wL K f):∀u∈[f].flatMap sI,u.oneCell'=true:=by simpa using UU h
theorem adO{K:Vu}{f:qz}{v:Value}(h:wL K f)(hv:v.oneCell'=true):∀u∈sI {f with nv:=v},u.oneCell'=true:=by
 intro u hu
 rw[sI,c8,c8]at hu
 rcases hu with rfl|rfl|hu
 .rfl
 .exact hv
 exact Me f.rel u (by rw[jt];simpa using hu)
section runs
variable{P:Program}{σ:Env}{w:World}{dst:Option Tmp}{ty t u e:TypeId}{pos:String}{bO:Array Edge}{g:Option (Nat×Bool)}{x y:Operand}{b:Nat}{fr:Nat×Nat}
theorem Y0{f f0:qz}(h:∀u∈sI f,u.oneCell'=true)(hi:(P.info? t).map (·.size)=some 67)(hx:ev σ x= .pointer (some ⟨b,0,none⟩))(hy:ev σ y= .agg (uP f))(hg:w.heap[b]?=some (.cells (uP f0) e (0,0))):
 (execOp (ev σ) ⟨dst,.store t x y,ty,pos,bO,g⟩).run P w= .ok .skip (w.setRow b (uP f)):=by grind[dO,fB]
theorem Y1{f:qz}{v:Value}(hi:(P.info? t).map (·.size)=some 1)(hx:ev σ x= .pointer (some ⟨b,0+1,none⟩))(hy:ev σ y=v)(hv:v.cells=#[v])(h1:v.oneCell'=true)(hg:w.heap[b]?=some (.cells (uP f) e (0,0))):
  (execOp (ev σ) ⟨dst,.store t x y,ty,pos,bO,g⟩).run P w= .ok .skip (w.setRow b (uP {f with nv:=v})):=by
 have h:=bM (P:=P) (dst:=dst) (ty:=ty) (pos:=pos) (bO:=bO) (g:=g) hi hx hy hv h1 hg (by simp[fB])
 rw[h];congr 2
theorem ahl{K:Vu}{s:kR}(h:k8 K s):∀u∈qL s,u.oneCell'=true:=by
 intro u hu
 have h1:=l9 h.aZ
 simp at hu
 rcases hu with rfl|rfl
 .rfl
 exact h1.1
theorem DN{K:Vu}{s:kR}{c:Array Value}(h:k8 K s)(hi:(P.info? t).map (·.size)=some 2)(hx:ev σ x= .pointer (some ⟨b,0,none⟩))(hy:ev σ y= .agg (qL s))(hg:w.heap[b]?=some (.cells c e (0,0)))(hc:c.size=2):
 (execOp (ev σ) ⟨dst,.store t x y,ty,pos,bO,g⟩).run P w= .ok .skip (w.setRow b (qL s)):=by grind[dO,ahl]
theorem Ab{len:Nat}{ps:List (Nat×Operand)}{l:List qz}{ie:TypeInfo}{z:Value}
  (hu:P.underlying t=some (.slice e)) (hie:P.info? e=some ie) (hz:ie.zero=some z) (hsz:ie.size=67) (hl:l.length=len) (hsmall:¬len*67>2^24) (hpos:¬len*67=0)
  (h:ps.map (fun p=>(p.1,ev σ p.2))=((l.map fun f=>Value.agg (uP f)).zipIdx.map fun p=>(p.2,p.1))):
  (execOp (ev σ) ⟨dst,.buildSlice t len ps.toArray,ty,pos,bO,g⟩).run P w= .ok (.value (.slice (some ⟨w.heap.size,0,none⟩) len len)) (w.alloc (.cells (l.flatMap sI).toArray e)):=by
 have h2:=cB (P:=P) (σ:=σ) (w:=w) (dst:=dst) (ty:=ty) (pos:=pos) (bO:=bO) (g:=g) (vs:=l.map fun f=>Value.agg (uP f)) (sz:=67) hu hie hz hsz (by rw[gF];exact hl) hsmall hpos h (by
  rw[iR];intro v hv
  rw[fZ]at hv
  obtain⟨r,_,rfl⟩:=hv
  simp[Value.cells,fB])
 have h3:(l.map fun f=>Value.agg (uP f)).flatMap (·.cells.toList)=l.flatMap sI:=by
  rw[X4];rfl
 rw[h3]at h2;exact h2
theorem MO{len:Nat}{ps:List (Nat×Operand)}{l:List kR}{ie:TypeInfo}{z:Value}
  (hu:P.underlying t=some (.slice e)) (hie:P.info? e=some ie) (hz:ie.zero=some z) (hsz:ie.size=2) (hl:l.length=len) (hsmall:¬len*2>2^24) (hpos:¬len*2=0)
  (h:ps.map (fun p=>(p.1,ev σ p.2))=((l.map fun f=>Value.agg (qL f)).zipIdx.map fun p=>(p.2,p.1))):
  (execOp (ev σ) ⟨dst,.buildSlice t len ps.toArray,ty,pos,bO,g⟩).run P w= .ok (.value (.slice (some ⟨w.heap.size,0,none⟩) len len)) (w.alloc (.cells (l.flatMap yd).toArray e)):=by
 have h2:=cB (P:=P) (σ:=σ) (w:=w) (dst:=dst) (ty:=ty) (pos:=pos) (bO:=bO) (g:=g) (vs:=l.map fun f=>Value.agg (qL f)) (sz:=2) hu hie hz hsz (by rw[gF];exact hl) hsmall hpos h (by
  rw[iR];intro v hv
  rw[fZ]at hv
  obtain⟨r,_,rfl⟩:=hv
  simp[Value.cells])
 have h3:(l.map fun f=>Value.agg (qL f)).flatMap (·.cells.toList)=l.flatMap yd:=by
  rw[X4];rfl
 rw[h3]at h2;exact h2
theorem Hp.iu{w0 w:World}{L:List bu}{i b:Nat}{α:Type}{cl:α->List Value}{sz:Nat}{l:List α}{e:TypeId}(hsz:∀a,(cl a).length=sz)(h:Hp w0 w L)(hi:L[i]?=some (.blk b (.cells (l.flatMap cl).toArray e (0,0))))(hs:l.length<=maxLen):
  Sl w (.slice (some ⟨b,0,none⟩) l.length l.length) sz l.length (l.flatMap cl):=by
 have h2:=h.dS (n:=l.length) (sz:=sz) hi (by rw[vb,fK hsz]) hs
 exact h2
def aDB(v:Value)(sz i j:Nat):Value:=
 match v with
 | .slice (some a) _ c=> .slice (some ⟨a.block,a.off+i*sz,none⟩) (j-i) (c-i)
 |v=>v
theorem Sl.part{v:Value}{sz n:Nat}{cells:List Value}(h:Sl w v sz n cells){i j:Nat}(hij:i<j)(hj:j<=n):Sl w (aDB v sz i j) sz (j-i) ((cells.drop (i*sz)).take ((j-i)*sz)):=by
 obtain⟨a,cap,hv,hnc,ha⟩:=h.shape
 have ha':=ha J
 subst ha'
 rw[hv]at ha⊢
 have hb1:sb v=sb (.slice (some ⟨sb v,so v,none⟩) n cap):=rfl
 refine⟨⟨_,cap-i,rfl,J,fun _=>rfl⟩,?_,fun k c hc=> ?_,by have:=h.small;omega⟩
 .have h1:i*sz+(j-i)*sz<=n*sz:=by
   rw[<-lz];exact r6 _ J
  rw[dW,yE,h.len];omega
 rw[u9]at hc
 split at hc
 .rw[B5]at hc
  have:=h.cell _ _ hc
  show w.cell? ⟨sb v,so v+i*sz+k,none⟩=some c
  rw[zH];exact this
 .cases hc
end runs
theorem Hp.amx{w0 w:World}{Z L:List bu}(h:Hp w0 w (Z++L)):Hp w0 w (L++Z):=h.perm ud
theorem U3{s:Sh}{a b:El}(hs:s.aZ.length<=8)(h:rR a b):m9 s a=m9 s b:=by
 rw[m9,m9,Fx,Fx]
 congr 1
 refine HK fun x hx=> ?_
 have:=cK.1 hx
 rw[h x.toNat J]
def aDC:List Tx:=[⟨#[97]⟩,⟨#[98]⟩,⟨#[99]⟩]
def aDD:List Tx:=[⟨#[120]⟩,⟨#[121]⟩]
def aML:Sh:=⟨true,[⟨1,aDC,Rl.none⟩,⟨2,aDD,Rl.none⟩]⟩
theorem aDE{P:Program}{n:Nat}{k:K}{xs:List (Nat×K)}{r:K}{σ:Env}{w:World}{x y:Code}(ws:List Nat)(R:K)(h:CW P n x (fun s w=>Fr ws σ s/\R s w) xs r σ w)(h':∀s w,Fr ws σ s->R s w->CW P n y k xs r s w):CW P n (.seq x y) k xs r σ w:=by grind[afY]
theorem arT{P:Program}{n:Nat}{l:List Oper}{S:World->Prop}{k:K}{σ:Env}{w:World}{fuel:Nat}{listed:Array Bool}(i j m:Nat)(hr:Region.ready .any l.toArray listed=[i,j,m])(h1:AO P n l S k fuel listed σ w i)(h2:AO P n l S k fuel listed σ w j)(h3:AO P n l S k fuel listed σ w m):AN P n l S k (fuel+1) listed σ w:=by simp_all[aa3]
section runs
variable{P:Program}{σ:Env}{w:World}{dst:Option Tmp}{ty t u e:TypeId}{pos:String}{bO:Array Edge}{g:Option (Nat×Bool)}{x y:Operand}{b:Nat}{fr:Nat×Nat}
theorem iN{d:TypeDesc}{o:Nat}{cs:Array Value}{sub:List Value}(hu:P.underlying t=some d)(hd:d.isRow=true)(hi:(P.info? t).map (·.size)=some sub.length)(hx:ev σ x= .pointer (some ⟨b,o,none⟩))
  (hg:w.heap[b]?=some (.cells cs e fr)) (hc:(cs.toList.drop o).take sub.length=sub):(execOp (ev σ) ⟨dst,.load t x,ty,pos,bO,g⟩).run P w= .ok (.value (.agg sub.toArray)) w:=by
 refine cA hu hd hi hx fun j c hj=> ?_
 rw[xS w _ _ _ _ _ hg]
 have hl:=(nX.1 hj).1
 rw[<-hc,u9,aX hl,B5]at hj
 simpa using hj
theorem P7{o:Nat}{c:Array Value}{sub c':List Value}(hi:(P.info? t).map (·.size)=some sub.length)(hx:ev σ x= .pointer (some ⟨b,o,none⟩))(hy:ev σ y= .agg sub.toArray)(h1:∀u∈sub,u.oneCell'=true)
  (hg:w.heap[b]?=some (.cells c e (0,0))) (ho:o+sub.length<=c.size) (hc:c.toList.take o++sub++c.toList.drop (o+sub.length)=c'):
  (execOp (ev σ) ⟨dst,.store t x y,ty,pos,bO,g⟩).run P w= .ok .skip (w.setRow b c'.toArray):=by
 have hs:=zU (P:=P) (off:=o) hg sub ho h1
 have hz:(sizeOf t).run P w= .ok sub.length w:=by
  cases hq:P.info? t with
  |none=>simp[hq]at hi
  |some i=>simp[hq]at hi;simp[sizeOf,typeInfo,hq,hi]
 rw[hc]at hs
 simp[execOp,hx,hy,Instr.storeAt,Instr.sureAddr,storeVar,Value.cells,hz,hs]
variable{α:Type}{cl:α->List Value}{sz:Nat}
theorem ox{len:Nat}{ps:List (Nat×Operand)}{l:List α}{ie:TypeInfo}{z:Value}(oy:∀a,(cl a).length=sz)
  (hu:P.underlying t=some (.slice e)) (hie:P.info? e=some ie) (hz:ie.zero=some z) (hsz:ie.size=sz) (hl:l.length=len) (hsmall:¬len*sz>2^24) (hpos:¬len*sz=0)
  (h:ps.map (fun p=>(p.1,ev σ p.2))=((l.map fun f=>Value.agg (cl f).toArray).zipIdx.map fun p=>(p.2,p.1))):
  (execOp (ev σ) ⟨dst,.buildSlice t len ps.toArray,ty,pos,bO,g⟩).run P w= .ok (.value (.slice (some ⟨w.heap.size,0,none⟩) len len)) (w.alloc (.cells (l.flatMap cl).toArray e)):=by
 have h2:=cB (P:=P) (σ:=σ) (w:=w) (dst:=dst) (ty:=ty) (pos:=pos) (bO:=bO) (g:=g) (vs:=l.map fun f=>Value.agg (cl f).toArray) (sz:=sz) hu hie hz hsz (by rw[gF];exact hl) hsmall hpos h (by
  rw[iR];intro v hv
  rw[fZ]at hv
  obtain⟨r,_,rfl⟩:=hv
  simp[Value.cells,oy])
 have h3:(l.map fun f=>Value.agg (cl f).toArray).flatMap (·.cells.toList)=l.flatMap cl:=by
  rw[X4]
  show(l.flatMap fun f=>(cl f).toArray.toList)=_
  simp
 rw[h3]at h2;exact h2
theorem bZ{w1:World}{v:Value}{n1 n2:Nat}{cells:List Value}{d:TypeDesc}{o:Nat}(_hS:Sl w1 v n1 n2 cells)(hu:P.underlying t=some d)(hd:d.isRow=false)(hx:ev σ x= .pointer (some ⟨b,o,none⟩))(hc:w.cell? ⟨b,o,none⟩=some v):
 (execOp (ev σ) ⟨dst,.load t x,ty,pos,bO,g⟩).run P w= .ok (.value v) w:=aG hu hd hx hc
theorem ahm{a cs:List Value}{o:Nat}(h:(a.drop o).take cs.length=cs):∀(j:Nat) (c:Value),cs[j]?=some c->a[o+j]?=some c:=by grind
end runs
structure aDF(P:Program)(d:Nat)(xs ys:Array Value)(f:Field)(b:Bool):Prop where
 nm:f.name≠ "_"
 run:∃u v,(∀w,(part f.type xs f.offset).run P w= .ok u w)/\(∀w,(part f.type ys f.offset).run P w= .ok v w)/\∀w,(Op.equalIn d f.type u v).run P w= .ok b w
inductive U4(P:Program)(d:Nat)(xs ys:Array Value):List Field->List Bool->Prop
 |nil:U4 P d xs ys [] []
 |cons {f:Field} {fs:List Field} {b:Bool} {bs:List Bool} (h:aDF P d xs ys f b) (hs:U4 P d xs ys fs bs):U4 P d xs ys (f::fs) (b::bs)
theorem U4.eq{P:Program}{d:Nat}{xs ys:Array Value}{fs:List Field}{bs:List Bool}(h:U4 P d xs ys fs bs)(w:World):(Op.eqFields d xs ys fs).run P w= .ok (bs.all id) w:=by
 induction h with
 |nil=>rfl
 |cons h _ ih=>
  obtain⟨u,v,h1,h2,h3⟩:=h.run
  rename_i b bs _
  simp only[Op.eqFields,h.nm,ne_eq,XV,ur,uj,h1,h2,h3,xL]
  cases b with
  |true=>simpa using ih
  |false=>simp
structure EqT(P:Program)(t:TypeId)(xs ys:Array Value)(c:Bool):Prop where
 eg:P.eqGuardType P.depth t=false
 eq:∀w,(Op.equalIn 10000 t (.agg xs) (.agg ys)).run P w= .ok c w
theorem EqT.conv{P:Program}{t:TypeId}{xs ys:Array Value}{c c':Bool}(h:EqT P t xs ys c)(e:c=c'):EqT P t xs ys c':=e▸h
section
variable{P:Program}{d:Nat}{xs ys:Array Value}{f:Field}
end
section
variable{P:Program}{σ:Env}{w:World}{dst:Option Tmp}{ty t u:TypeId}{pos:String}{bO:Array Edge}{g:Option (Nat×Bool)}{x y:Operand}{xs ys:Array Value}{c:Bool}
end
theorem Fy{P:Program}{n:Nat}{k:K}{xs:List (Nat×K)}{r:K}{σ:Env}{w0 w:World}{x y:Code}{L:List bu}{G:Type}(_hH:Hp w0 w L)(ws:List Nat)(up:List bu->G->List bu)(Q:G->Env->Prop)
 (h:CW P n x (fun s w'=>Fr ws σ s/\∃g,Hp w0 w' (up L g)/\Q g s) xs r σ w) (h':∀g s w',Fr ws σ s->Hp w0 w' (up L g)->Q g s->CW P n y k xs r s w'):CW P n (.seq x y) k xs r σ w:=by grind[afY]
theorem Le.HD{K:Vu}{Z Y:List bu}:Le (Kz K Z) (Kz K (Y++Z)):=by grind[Le.zz]
def aMM(q:Value->World->Prop)(e:Ending)(w:World):Prop:=jY q e w
section calls
variable{P:Program}{n:Nat}{ops:Array Oper}{k:K}{rest:List Oper}{σ:Env}{w0 w:World}{L:List bu}{op:Op}{ty:TypeId}{pos:String}{bO:Array Edge}{d:Nat}{q:Value->World->Prop}
theorem cD{f:FuncId}{args:Array Value}(hd:Nat.blt d n=true)(hc:Calls P f args w (jY q))
  (hr:(execOp (ev σ) ⟨some d,op,ty,pos,bO,none⟩).run P w= .ok (.enter f args) w)
  (hk:∀v w',q v w'->RL P n ops k rest (lZ σ d v) w'):RL P n ops k (⟨some d,op,ty,pos,bO,none⟩::rest) σ w:=
 Ig hd hr hc hk
variable{l:List Oper}{i fuel:Nat}{listed:Array Bool}{g:Option (Nat×Bool)}{L':List bu}
theorem ye{f:FuncId}{args:Array Value}(hi:l[i]?=some ⟨some d,op,ty,pos,bO,g⟩)(hg:∀a,Is n σ a->Region.wanted ⟨some d,op,ty,pos,bO,g⟩ (yielded l.toArray a.tmps)=true)(hd:Nat.blt d n=true)
 (hc:Calls P f args w (jY q)) (hr:(execOp (ev σ) ⟨some d,op,ty,pos,bO,g⟩).run P w= .ok (.enter f args) w)
 (hs:∀v w',q v w'->Hp w0 w' L)
 (h:∀v w',q v w'->AN P n l (fun w=>Hp w0 w L) k fuel (listed.setIfInBounds i true) (lZ σ d v) w'):AO P n l (fun w=>Hp w0 w L) k fuel listed σ w i:=by grind[Sg]
end calls
section
variable{P:Program}{fn:Func}{w0 w:World}{L:List bu}{i j p p2 t:Nat}{q:Value->World->Prop}{d d2:TypeDesc}{c c2:Array Value}{ty ty2 e e2:TypeId}{b b2:Nat}{fr U5:Nat×Nat}{σ:Env}{v:Value}
theorem EA(h:fn.results=#[.cell p ty,.tmp t])(hp:σ p= .pointer (some ⟨b,0,none⟩))(ht:σ t=v)(hH:Hp w0 w L)
  (hi:L[i]?=some (.blk b (.cells c e fr))) (hu:P.underlying ty=some d) (hd:d.isRow=true) (hz:(P.info? ty).map (·.size)=some c.size) (hq:q (.tuple #[.agg c,v]) w):Out P fn q σ w:=
 fun n a ha=>⟨_,by
  have h1:a.tmps[p]?.getD undef= .pointer (some ⟨b,0,none⟩):=by have:=ha.get p;rw[hp]at this;simpa using this
  have h2:a.tmps[t]?.getD undef=v:=by have:=ha.get t;rw[ht]at this;simpa using this
  simp[results,h,h1,h2,asAddr,run_loadVar_row (P:=P) w b e ty c fr d (hH.blk hi) hu (by cases d<;>simp_all) hz],hq⟩
end
end
end Go.Proofs.YtlhjdflgjbkpmaaGreatDoor.E
namespace Go.Proofs.YtlhjdflgjbkpmaaGreatDoor.M
section
open Go
structure vO where
 name:Tx
 kind:Int
 bf:Int
deriving DecidableEq
structure Wd where
 text:Tx
 place:Int
structure Flt where
 cls:Int
 place:Int
deriving DecidableEq
def awI:Flt:=⟨0,0⟩
def wd0:Wd:=⟨qg,0⟩
def fq:vO:=⟨qg,0,0⟩
def awJ(b f:Flt):Flt:=if f.cls≠0/\(b.cls=0\/f.cls<b.cls\/(f.cls=b.cls/\f.place<b.place))then f else b
def aCk(l:List Flt)(k:Int):Flt:=(l.take k.toNat).foldl awJ awI
def aDH(l:List Wd):List Tx:=l.map Wd.text
end
end Go.Proofs.YtlhjdflgjbkpmaaGreatDoor.M
namespace Go.Proofs.YtlhjdflgjbkpmaaGreatDoor.E
section
open Go Go.RowKit Go.Proofs.YtlhjdflgjbkpmaaGreatDoor.M
structure D3 where
 name:Tx
 zx:kR
def mJ:D3:=⟨qg,D2⟩
def MP(l:D3):List Value:=[S l.name,B l.zx.tuple,l.zx.fv]
theorem oz(l:D3):(MP l).length=3:=rfl
def O1(v:vO):List Value:=[S v.name,I v.kind,I v.bf]
theorem tF(v:vO):(O1 v).length=3:=rfl
def wdL(x:Wd):List Value:=[S x.text,I x.place]
def aMN(f:Flt):List Value:=[I f.cls,I f.place]
structure lM where
 lv:Value
 aq:List D3
 vv:Value
 vars:List vO
abbrev IM(s:lM):Array Value:=#[s.lv,s.vv]
structure D4(K:Vu)(s:lM):Prop where
 aq:oR K s.lv 3 s.aq.length (s.aq.flatMap MP)
 vars:oR K s.vv 3 s.vars.length (s.vars.flatMap O1)
 each:∀l∈s.aq,k8 K l.zx
theorem D4.mono{K K':Vu}{s:lM}(h:D4 K s)(hl:Le K K'):D4 K' s:=⟨h.aq.mono hl,h.vars.mono hl,fun l hm=>(h.each l hm).mono hl⟩
theorem D4.at{K:Vu}{s:lM}(h:D4 K s){k:Int}(h0:0<=k)(h1:k<s.aq.length):k8 K (s.aq.getD k.toNat mJ).zx:=h.each _ (lR (fF (d:=mJ) h0 h1))
theorem U6{K:Vu}{l:D3}(h:k8 K l.zx):∀u∈(MP l).toArray,u.oneCell'=true:=by
 intro u hu
 have h1:=l9 h.aZ
 simp[MP]at hu
 rcases hu with rfl|rfl|rfl
 .rfl
 .rfl
 exact h1.1
section
variable{P:Program}{σ:Env}{w:World}{dst:Option Tmp}{ty t e:TypeId}{pos:String}{bO:Array Edge}{g:Option (Nat×Bool)}{x:Operand}{b:Nat}{fr:Nat×Nat}
end
theorem Gw{α:Type}{l:List α}{d:α}{P:α->Bool}{k:Int}(h0:0<=k)(h1:k<l.length)(h:P (l.getD k.toNat d)=true):l.any P=true:=by grind
theorem SB{α:Type}{l:List α}{d:α}{P:α->Bool}{k:Int}(hk:¬k<l.length)(h:∀j:Int,0<=j->j<k->P (l.getD j.toNat d)=false):l.any P=false:=by grind[List.any_eq_false,List.getElem_of_mem,Int.toNat_natCast,List.getElem?_eq_getElem]
def U7(l:D3):Bool:=U2 l.zx.sh||decide (40<l.name.size)
def arV(v:vO):Bool:=decide (40<v.name.size)
def vP(s:lM):Bool:=decide (20<s.aq.length\/80<s.vars.length)||s.aq.any U7||s.vars.any arV
def abq(s:lM)(t:Tx):Int:=tw (fun i=>decide ((s.aq.getD i.toNat mJ).name=t)) s.aq.length
def aCl(s:lM)(t:Tx):Int:=tw (fun i=>decide ((s.vars.getD i.toNat fq).name=t)) s.vars.length
def aJI(s:lM)(l:List Wd):List kR:=l.filterMap fun x=>if 0<=abq s x.text then some (s.aq.getD (abq s x.text).toNat mJ).zx else none
inductive fC where
 |mk (kind place:Int) (text:Tx) (nv:Value) (names:List Wd) (kv:Value) (kids:List fC)
def fC.kind:fC->Int
 | .mk k _ _ _ _ _ _=>k
def fC.place:fC->Int
 | .mk _ p _ _ _ _ _=>p
def fC.text:fC->Tx
 | .mk _ _ t _ _ _ _=>t
def fC.nv:fC->Value
 | .mk _ _ _ v _ _ _=>v
def fC.names:fC->List Wd
 | .mk _ _ _ _ l _ _=>l
def fC.kv:fC->Value
 | .mk _ _ _ _ _ v _=>v
def fC.kids:fC->List fC
 | .mk _ _ _ _ _ _ k=>k
def ahn(n:fC):List Value:=[I n.kind,I n.place,S n.text,n.nv,n.kv]
inductive rA(K:Vu):fC->Prop
 |mk {kind place:Int} {text:Tx} {nv:Value} {names:List Wd} {kv:Value} {kids:List fC} (hn:oR K nv 2 names.length (names.flatMap wdL)) (hk:oR K kv 5 kids.length (kids.flatMap ahn)) (each:∀x∈kids,rA K x):rA K (.mk kind place text nv names kv kids)
abbrev Pw:=Wd×Wd
def pwL(p:Pw):List Value:=[S p.1.text,I p.1.place,S p.2.text,I p.2.place]
structure amz where
 op:Int
 place:Int
 name:Wd
 nv:Value
 names:List Wd
 pv:Value
 pairs:List Pw
 pat:Int
 left:fC
 right:fC
def aMP(c:amz):List Value:=[I c.op,I c.place,S c.name.text,I c.name.place,c.nv,c.pv,I c.pat]++ahn c.left++ahn c.right
structure arW(K:Vu)(c:amz):Prop where
 names:oR K c.nv 2 c.names.length (c.names.flatMap wdL)
 pairs:oR K c.pv 4 c.pairs.length (c.pairs.flatMap pwL)
 left:rA K c.left
 right:rA K c.right
theorem Ac(l:D3):∀(j:Nat) (c:Value),(yd l.zx)[j]?=some c->(MP l)[1+j]?=some c:=by grind[D3,yd,MP]
def pw0:Pw:=(wd0,wd0)
def CE(s:lM):List Value:=[s.lv,s.vv]
def aMQ:lM:=⟨.slice none 0 0,[],.slice none 0 0,[]⟩
theorem KW{K:Vu}{v:Value}{sz n:Nat}{c:List Value}(h:oR K v sz n c):v.oneCell'=true/\v.cells=#[v]:=l9 h
def MQ:fC:= .mk 0 0 qg (.slice none 0 0) [] (.slice none 0 0) []
theorem rA.each{K:Vu}{n:fC}(h:rA K n):∀x∈n.kids,rA K x:=by cases h;assumption
theorem rA.at{K:Vu}{n:fC}(h:rA K n){k:Int}(h0:0<=k)(h1:k<n.kids.length):rA K (n.kids.getD k.toNat MQ):=h.each _ (lR (fF (d:=MQ) h0 h1))
theorem rA.mono{K K':Vu}(hl:Le K K'){n:fC}(h:rA K n):rA K' n:=by
 induction h with
 |mk hn hk _ ih=>exact .mk (hn.mono hl) (hk.mono hl) ih
def aMR:amz:=⟨0,0,wd0,.slice none 0 0,[],.slice none 0 0,[],0,MQ,MQ⟩
theorem arW.mono{K K':Vu}{c:amz}(h:arW K c)(hl:Le K K'):arW K' c:=⟨h.names.mono hl,h.pairs.mono hl,rA.mono hl h.left,rA.mono hl h.right⟩
structure yf(K:Vu)(l:List fC):Prop where
 each:∀x∈l,rA K x
theorem yf.mono{K K':Vu}{l:List fC}(h:yf K l)(hl:Le K K'):yf K' l:=⟨fun x hx=>rA.mono hl (h.each x hx)⟩
theorem yf.at{K:Vu}{l:List fC}(h:yf K l){k:Int}(h0:0<=k)(h1:k<l.length):rA K (l.getD k.toNat MQ):=h.each _ (lR (fF (d:=MQ) h0 h1))
def aho(l:List Wd):Bool:=l.all fun x=>iS x.text
abbrev byL(s:Tx):List Value:=Go.Lib.strCells s
theorem qB(a b:Tx):(a++b).size=a.size+b.size:=ByteArray.size_append
def tc(c:UInt8):Tx:=⟨#[c]⟩
section
variable{P:Program}{w0 w:World}{L:List bu}
variable{n:Nat}{ops:Array Oper}{k:K}{rest l:List Oper}{σ:Env}{op:Op}{ty:TypeId}{pos:String}{bO:Array Edge}{d:Nat}{x y:Operand}{dst:Option Tmp}{g:Option (Nat×Bool)}
variable{fuel i:Nat}{listed:Array Bool}{L':List bu}
end
inductive Nd where
 |mk (kind place:Int) (text:Tx) (names:List Wd) (kids:List Nd)
def Nd.kind:Nd->Int
 | .mk k _ _ _ _=>k
def Nd.place:Nd->Int
 | .mk _ p _ _ _=>p
def Nd.text:Nd->Tx
 | .mk _ _ t _ _=>t
def Nd.names:Nd->List Wd
 | .mk _ _ _ n _=>n
def Nd.kids:Nd->List Nd
 | .mk _ _ _ _ k=>k
def nd0:Nd:= .mk 0 0 qg [] []
theorem ahp{C:Nd->Prop}(h:∀n,(∀x∈n.kids,C x)->C n)(n:Nd):C n:=h n fun x hx=>ahp h x
termination_by SizeOf.sizeOf n
decreasing_by
 cases n
 simp only[Nd.kids]at hx
 have:=Lm hx
 simp only[Nd.mk.sizeOf_spec]
 omega
def fC.nd:fC->Nd
 | .mk k p t _ n _ ks=> .mk k p t n (ks.attach.map fun x=>x.1.nd)
termination_by n=>SizeOf.sizeOf n
decreasing_by
 have:=Lm x.2
 simp only[fC.mk.sizeOf_spec]
 omega
def aph(k:Nd):Bool:=decide (k.kind=6)&&iS k.text&&aho k.names&&decide (k.kids.length=0)
def Y2:Nd->Bool
 | .mk kind _ text names kids=>
  if kind=2 then iS text&&decide (names.length=0/\kids.length=0)
  else if kind=3 then decide (text=qg)&&aho names&&decide (kids.length=0)
  else if kind=4 then decide (text=qg)&&decide (names.length=0)&&decide (0<kids.length)&&kids.attach.all fun x=>Y2 x.1
  else if kind=5 then decide (text=qg)&&decide (names.length=0)&&kids.all aph
  else false
termination_by n=>SizeOf.sizeOf n
decreasing_by
 have:=Lm x.2
 simp only[Nd.mk.sizeOf_spec]
 omega
def xg:List Tx->Tx
 |[]=>qg
 |x::l=>l.foldl (fun a y=>a++tc 44++y) x
def MR(l:List Wd):Tx:=xg (l.map Wd.text)
def uF:Nd->Tx
 | .mk kind _ text names kids=>
  if kind=1\/kind=2 then text
  else if kind=3 then tc 123++MR names++tc 125
  else if kind=4 then tc 40++xg (kids.attach.map fun x=>uF x.1)++tc 41
  else if kind=5 then tc 91++xg (kids.attach.map fun x=>uF x.1)++tc 93
  else if kind=6 then text++⟨#[58,123]⟩++MR names++tc 125
  else qg
termination_by n=>SizeOf.sizeOf n
decreasing_by
 all_goals
  have:=Lm x.2
  simp only[Nd.mk.sizeOf_spec]
  omega
theorem amA(n:Nd):uF n=if n.kind=1\/n.kind=2 then n.text
  else if n.kind=3 then tc 123++MR n.names++tc 125
  else if n.kind=4 then tc 40++xg (n.kids.map uF)++tc 41
  else if n.kind=5 then tc 91++xg (n.kids.map uF)++tc 93
  else if n.kind=6 then n.text++⟨#[58,123]⟩++MR n.names++tc 125
  else qg:=by
 cases n with
 |mk k p t names kids=>
 have h:(kids.attach.map fun x=>uF x.1)=kids.map uF:=aJ
 rw[uF,h];rfl
section
variable{n:fC}
end
theorem MS{α:Type}{l:List α}{d:α}{P:α->Bool}{k:Int}(h0:0<=k)(h1:k<l.length)(h:P (l.getD k.toNat d)=false):l.all P=false:=by grind
theorem Gx{α:Type}{l:List α}{d:α}{P:α->Bool}{k:Int}(hk:¬k<l.length)(h:∀j:Int,0<=j->j<k->P (l.getD j.toNat d)=true):l.all P=true:=by grind[List.all_eq_true,List.getElem_of_mem,Int.toNat_natCast,List.getElem?_eq_getElem]
abbrev Ex(α:Type):=Except Int α
def awK(l:List Tx):List Wd->BitVec 64->Ex (BitVec 64)
 |[],s=> .ok s
 |x::w,s=>if ry l x.text<0 then .error x.place else awK l w (vC s (ry l x.text))
def abr(l:List Tx)(w:List Wd):Ex (BitVec 64):=awK l w 0#64
def Fz(f:Fc):List Nd->BitVec 64->Ex (BitVec 64)
 |[],w=> .ok w
 |k::ks,w=>if ry f.names k.text<0 then .error k.place else
  match abr f.names k.names with
  | .error a=> .error a
  | .ok s=>Fz f ks (w|||awv f.rel (ry f.names k.text) s)
def awL(f:Fc):Int:=if f.kind=2 then 3 else if f.kind=3 then 5 else 2
def Y3(f:Fc)(n:Nd):Ex (BitVec 64):=
 if ry f.names n.text<0 then .error n.place
 else if f.kind=4 then .ok (bQ f.rel (ry f.names n.text))
 else .ok (vB f.names.length (ry f.names n.text)).1
def awM(f:Fc)(n:Nd):Ex (BitVec 64):=
 if n.kind≠awL f then .error n.place
 else if f.kind=2 then abr f.names n.names
 else if f.kind=3 then Fz f n.kids 0#64
 else Y3 f n
def MT:List (Fc×Nd)->Nat->El->Ex El
 |[],_,e=> .ok e
 |(f,n)::r,i,e=>match awM f n with
  | .error a=> .error a
  | .ok w=>MT r (i+1) (tB e i w)
def ahq(s:Sh)(n:Nd):List Nd:=if s.tuple then n.kids else[n]
def aDI(s:Sh)(n:Nd):Bool:=mA s&&Y2 n&&(!s.tuple||decide (n.kind=4/\n.kids.length=s.aZ.length))
def aJK(s:Sh)(n:Nd):Ex El:=if aDI s n then MT (s.aZ.zip (ahq s n)) 0 dg else .error n.place
def aMS:Ex El->El×Flt
 | .ok e=>(e,awI)
 | .error a=>(dg,⟨4,a⟩)
abbrev RS:=Bool×Int
def api(s:RS)(a:Int):RS:=if s.1 then s else(true,a)
def okR(x:Ex (BitVec 64))(s:RS)(y:BitVec 64)(s':RS):Prop:=match x with
 | .ok z=>y=z/\s'=s
 | .error a=>s'=api s a
theorem Gn{f:Fc}{n:Nd}(h:ry f.names n.text<0):Y3 f n= .error n.place:=by rw[Y3,aX h]
def aMT(f:Fc)(ks:List Nd)(k:Int)(m:BitVec 64)(s s1:RS):Prop:=
 (s1=s/\Fz f ks 0#64=Fz f (ks.drop k.toNat) m)\/∃a,Fz f ks 0#64= .error a/\s1=api s a
structure arX where
 word:BitVec 64
 bad:Bool
 at_:Int
def aMU(g:arX):List Value:=[U g.word,B g.bad,I g.at_]
def aMV:arX:=⟨0#64,false,0⟩
def aMW:Ex (BitVec 64)->arX
 | .ok x=>⟨x,false,0⟩
 | .error a=>⟨0#64,true,a⟩
section ahr
variable{f:qz}{n:fC}{k:Int}{m:BitVec 64}(h0:0<=k)(h1:k<n.kids.length)(hm:Fz f.fc n.nd.kids 0#64=Fz f.fc (n.nd.kids.drop k.toNat) m)
include h0 h1 hm
end ahr
section amB
variable{f:qz}{n:fC}
end amB
def aMX(l:List (Fc×Nd))(k:Int)(e:El)(s:RS):Prop:=
 (s=(false,0)/\MT l 0 dg=MT (l.drop k.toNat) k.toNat e)\/∃a,MT l 0 dg= .error a/\s=(true,a)
def abt(l:List Tx)(w:BitVec 64):List Wd:=(gL w).map fun i=>⟨l.getD i.toNat qg,0⟩
def ahs(f:Fc)(w:BitVec 64)(o:Int):Nd:= .mk 6 0 (f.names.getD o.toNat qg) (abt f.names (agW f.rel w o)) []
def Y4(f:Fc)(w:BitVec 64):Nd:=
 if f.kind=2 then .mk 3 0 qg (abt f.names w) []
 else if f.kind=3 then .mk 5 0 qg [] ((gL (Ss f.rel w)).map (ahs f w))
 else if f.kind=4 then .mk 2 0 (f.names.getD (eX f.rel w).1.toNat qg) [] []
 else .mk 2 0 (f.names.getD (level f.names.length w).1.toNat qg) [] []
def aht(s:Sh)(e:El)(k:Int):List Nd:=(upto k).map fun i=>Y4 (s.aZ.getD i.toNat vJ) (e i.toNat)
def awN(s:Sh)(e:El):Nd:=
 if cJ s e then(if s.tuple then .mk 4 0 qg [] (aht s e s.aZ.length)else Y4 (s.aZ.getD 0 vJ) (e 0))else nd0
def ahu(s:Sh)(e:El):Tx:=tc 35++uF (awN s e)
abbrev By:=List UInt8
def bl(t:Tx):By:=t.data.toList
def goU(b:UInt8):Bool:=uD (b.toNat:Int)
def Ds(x:By):Prop:=∀b r,x=b::r->goU b=false
theorem Ds.nil:Ds []:=fun b r h=>by cases h
theorem Ds.cons{d:UInt8}(h:goU d=false)(x:By):Ds (d::x):=fun b r e=>by cases e;exact h
def aDK(l:List By):By:=l.flatMap fun y=>44::y
def aMY:List By->By
 |[]=>[]
 |x::l=>x++aDK l
section
variable{Q:By->Prop}(hQ:∀u v,Q u->Q v->∀x y,Ds x->Ds y->u++x=v++y->u=v/\x=y){d:UInt8}(hd:goU d=false)(h44:d≠44)
include hQ hd h44
end
def wd_(t:Tx):Wd:=⟨t,0⟩
def Rn(n:Nd):Prop:=∃(t:Tx) (ws:List Tx),n= .mk 6 0 t (ws.map wd_) []/\iS t=true/\∀u∈ws,iS u=true
def wtx(a:El):List Fc->Nat->List By
 |[],_=>[]
 |f::r,i=>bl (uF (Y4 f (a i)))::wtx a r (i+1)
inductive MU:fC->Prop
 |mk {kind place:Int} {text:Tx} {nv:Value} {names:List Wd} {kv:Value} {kids:List fC} (hl:names.length<=5864062014634) (each:∀x∈kids,MU x):MU (.mk kind place text nv names kv kids)
theorem MU.len{n:fC}(h:MU n):n.names.length<=5864062014634:=by cases h;assumption
theorem MU.each{n:fC}(h:MU n):∀x∈n.kids,MU x:=by cases h;assumption
def aDL(s:kR)(n:fC):List fC:=if s.tuple then n.kids else[n]
def aJL(s:kR)(n:fC):Bool:= !s.tuple||decide (n.kind=4/\n.kids.length=s.aZ.length)
def aM1(s:kR)(n:fC):List (Fc×Nd):=s.sh.aZ.zip (ahq s.sh n.nd)
section
variable{s:kR}{n:fC}
end
section ref
variable{l:List (Fc×Nd)}{k:Int}{e:El}{f:Fc}{m:Nd}(h0:0<=k)(h1:k<l.length)(hm:MT l 0 dg=MT (l.drop k.toNat) k.toNat e)(hw:l.getD k.toNat (vJ,nd0)=(f,m))
include h0 h1 hm hw
end ref
def aM2(q:Int)(x:fC):Bool:=if q=1 then Y2 x.nd else aph x.nd
section
variable{n:fC}
end
theorem yf.nil(K:Vu):yf K []:=⟨fun x hx=>by simp at hx⟩
theorem yf.snoc{K:Vu}{l:List fC}{n:fC}(h:yf K l)(hn:rA K n):yf K (l++[n]):=⟨fun x hx=>by
 rcases e8.1 hx with hx|hx
 .exact h.each x hx
 rw[gG.1 hx];exact hn⟩
def wdN(l:List Tx)(i:Int):Wd:=⟨l.getD i.toNat qg,0⟩
def aCn(l:List Tx)(w:BitVec 64)(k:Int):List Wd:=((upto k).filter (hasB w)).map (wdN l)
theorem xd(k:Int):(upto k).Pairwise (· <·):=by
 rw[upto,HL]
 exact XE.imp fun h=>by omega
def aM4:Value:= .slice none 0 0
def aJM(k:Int)(t:Tx)(nv:Value)(names:List Wd):fC:= .mk k 0 t nv names (.slice none 0 0) []
def aJN(k:Int)(kv:Value)(kids:List fC):fC:= .mk k 0 qg (.slice none 0 0) [] kv kids
def aCo(f:Fc)(w:BitVec 64)(k:Int):List Nd:=((gL (Ss f.rel w)).take k.toNat).map (ahs f w)
def aCp(f:Fc)(w:BitVec 64)(k:Int):List Nd:=((upto k).filter (hasB (Ss f.rel w))).map (ahs f w)
def kN:Nd->Nat
 | .mk kind _ text names kids=>(if 0<=kind/\kind<=6 then 4 else 10000000000)+text.size+(names.map fun x=>x.text.size+1).sum+(kids.attach.map fun x=>kN x.1+1).sum
termination_by n=>SizeOf.sizeOf n
decreasing_by
 have:=Lm x.2
 simp only[Nd.mk.sizeOf_spec]
 omega
theorem apj(n:Nd):kN n=(if 0<=n.kind/\n.kind<=6 then 4 else 10000000000)+n.text.size+(n.names.map fun x=>x.text.size+1).sum+(n.kids.map fun x=>kN x+1).sum:=by
 cases n with
 |mk k p t names kids=>
 have h:(kids.attach.map fun x=>kN x.1+1)=kids.map fun x=>kN x+1:=aJ
 rw[kN,h];rfl
theorem U8{α:Type}{F G:α->Nat}:∀(l:List α),(∀x∈l,F x<=G x)->(l.map F).sum<=(l.map G).sum
 |[],_=>by simp
 |y::l,h=>by
  have h1:=h y (qU ..)
  have h2:=U8 l fun x hx=>h x (fX _ hx)
  simp only[lT,E8];omega
structure TxN(n:Nd):Prop where
 sz:kN n<=1000000000
theorem TxN.kind{n:Nd}(h:TxN n):0<=n.kind/\n.kind<=6:=by grind[Nd,TxN,apj]
theorem MV:∀(l:List Tx) (a:Tx),(l.foldl (fun a y=>a++tc 44++y) a).size=a.size+(l.map fun x=>x.size+1).sum
 |[],a=>by simp
 |y::l,a=>by
  rw[pg,MV l,qB,qB,lT,E8,show(tc 44).size=1 from O];omega
theorem P8(l:List Tx):(xg l).size<=(l.map fun x=>x.size+1).sum:=by
 cases l with
 |nil=>exact fh _
 |cons x l=>
  show(l.foldl (fun a y=>a++tc 44++y) x).size<=_
  rw[MV]
  simp only[lT,E8];omega
theorem amC(n:Nd):(uF n).size<=kN n:=ahp (C:=fun n=>(uF n).size<=kN n) (fun n ih=>by
 rw[apj,amA]
 have h1:(MR n.names).size<=(n.names.map fun x=>x.text.size+1).sum:=by
  have:=P8 (n.names.map Wd.text)
  rw[RI]at this;exact this
 have h2:(xg (n.kids.map uF)).size<=(n.kids.map fun x=>kN x+1).sum:=by
  have h3:=P8 (n.kids.map uF)
  rw[RI]at h3
  exact kL h3 (U8 n.kids fun x hx=>by have:=ih x hx;simp only[Function.comp];omega)
 have h4:∀c:UInt8,(tc c).size=1:=fun _=>rfl
 have h5:((⟨#[58,123]⟩:Tx)).size=2:=rfl
 have h6:qg.size=0:=rfl
 have h7:4<=(if 0<=n.kind/\n.kind<=6 then 4 else 10000000000):=by split<;>omega
 split
 .omega
 split
 .simp only[qB,h4];omega
 split
 .simp only[qB,h4];omega
 split
 .simp only[qB,h4];omega
 split
 .simp only[qB,h4,h5];omega
 omega) n
theorem TxN.text{n:Nd}(h:TxN n):(uF n).size<=1000000000:=kL (amC n) h.sz
theorem SA{α:Type}{F:α->Nat}{m:Nat}:∀(l:List α),(∀x∈l,F x<=m)->(l.map F).sum<=m*l.length
 |[],_=>by simp
 |y::l,h=>by
  have h1:=h y (qU ..)
  have h2:=SA l fun x hx=>h x (fX _ hx)
  simp only[lT,E8,fw]
  rw[Nat.mul_add];omega
def awQ(T:Int->Tx)(k:Int):Tx:=xg ((upto k).map T)
def aM5(l:List fC)(i:Int):Tx:=uF (l.getD i.toNat MQ).nd
def wdT(l:List Wd)(i:Int):Tx:=(l.getD i.toNat wd0).text
instance:DecidableEq Wd:=fun a b=>if h:a.text=b.text/\a.place=b.place then .isTrue (by cases a;cases b;cases h.1;cases h.2;rfl)else .isFalse (fun e=>h (by rw[e];exact⟨rfl,rfl⟩))
def aDM:List Tx:=[⟨#[112]⟩,⟨#[113]⟩]
def exG:Sh:=⟨false,[⟨3,aDM,aDv⟩]⟩
def exR:Nd:= .mk 6 0 ⟨#[112]⟩ [⟨⟨#[113]⟩,0⟩] []
def aM7:Nd:= .mk 5 0 qg [] [exR]
def aM8(x:Ex El):Bool:=match x with
 | .ok e=>decide (rR e (tB dg 0 1#64))
 | .error _=>false
theorem ahv{α:Type}{cl:α->List Value}{sz:Nat}(hsz:∀a,(cl a).length=sz)(hpos:0<sz)(z0:α)(n:Nat):madeCells (cl z0).toArray (n*sz)=((List.replicate n z0).flatMap cl).toArray:=by
 refine RM (ug fun j=> ?_)
 have hl:((List.replicate n z0).flatMap cl).length=n*sz:=by rw[fK hsz,Ro]
 by_cases hj:j<n*sz
 .have h1:j/sz<n:=Nat.div_lt_of_lt_mul (by rw[Nat.mul_comm];exact hj)
  have h2:j%sz<(cl z0).length:=by rw[hsz];exact Nat.mod_lt _ hpos
  have h3:=flat_get hsz (List.replicate n z0) (j/sz) z0 (by rw[XC,aX h1]) (j%sz) (cl z0)[j%sz] (eF h2)
  rw[show j/sz*sz+j%sz=j by rw[Nat.mul_comm];exact X6 j sz]at h3
  show(madeCells (cl z0).toArray (n*sz)).toList[j]?=((List.replicate n z0).flatMap cl)[j]?
  rw[h3,madeCells,Array.toList_map,qu,Array.toList_range,zF hj]
  simp only[qV,vb,hsz]
  congr 1
  rw[getElem!_def]
  simp only[HH,eF h2]
 rw[og (by rw[show(madeCells (cl z0).toArray (n*sz)).toList.length=n*sz by simp[madeCells]];omega),og (by rw[show((List.replicate n z0).flatMap cl).toArray.toList.length=n*sz from hl];omega)]
section
variable{P:Program}{σ:Env}{w:World}{dst:Option Tmp}{ty t e:TypeId}{pos:String}{bO:Array Edge}{g:Option (Nat×Bool)}{x y:Operand}{α:Type}{cl:α->List Value}{sz:Nat}
theorem P9{ie:TypeInfo}{z:Value}{z0:α}{n:Nat}(hsz:∀a,(cl a).length=sz)(hpos:0<sz)(hu:P.underlying t=some (.slice e))(hie:P.info? e=some ie)(hz:ie.zero=some z)(hzc:z.cells=(cl z0).toArray)(hs:ie.size=sz)
  (hx:ev σ x= .int .i64 n) (hy:ev σ y= .int .i64 n) (hb:ie.bytes*n<=281474976710656) (hn:n<=maxLen):
  (execOp (ev σ) ⟨dst,.makeSlice t x y,ty,pos,bO,g⟩).run P w= .ok (.value (.slice (some ⟨w.heap.size,0,none⟩) n n)) (w.alloc (.cells ((List.replicate n z0).flatMap cl).toArray e)):=by
 have hb':(ie.bytes:Int)*n<=281474976710656:=by
  have h:((ie.bytes*n:Nat):Int)<=281474976710656:=J
  rwa[Int.natCast_mul]at h
 have hr:=run_make (P:=P) w t e ie z hu hie hz .i64 .i64 n n J (lY _) hb' (by unfold maxLen at hn;omega)
 rw[hzc,hs,eC,ahv hsz hpos]at hr
 simp[execOp,hx,hy,hr]
end
theorem CF(b o n:Nat):(⟨b,o,none⟩:Addr).add n=⟨b,o+n,none⟩:=by unfold Addr.add;split<;>simp_all
theorem Hp.KX{w0 w:World}{L:List bu}{i:Nat}{v:Value}{e:TypeId}{sz n:Nat}{xs:List Value}(h:Hp w0 w L)(hi:L[i]?=some (.row v e sz n xs))(hn:0<n):
  ∃gb cap,v= .slice (some ⟨gb,0,none⟩) n cap/\n<=cap/\∃cur:Array Value,w.heap[gb]?=some (.cells cur e (0,0))/\cur.size=cap*sz/\cur.toList.take (n*sz)=xs/\
   ∀J7:Array Value,J7.size=cur.size->Hp w0 (w.setRow gb J7) (L.set i (.row v e sz n (J7.toList.take (n*sz)))):=by
 obtain⟨hl,h2⟩:=h.get hi
 rcases h2 with⟨rfl,rfl⟩|⟨gb,cap,cur,rfl,hb,hg,hnc,hm,hs,ht⟩
 .exact absurd hn (Nat.lt_irrefl 0)
 refine⟨gb,cap,rfl,hnc,cur,hg,hs,ht,fun J7 hc'=> ?_⟩
 have hil:=(nX.1 hi).1
 have h1:Hp w0 w (L.set i (.blk gb (.cells cur e (0,0)))):=⟨h.below,fun y hy=>by
   obtain⟨j,hj,Fk⟩:=vc.1 hy
   rw[zG]at Fk
   split at Fk
   .subst Fk;exact⟨hb,hg⟩
   exact h.ok y (Fk▸r8 _),Cq hi O h.LZ⟩
 have hi1:(L.set i (.blk gb (.cells cur e (0,0))))[i]?=some (.blk gb (.cells cur e (0,0))):=by rw[List.getElem?_set_self hil]
 have h3:=h1.set (c':=J7) hi1
 rw[List.set_set]at h3
 have hi3:(L.set i (.blk gb (.cells J7 e (0,0))))[i]?=some (.blk gb (.cells J7 e (0,0))):=by rw[List.getElem?_set_self hil]
 have h4:Hp w0 (w.setRow gb J7) ((L.set i (.blk gb (.cells J7 e (0,0)))).set i (.row (.slice (some ⟨gb,0,none⟩) n cap) e sz n (J7.toList.take (n*sz)))):=⟨h3.below,fun y hy=>by
   obtain⟨j,hj,Fk⟩:=vc.1 hy
   rw[zG]at Fk
   split at Fk
   .subst Fk
    have hb3:=h3.get hi3
    refine⟨?_,.inr ⟨gb,cap,J7,rfl,hb3.1,hb3.2,hnc,hm,by rw[hc',hs],rfl⟩⟩
    rw[dW,qt]
    have:J7.toList.length=cap*sz:=by rw[E0,hc',hs]
    rw[this];exact r6 _ hnc
   exact h3.ok y (Fk▸r8 _),Cq hi3 O h3.LZ⟩
 rw[List.set_set]at h4;exact h4
def qM(xs:List Value)(o:Nat)(new:List Value):List Value:=xs.take o++new++xs.drop (o+new.length)
theorem Gy{cur new:List Value}{o m:Nat}(h:o+new.length<=m)(hm:m<=cur.length):(cur.take o++new++cur.drop (o+new.length)).take m=qM (cur.take m) o new:=by
 rw[qM,List.take_append,List.take_append,jm (l:=new) (by simp only[dW];omega),B8,B8,X3 J,qt J]
 congr 1
 simp only[ec,dW]
 rw[List.drop_take,show min o cur.length+new.length=o+new.length by omega]
section
variable{P:Program}{n:Nat}{ops:Array Oper}{k:K}{rest l:List Oper}{σ:Env}{w0 w:World}{L:List bu}{op:Op}{ty t e et:TypeId}{pos:String}{bO:Array Edge}{d:Nat}{x y:Operand}{g:Option (Nat×Bool)}{v:Value}{sz m i:Nat}{xs:List Value}{dst:Option Tmp}
theorem Y5{o:Nat}{new:List Value}(hH:Hp w0 w L)(hi:L[i]?=some (.row v e sz m xs))(hm:0<m)(hx:ev σ x= .pointer (some ⟨sb v,so v+o,none⟩))(hy:ev σ y= .agg new.toArray)(h1:∀u∈new,u.oneCell'=true)(hs:(P.info? t).map (·.size)=some new.length)(ho:o+new.length<=m*sz):
  ∃w',(execOp (ev σ) ⟨dst,.store t x y,ty,pos,bO,g⟩).run P w= .ok .skip w'/\Hp w0 w' (L.set i (.row v e sz m (qM xs o new))):=by
 obtain⟨gb,cap,rfl,hnc,cur,hg,hc,ht,hk⟩:=hH.KX hi hm
 have hcm:m*sz<=cap*sz:=r6 _ hnc
 have hx':ev σ x= .pointer (some ⟨gb,o,none⟩):=by rw[hx];simp only[sb,so,gO]
 have hr:=P7 (P:=P) (dst:=dst) (ty:=ty) (pos:=pos) (bO:=bO) (g:=g) (c':=cur.toList.take o++new++cur.toList.drop (o+new.length)) hs hx' hy h1 hg J O
 have hl:(cur.toList.take o++new++cur.toList.drop (o+new.length)).length=cur.size:=by
  simp only[ec,dW,yE,E0];omega
 have h2:=hk (cur.toList.take o++new++cur.toList.drop (o+new.length)).toArray (by rw[vb,hl])
 rw[show(cur.toList.take o++new++cur.toList.drop (o+new.length)).toArray.toList=cur.toList.take o++new++cur.toList.drop (o+new.length)from O,Gy ho R8,ht]at h2
 exact⟨_,hr,h2⟩
theorem arZ{o:Nat}{new:List Value}(hH:Hp w0 w L)(hi:L[i]?=some (.row v e sz m xs))(hm:0<m)(hx:ev σ x= .pointer (some ⟨sb v,so v+o,none⟩))(hy:ev σ y= .agg new.toArray)(h1:∀u∈new,u.oneCell'=true)(hs:(P.info? t).map (·.size)=some new.length)(ho:o+new.length<=m*sz)
  (hk:∀w',Hp w0 w' (L.set i (.row v e sz m (qM xs o new)))->RL P n ops k rest σ w'):RL P n ops k (⟨none,.store t x y,ty,pos,bO,none⟩::rest) σ w:=by
 obtain⟨w',hr,h2⟩:=Y5 (dst:=none) (ty:=ty) (pos:=pos) (bO:=bO) (g:=none) hH hi hm hx hy h1 hs ho
 exact Ie hr (hk w' h2)
variable{fuel j:Nat}{listed:Array Bool}{L':List bu}
theorem aDO{o:Nat}{new:List Value}(hj:l[j]?=some ⟨none,.store t x y,ty,pos,bO,g⟩)(hg:∀a,Is n σ a->Region.wanted ⟨none,.store t x y,ty,pos,bO,g⟩ (yielded l.toArray a.tmps)=true)(hH:Hp w0 w L)(hi:L[i]?=some (.row v e sz m xs))(hsub:∀ys,L'.Sublist (L.set i (.row v e sz m ys)))(hm:0<m)
  (hx:ev σ x= .pointer (some ⟨sb v,so v+o,none⟩)) (hy:ev σ y= .agg new.toArray) (h1:∀u∈new,u.oneCell'=true) (hs:(P.info? t).map (·.size)=some new.length) (ho:o+new.length<=m*sz)
  (hk:∀w',Hp w0 w' (L.set i (.row v e sz m (qM xs o new)))->AN P n l (fun w=>Hp w0 w L') k fuel (listed.setIfInBounds j true) σ w'):AO P n l (fun w=>Hp w0 w L') k fuel listed σ w j:=by
 obtain⟨w',hr,h2⟩:=Y5 (dst:=none) (ty:=ty) (pos:=pos) (bO:=bO) (g:=g) hH hi hm hx hy h1 hs ho
 exact Ii hj hg hr (h2.sub (hsub _)) (hk w' h2)
theorem U9{sT:TypeId}{u:Value}{c dLen dCap o m':Nat}{cells:List Value}(hH:Hp w0 w L)(hi:L[i]?=some (.row v e sz m xs))(hm:0<m)(hu:P.underlying t=some (.slice et))(hs:(P.info? et).map (·.size)=some sz)
  (hx:ev σ x= .slice (some ⟨sb v,so v+o*sz,none⟩) dLen dCap) (hy:ev σ y=u) (hS:Sl w u sz m' cells) (hc:Nat.min m' dLen=c) (ho:o+c<=m) (h1:∀q∈cells,q.oneCell'=true):
  ∃w',(execOp (ev σ) ⟨dst,.call {callee:= .builtin .copy,args:=#[x,y],argTypes:=#[t,sT]},ty,pos,bO,g⟩).run P w= .ok (.value (goInt c)) w'/\Hp w0 w' (L.set i (.row v e sz m (qM xs (o*sz) (cells.take (c*sz))))):=by
 obtain⟨gb,cap,rfl,hnc,cur,hg,hcs,ht,hk⟩:=hH.KX hi hm
 obtain⟨ua,Vb,rfl,huc,hua⟩:=hS.shape
 have oy:=hS.len
 have hcm:m*sz<=cap*sz:=r6 _ hnc
 have Y6:c<=m':=by rw[<-hc];exact Nat.min_le_left _ _
 have hlt:(cells.take (c*sz)).length=c*sz:=by rw[dW,oy,qt (r6 _ Y6)]
 have hoc:o*sz+c*sz<=m*sz:=by rw[<-lz];exact r6 _ ho
 have hx':ev σ x= .slice (some ⟨gb,o*sz,none⟩) dLen dCap:=by rw[hx];simp only[sb,so,gO]
 have hst:=XT P gb (o*sz) e (cells.take (c*sz)) 0 cur w hg (by rw[hlt];omega) (fun q hq=>h1 q (r7 hq))
 have awR:(Builtin.firstCells sz c (.slice ua m' Vb)).run P w= .ok (cells.take (c*sz)).toArray w:=by
  by_cases hz:c*sz=0
  .rw[hz,xK]
   cases ua with
   |none=>simp[Builtin.firstCells,hz]
   |some a=>have:=run_loadCells_list (P:=P) w a [] (fun j v hv=>by simp at hv);simpa[Builtin.firstCells,hz]using this
  have hm0:0<m':=by
   rcases Rs m' with h|h
   .rw[show c=0 by omega]at hz;simp at hz
   exact h
  have hl:=run_loadCells_list (P:=P) w ⟨sb (.slice ua m' Vb),so (.slice ua m' Vb),none⟩ (cells.take (c*sz)) (fun j q hq=>by
   rw[CF]
   rw[u9]at hq
   split at hq
   .exact hS.cell j q hq
   .cases hq)
  rw[hlt]at hl
  rw[hua hm0]
  simpa[Builtin.firstCells]using hl
 refine⟨w.setRow gb (cur.toList.take (o*sz)++cells.take (c*sz)++cur.toList.drop (o*sz+(cells.take (c*sz)).length)).toArray,?_,?_⟩
 rotate_left
 .have h2:=hk (cur.toList.take (o*sz)++cells.take (c*sz)++cur.toList.drop (o*sz+(cells.take (c*sz)).length)).toArray (by
   simp only[vb,ec,dW,yE,E0];rw[oy]
   have:min (c*sz) (m'*sz)=c*sz:=qt (r6 _ Y6)
   omega)
  rw[show(cur.toList.take (o*sz)++cells.take (c*sz)++cur.toList.drop (o*sz+(cells.take (c*sz)).length)).toArray.toList=cur.toList.take (o*sz)++cells.take (c*sz)++cur.toList.drop (o*sz+(cells.take (c*sz)).length)from O,Gy (by rw[hlt];omega) R8,ht]at h2
  exact h2
 have hq:∃ii,P.info? et=some ii/\ii.size=sz:=by
  cases hq:P.info? et with
  |none=>simp[hq]at hs
  |some ii=>exact⟨ii,rfl,by simpa[hq]using hs⟩
 obtain⟨ii,hii,his⟩:=hq
 rw[LB]at hst
 have hcp:(Builtin.copy_ #[t,sT] ty #[.slice (some ⟨gb,o*sz,none⟩) dLen dCap,.slice ua m' Vb]).run P w= .ok (goInt c) (w.setRow gb (cur.toList.take (o*sz)++cells.take (c*sz)++cur.toList.drop (o*sz+(cells.take (c*sz)).length)).toArray):=by
  have hc2:min m' dLen=c:=hc
  simp[Builtin.copy_,kp hu,Builtin.lenOf,sizeOf,typeInfo,hii,his,hc,hc2,awR]
  have awS:=hst
  simp at awS
  rw[awS];rfl
 simp[execOp,resolve,invoke,builtin,hx',hy,hcp]
theorem CG{j fuel:Nat}{listed:Array Bool}{L':List bu}{Q:World->Prop}{vv:Value}(hj:l[j]?=some ⟨some d,op,ty,pos,bO,g⟩)(hg:∀a,Is n σ a->Region.wanted ⟨some d,op,ty,pos,bO,g⟩ (yielded l.toArray a.tmps)=true)(hd:Nat.blt d n=true)(h:∃w',(execOp (ev σ) ⟨some d,op,ty,pos,bO,g⟩).run P w= .ok (.value vv) w'/\Q w')(hQ:∀w',Q w'->Hp w0 w' L')
 (hk:∀w',Q w'->AN P n l (fun w=>Hp w0 w L') k fuel (listed.setIfInBounds j true) (lZ σ d vv) w'):AO P n l (fun w=>Hp w0 w L') k fuel listed σ w j:=by grind[Cs]
def o8(v:Value)(sz i:Nat):Value:=
 match v with
 | .slice a n cap=> .slice (if cap=i then a else a.map (·.add (i*sz))) (n-i) (cap-i)
 |v=>v
theorem ahw(hH:Hp w0 w L)(hi:L[i]?=some (.row v e sz m xs))(hm:0<m):∃gb cap,v= .slice (some ⟨gb,0,none⟩) m cap/\m<=cap:=by
 obtain⟨gb,cap,h,h2,-⟩:=hH.KX hi hm;exact⟨gb,cap,h,h2⟩
theorem ahx(xs:List Value)(o:Nat):qM xs o []=xs:=by simp[qM]
theorem qC{sT:TypeId}{u:Value}{c o m':Nat}{cells:List Value}(hH:Hp w0 w L)(hi:L[i]?=some (.row v e sz m xs))(hm:0<m)(hu:P.underlying t=some (.slice et))(hs:(P.info? et).map (·.size)=some sz)
  (hx:ev σ x=o8 v sz o) (hy:ev σ y=u) (hS:Sl w u sz m' cells) (hc:Nat.min m' (m-o)=c) (ho:o<=m) (h1:∀q∈cells,q.oneCell'=true):
  ∃w',(execOp (ev σ) ⟨dst,.call {callee:= .builtin .copy,args:=#[x,y],argTypes:=#[t,sT]},ty,pos,bO,g⟩).run P w= .ok (.value (goInt c)) w'/\Hp w0 w' (L.set i (.row v e sz m (qM xs (o*sz) (cells.take (c*sz))))):=by
 obtain⟨gb,cap,rfl,hcap⟩:=ahw hH hi hm
 have hcm:c<=m-o:=by have h:=Nat.min_le_right m' (m-o);rwa[show min m' (m-o)=c from hc]at h
 by_cases hco:cap=o
 .have h0:c=0:=J
  subst h0
  have hx':ev σ x= .slice (some ⟨sb (.slice (some ⟨gb,0,none⟩) m cap),so (.slice (some ⟨gb,0,none⟩) m cap)+0*sz,none⟩) (m-o) (cap-o):=by rw[hx];simp[o8,hco,sb,so]
  obtain⟨w',hr,h2⟩:=U9 (sT:=sT) (dst:=dst) (ty:=ty) (pos:=pos) (bO:=bO) (g:=g) (o:=0) hH hi hm hu hs hx' hy hS hc J h1
  refine⟨w',hr,?_⟩
  simp only[RH,xK,ahx]at h2⊢
  exact h2
 refine U9 (dLen:=m-o) (dCap:=cap-o) hH hi hm hu hs ?_ hy hS hc J h1
 rw[hx]
 simp only[o8,aT hco,qV,CF,sb,so]
theorem aDQ{Q:World->Prop}{vv:Value}(hd:Nat.blt d n=true)(h:∃w',(execOp (ev σ) ⟨some d,op,ty,pos,bO,none⟩).run P w= .ok (.value vv) w'/\Q w')
 (hk:∀w',Q w'->RL P n ops k rest (lZ σ d vv) w'):RL P n ops k (⟨some d,op,ty,pos,bO,none⟩::rest) σ w:=by grind[pu]
theorem Sl.fr{cells:List Value}(h:Sl w v sz m cells)(o:Nat)(ho:o<=m):Sl w (o8 v sz o) sz (m-o) (cells.drop (o*sz)):=by
 obtain⟨a,cap,rfl,hcap,ha⟩:=h.shape
 have hl:=h.len
 refine⟨?_,by rw[yE,hl,Nat.sub_mul],fun j c hj=> ?_,by have:=h.small;omega⟩
 .by_cases h0:0<m-o
  .have h1:=ha J
   have hco:¬cap=o:=J
   refine⟨_,cap-o,rfl,J,fun _=> ?_⟩
   rw[h1];simp only[o8,aT hco,qV,CF,sb,so]
  exact⟨_,cap-o,rfl,J,fun h=>absurd h h0⟩
 have h0:0<m-o:=by
  rcases Rs (m-o)with h0|h0
  .rw[List.drop_eq_nil_of_le (by rw[hl];exact r6 _ J)]at hj;cases hj
  exact h0
 rw[B5]at hj
 have h1:=ha J
 have h2:=h.cell _ _ hj
 have hco:¬cap=o:=J
 have e1:sb (o8 (.slice a m cap) sz o)=sb (.slice a m cap):=by rw[h1];simp only[o8,aT hco,qV,CF,sb,so]
 have e2:so (o8 (.slice a m cap) sz o)=so (.slice a m cap)+o*sz:=by rw[h1];simp only[o8,aT hco,qV,CF,sb,so]
 rw[e1,e2,zH];exact h2
theorem gD{lo:Operand}{q:Int}{cells:List Value}(hS:Sl w v sz m cells)(hu:P.underlying t=some (.slice et))(hs:∀w,(sizeOf et).run P w= .ok sz w)(hx:ev σ x=v)(hlo:ev σ lo=I q)(h:0<=q/\q<=m):
  (execOp (ev σ) ⟨dst,.slice t x (some lo) none none,ty,pos,bO,g⟩).run P w= .ok (.value (o8 v sz q.toNat)) w:=by
 obtain⟨a,cap,rfl,hcap,ha⟩:=hS.shape
 have h1:0<=q/\q<=(m:Int):=h
 have h2:(Instr.slice t (.slice a m cap) (some (I q)) none none).run P w= .ok (o8 (.slice a m cap) sz q.toNat) w:=by
  simp[Instr.slice,Instr.sliceBounds,Instr.sliceBound,kp hu,asIntOf,h1,hs,o8]
 have h3:(Instr.sliceAt t (.slice a m cap) (some (I q)) none none).run P w= .ok (o8 (.slice a m cap) sz q.toNat) w:=by
  simp[Instr.sliceAt,kp hu,h2]
 simp[execOp,hx,hlo,h3]
end
end
end Go.Proofs.YtlhjdflgjbkpmaaGreatDoor.E

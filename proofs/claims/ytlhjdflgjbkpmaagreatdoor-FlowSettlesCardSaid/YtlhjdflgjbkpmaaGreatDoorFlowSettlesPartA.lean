/- Part 1 of the proof of FlowSettles: its plain laws and the walks of its functions. -/
import Derived.WalkKit
import Derived.ProofKit
import Derived.Deep.Quiet
import Derived.Laws.AppendOwn
import Derived.Laws.CopyRow
import Derived.Laws.Tables
import Derived.Deep.MidRow
import Derived.Great.BuildSlice
import Derived.OrdersHeld
import Derived.Laws.CopyOwn
import Derived.WalkLawsBesides
import Derived.Laws.StructEq
import Derived.Laws.Rows
import Derived.Laws.Strings
import Derived.Laws.Concat
import Derived.Lib.AppendStr
import Derived.Laws.BytesArg
import Derived.Laws.MakeOwn
import Derived.MapKept
import Derived.Laws.IdiomRangeMap
import Derived.Scope
import Derived.ArgAppend
import Derived.OpenShut
import Derived.ChangeSlices
import Derived.WideShapes
import Derived.Carry
import Derived.Deep.Strs
import Derived.Test.YtlhjdflgjbkpmaaGreatDoorProg
import Derived.Tactics
import Derived.Tactics2
import Derived.Defers
import Derived.Laws.Pointers
import Derived.Laws.LoneSync
import Derived.RegionTactic
import Derived.RegionCalls
import Derived.ChangeAlike
import Derived.Ground.NamesProg
import Derived.Shelf.Slices.In.SortNone
import Derived.Sort.EveryDepth
import Derived.Sort.OwnSortedInts
import Derived.Test.YtlhjdflgjbkpmaaGreatDoorCards
import Derived.Test.YtlhjdflgjbkpmaaGreatDoorTie
import Derived.Deep.DeepHandedRow
import Derived.Lib.LaidTab
set_option linter.all false
namespace Go.Proofs.YtlhjdflgjbkpmaaGreatDoor
section
open Go Go.RowKit Go.Proofs.Tryz
def bH:=@List.mem_append_right
def aK:=@congrArg
def bx:=@underlying3
def bD:=@underlying99
def bS:=@underlying86
def aT:=@if_neg
def eT:=@List.getD_eq_getElem?_getD
def aX:=@if_pos
def dZ:=@List.length_append
def dG:=@List.append_assoc
def aO:=@sizeOf3
def bI:=@underlying37
def bV:=@underlying46
def cL:=@Bool.and_eq_true
def eD:=@List.getElem?_eq_getElem
def dL:=@List.mem_append_left
def cr:=@underlying111
def ez:=@List.length_singleton
def er:=@List.length_take
def fq:=@List.length_cons
def c8:=@List.mem_cons
def dh:=@underlying100
def fX:=@List.mem_cons_of_mem
def gF:=@List.length_map
def eA:=@Int.toNat_natCast
def eE:=@decide_eq_true_eq
def di:=@underlying31
def dm:=@underlying56
def dr:=@underlying54
def dy:=@underlying88
def gk:=@Int.toNat_of_nonneg
def eN:=@List.nil_append
def gG:=@List.mem_singleton
def dM:=@underlying35
def fg:=@List.mem_append
def ji:=@List.take_of_length_le
def gA:=@List.cons_append
def dW:=@underlying83
def dX:=@underlying90
def cP:=@sizeOf35
def gZ:=@decide_eq_false
def gU:=@List.map_append
def jg:=@List.set_cons_zero
def fP:=@underlying222
def gV:=@Bool.eq_iff_iff
def nW:=@List.setIfInBounds_toArray
def nX:=@List.getElem?_eq_some_iff
def gN:=@Nat.zero_add
def fJ:=@underlying44
def iS:=@List.all_eq_true
def gW:=@decide_eq_true
def eU:=@Nat.le_refl
def fZ:=@List.mem_map
def dH:=@sizeOf99
def lO:=@List.mem_of_getElem?
def hG:=@underlying103
def gH:=@underlying25
def kW:=@List.set_cons_succ
def ix:=@underlying109
def ia:=@underlying34
def lQ:=@List.pairwise_cons
def oc:=@List.getElem?_eq_none
def iP:=@underlying22
def jj:=@underlying128
def iy:=@underlying9
def kf:=@run_underlying
def fh:=@sizeOf37
def r7:=@Nat.min_eq_left
def wU:=@Array.getD_eq_getD_getElem?
def wV:=@List.perm_append_comm_assoc
def mY:=@List.append_nil
def nY:=@List.length_set
def wW:=@decide_eq_false_iff_not
def kK:=@underlying39
def lR:=@List.map_cons
def kX:=@Nat.le_trans
def F5:=@List.flatMap_append
def s4:=@Nat.mul_le_mul_right
def qp:=@List.getElem?_map
def mA:=@underlying105
def mZ:=@underlying220
def lS:=@underlying23
def u7:=@List.Perm.append_left
def jB:=@sizeOf100
def u9:=@List.mem_of_mem_take
def m4:=@underlying40
def oe:=@underlying102
def r8:=@List.getElem_mem
def uE:=@Bool.false_eq_true
def nZ:=@underlying28
def Eg:=@Array.getElem?_setIfInBounds
def qq:=@List.mem_range
def pD:=@underlying101
def uF:=@List.flatMap_cons
def yB:=@List.length_drop
def jC:=@sizeOf54
def oX:=@underlying63
def oY:=@underlying98
def oZ:=@underlying26
def F6:=@List.eq_nil_of_length_eq_zero
def sw:=@List.mem_of_mem_drop
def lT:=@underlying193
def p7:=@List.getElem?_set
def vb:=@List.size_toArray
def og:=@List.nodup_cons
def qS:=@List.getElem?_take
def qT:=@List.mem_cons_self
def tZ:=@List.perm_append_comm
def mG:=@Bool.true_and
def o9:=@List.foldl_cons
def sx:=@BitVec.getLsbD_and
def ny:=@underlying212
def lm:=@Nat.add_mul
def xJ:=@List.filter_cons_of_pos
def ud:=@List.getElem_of_mem
def mH:=@underlying93
def p8:=@Bool.or_eq_true
def zw:=@List.getElem?_append_left
def ER:=@List.take_succ_eq_append_getElem
def vc:=@List.mem_iff_getElem
def lU:=@Nat.mul_one
def lW:=@Int.le_refl
def iW:=@sizeOf86
def qU:=@Option.map_some
def B0:=@Array.getElem?_eq_some_iff
def jm:=@sizeOf46
def zx:=@List.filter_cons_of_neg
def kg:=@sizeOf103
def uf:=@List.ext_getElem?
def nM:=@Nat.zero_le
def qV:=@Bool.false_and
def jV:=@Eq.trans
def ES:=@Array.length_toList
def ET:=@List.getElem?_append_right
def xK:=@List.take_zero
def jo:=@call150
def qW:=@underlying117
def qX:=@underlying154
def p9:=@underlying42
def kO:=@sizeOf39
def zy:=@List.getElem?_range
def Hy:=@List.take_succ_cons
def xL:=@Result.andThen_ok
def xM:=@List.take_add_one
def xN:=@List.foldl_append
def ug:=@DataW.trod_int
def qY:=@underlying58
def ko:=@sizeOf9
def sy:=@underlying84
def ve:=@List.take_left
def xO:=@List.range_succ
def xP:=@List.mem_filter
def Hz:=@Classical.byContradiction
def K5:=@List.take_append_of_le_length
def K6:=@List.drop_append_of_le_length
def uh:=@Sem.run_bind
def zA:=@List.getElem_set
def B3:=@List.getElem?_drop
def K7:=@Bool.false_ne_true
def nN:=@sizeOf22
def uj:=@underlying91
def pc:=@sizeOf109
def EU:=@List.contains_eq_mem
def EV:=@List.pairwise_append
def xQ:=@Nat.mul_le_mul
def B4:=@Bool.not_eq_true'
def qa:=@sizeOf220
def uk:=@underlying4
def xR:=@Nat.add_assoc
def B5:=@List.filter_cons
def pe:=@sizeOf83
def pg:=@sizeOf90
def HA:=@BitVec.eq_of_toNat_eq
def HB:=@List.getElem?_toArray
def HC:=@List.take_append_drop
def K8:=@Bool.and_false
def nO:=@call149
def K9:=@Decidable.byContradiction
def Q6:=@List.eq_nil_iff_forall_not_mem
def HD:=@Decidable.of_not_not
def qb:=@sizeOf88
def oh:=@sizeOf4
def zB:=@underlying107
def zC:=@underlying156
def HE:=@List.map_congr_left
def EW:=@List.any_eq_true
def B6:=@List.take_take
def EX:=@List.take_length
def EY:=@List.perm_middle
def B7:=@Int.le_add_one
def xS:=@cell_of_row
def La:=@List.drop_of_length_le
def zD:=@Code.wp_mono
def Lc:=@List.sizeOf_lt_of_mem
def EZ:=@List.count_cons
def B8:=@List.map_take
def B9:=@underlying119
def HF:=@List.pairwise_map
def Q7:=@List.pairwise_iff_getElem
def Q8:=@List.drop_eq_getElem_cons
def Q9:=@List.mem_take_iff_getElem
def Xv:=@List.set_eq_take_append_cons_drop
def vh:=@sizeOf107
def E0:=@List.drop_left
def HG:=@List.mem_nil_iff
def Ca:=@List.map_nil
def um:=@sizeOf84
def Cb:=@underlying59
def uo:=@sizeOf56
def uq:=@sizeOf23
def ur:=@sizeOf98
def Ld:=@List.drop_succ_cons
def Lf:=@Int.sub_lt_sub_left
def E1:=@List.sum_cons
def E2:=@underlying233
def Lg:=@List.map_singleton
def HH:=@List.length_nil
def xT:=@sizeOf102
def Lh:=@Int.toNat_lt_toNat
def Ra:=@BitVec.toNat_shiftLeft
def Rb:=@List.length_pos_of_mem
def vi:=@sizeOf58
def vk:=@sizeOf40
def Li:=@of_decide_eq_true
def Lj:=@DataW.trod_string
def Rc:=@Decidable.not_not
def Lk:=@Int.sub_pos_of_lt
def uu:=@if_true
def Re:=@List.length_replicate
def E3:=@underlying72
def uv:=@call159
def Xw:=@List.take_length_add_append
def zE:=@false_iff
def zF:=@sizeOf105
def zG:=@sizeOf101
def xU:=@if_false
def Cc:=@beq_iff_eq
def Ll:=@List.mem_toArray
def xV:=@sizeOf34
def xW:=@sizeOf26
def HI:=@underlying143
def Xx:=@List.sublist_append_right
def Lm:=@List.cons.injEq
def Rf:=@BitVec.toNat_ofInt
def Xy:=@BitVec.toNat_ushiftRight
def HJ:=@Addr.add_mid
def Rg:=@BitVec.getLsbD_not
def Xz:=@List.length_erase_of_mem
def Rh:=@List.filter_append
def Ri:=@Nat.eq_zero_or_pos
def XA:=@Array.size_setIfInBounds
def zH:=@sizeOf25
def Ln:=@List.drop_zero
def XB:=@List.getElem?_replicate
def Rj:=@List.length_range
def XC:=@Array.getElem?_eq_none
def XD:=@List.pairwise_lt_range
def XE:=@List.range_succ_eq_map
def Lo:=@underlying210
def Lp:=@underlying115
def Lq:=@underlying159
def Rk:=@Option.bind_some
def Rm:=@BitVec.toNat_sub
def Ro:=@Nat.shiftLeft_eq
def Rp:=@decide_eq_decide
def Cd:=@or_false
def Rq:=@Option.getD_some
def Ce:=@sizeOf91
def XF:=@List.mem_iff_getElem?
def XG:=@Nat.pow_le_pow_right
def XH:=@BitVec.getLsbD_ofNat
def Rr:=@run_equalIn_int
def Lr:=@Nat.add_zero
def afi:=@Array.eq_empty_of_size_eq_zero
def Ls:=@Int.le_trans
def Lt:=@underlying65
def XI:=@BitVec.getLsbD_zero
def XJ:=@Array.getElem?_push
def Rs:=@List.drop_drop
def Rt:=@List.Perm.refl
def Cf:=@Iff.rfl
def Cg:=@call154
def E4:=@sizeOf63
def Lu:=@Int.lt_succ
def XK:=@BitVec.toNat_ofNat
def XL:=@Nat.lt_of_lt_of_le
def XM:=@Nat.lt_or_gt_of_ne
def afj:=@Nat.testBit_two_pow_sub_one
def afk:=@Nat.testBit_two_pow_mul_add
def XN:=@Array.ext_getElem?
def XO:=@List.append_of_mem
def HK:=@sizeOf143
def HL:=@sizeOf154
def zI:=@call44
def XP:=@Int.toNat_le_toNat
def afl:=@Int.tdiv_eq_ediv_of_nonneg
def afm:=@BitVec.getLsbD_ushiftRight
def Ru:=@underlying162
def Rv:=@underlying135
def Rw:=@underlying114
def XQ:=@Option.some.injEq
def XR:=@run_storeCells_at
def XS:=@BitVec.getLsbD_or
def XT:=@not_false_eq_true
def XU:=@Int.lt_trichotomy
def XV:=@List.any_eq_false
def XW:=@List.count_append
def afn:=@Nat.shiftRight_eq_div_pow
def afo:=@Array.getElem?_eq_getElem
def E5:=@Ne.symm
def E6:=@call128
def afp:=@Array.getElem?_replicate
def XX:=@BitVec.toNat_inj
def XY:=@Nat.min_eq_right
def Rx:=@Nat.sub_self
def Ry:=@Nat.zero_mul
def RA:=@List.map_map
def XZ:=@List.flatMap_map
def X0:=@List.ext_getElem
def afq:=@List.Pairwise.imp_of_mem
def afr:=@List.sublist_append_left
def HM:=@sizeOf42
def X3:=@Nat.div_add_mod
def X4:=@run_eqGuard_agg
def X5:=@and_congr_right
def X6:=@Int.min_eq_left
def X7:=@List.headD_cons
def Lv:=@sizeOf233
def Lw:=@sizeOf128
def RB:=@Nat.one_mul
def RC:=@wpAnyH_take
def X8:=@List.range_add
def HN:=@call179
def HO:=@call199
def HP:=@call144
def RD:=@Array.ext'
def Lx:=@sizeOf44
def X9:=@wp_region_any
def Ya:=@wpAny_of_held
def Yb:=@Bool.and_true
def Yc:=@List.map_drop
def Yd:=@Prod.mk.injEq
def Ye:=@run_call_load
def Yf:=@underlying199
def Yg:=@underlying139
def O:=@rfl
theorem J{p:Prop}(h:p:=by omega):p:=h
theorem aW{p:Prop}(h:p:=by (try dsimp only);omega):p:=h
theorem aP{p:Prop}(h:p:=by kernel_rfl):p:=h
theorem az{p:Prop}(h:p:=by decide):p:=h
theorem bA{p:Prop}(h:p:=by conv=>lhs;whnf):p:=h
theorem wX{p:Prop}(h:p:=by have:=(fQ hr h0 ‹k<_› Eh ‹¬(List.getD l k.toNat bG).op=1› ‹¬(List.getD l k.toNat bG).op=2›);omega):p:=h
theorem aM{p:Prop}(h:p:=by rfl):p:=h
theorem aJ{p:Prop}(h:p:=by simp):p:=h
theorem iz{p:Prop}(h:p:=by simp only[maxLen];omega):p:=h
theorem Ua{p:Prop}(h:p:=by have afs:=Pt ‹mC s.sh=true› h0 (show k<s.sh.aY.length by omega);rw[iF]at afs;have:=(pE afs).1;have:(s.aY.getD k.toNat iB).fc.names=(s.aY.getD k.toNat iB).names:=rfl;omega):p:=h
theorem gX{p:Prop}(h:p:=by simp[Value.oneCell']):p:=h
theorem Ch{p:Prop}(h:p:=by simp only[maxLen];((show 0+((st.length:Int)-(l.getD k.toNat bG).n).toNat+1<=_;omega))):p:=h
theorem Ci{p:Prop}(h:p:=by show(0+((st.length:Int)-(l.getD k.toNat bG).n).toNat+1)*_<=_;omega):p:=h
theorem ph{p:Prop}(h:p:=by simp only[gF,maxLen];omega):p:=h
theorem gd{p:Prop}(h:p:=by simp[maxLen]):p:=h
theorem jI{p:Prop}(h:p:=by rw[F7];rfl):p:=h
theorem iX{p:Prop}(h:p:=by simp;omega):p:=h
theorem HQ{p:Prop}(h:p:=by rw[HR cY,dZ,er,r7 J,F5,gN];rfl):p:=h
theorem Lz{p:Prop}(h:p:=by show _<(lG _ _ _ _ _).toArray.size;rw[vb,afu];decide):p:=h
theorem RE{p:Prop}(h:p:=by show((st.length:Int)-(l.getD k.toNat bG).n).toNat+1<=_;simp only[maxLen];omega):p:=h
theorem lz{p:Prop}(h:p:=by assumption):p:=h
theorem Cj{p:Prop}(h:p:=by rw[afv i0 hi];simp;omega):p:=h
theorem xX{p:Prop}(h:p:=by simp only[fq];omega):p:=h
theorem qZ{p:Prop}(h:p:=by simpa using hu):p:=h
theorem RF{p:Prop}(h:p:=by show(((st.length:Int)-(l.getD k.toNat bG).n).toNat+1)*_<=_;omega):p:=h
theorem Ck{p:Prop}(h:p:=by rw[Yh v0];simp[*]):p:=h
theorem Cl{p:Prop}(h:p:=by rw[Yi v0];simp[*]):p:=h
theorem RG{p:Prop}(h:p:=by rw[F7];have hln:=(n4 ‹mC s.sh=true›).1;omega):p:=h
theorem xY{p:Prop}(h:p:=by rw[F7];omega):p:=h
theorem RH{p:Prop}(h:p:=by rw[HR cY,dZ,er,r7 J,F5];rfl):p:=h
theorem RI{p:Prop}(h:p:=by first|rfl|(simp only[dG];done)|(simp only[dG];rfl)):p:=h
theorem E7{p:Prop}(h:p:=by rw[acU k0];simp_all):p:=h
theorem RJ{p:Prop}(h:p:=by have:=(hpl.at h0 ‹k<_› ‹E8 _=true›).1;omega):p:=h
theorem HS{p:Prop}(h:p:=by simp only[oL,fq];omega):p:=h
theorem Cm{p:Prop}(h:p:=by show min _ _=_;omega):p:=h
theorem RK{p:Prop}(h:p:=by have hln:=(n4 ‹mC s.sh=true›).1;omega):p:=h
theorem HT{p:Prop}(h:p:=by rw[iF];exact nt ‹_›):p:=h
theorem RM{p:Prop}(h:p:=by simp only[dG,Hy,xK,gA,eN];done):p:=h
theorem LA{p:Prop}(h:p:=by simpa using‹(!cS _ _)=true›):p:=h
theorem RN{p:Prop}(h:p:=by show ls.length+1<=_;simp only[maxLen];omega):p:=h
theorem RO{p:Prop}(h:p:=by show gr.length+1<=_;simp only[maxLen];omega):p:=h
theorem E9{p:Prop}(h:p:=by simp only[dZ];omega):p:=h
theorem xZ{p:Prop}(h:p:=by simpa using h):p:=h
theorem afw{p:Prop}(h:p:=by first|(rw[HU j0 ‹j<_›,aX hqq];done)|(rw[HU j0 ‹j<_›,aT hqq];done)|(rw[HU j0 ‹j<_›,aT hqq];rfl)):p:=h
theorem RP{p:Prop}(h:p:=by have:=Ub hr hk ‹¬k<_› Eh;omega):p:=h
theorem LB{p:Prop}(h:p:=by rw[hr];exact alR ‹_›):p:=h
theorem LC{p:Prop}(h:p:=by rw[LD,gZ J,K8]):p:=h
theorem LF{p:Prop}(h:p:=by simp[OU,Value.oneCell']):p:=h
theorem HV{p:Prop}(h:p:=by rw[HW];omega):p:=h
theorem RQ{p:Prop}(h:p:=by rw[Uc h0,gU,dZ];rfl):p:=h
theorem HX{p:Prop}(h:p:=by have:=hlc.dep;omega):p:=h
theorem zJ{p:Prop}(h:p:=by simp[undef]):p:=h
theorem q5{p:Prop}(h:p:=by simp[hx]):p:=h
theorem kp{p:Prop}(h:p:=by simp_all):p:=h
theorem zK{p:Prop}(h:p:=by simpa using hi):p:=h
theorem HY{p:Prop}(h:p:=by rw[zL];omega):p:=h
theorem afx{p:Prop}(h:p:=by have hlc:=nt ‹(!jD (sB s k))=true›;rw[jD,wW]at hlc;rw[uG,wW];omega):p:=h
theorem RR{p:Prop}(h:p:=by show(ls.length+1)*_<=_;omega):p:=h
theorem RT{p:Prop}(h:p:=by show(gr.length+1)*_<=_;omega):p:=h
theorem RU{p:Prop}(h:p:=by show(st.length+1)*_<=_;omega):p:=h
theorem Yj{p:Prop}(h:p:=by show gs.length+1<=_;simp only[maxLen];omega):p:=h
theorem Yk{p:Prop}(h:p:=by rw[half,show(k+1).toNat=k.toNat+1 by omega]):p:=h
theorem afy{p:Prop}(h:p:=by have:=(pF hf (i:=i.toNat) J).1;have:=(pF hf (i:=j.toNat) J).1;omega):p:=h
theorem HZ{p:Prop}(h:p:=by first|rfl|omega):p:=h
theorem mJ{p:Prop}(h:p:=by cases h):p:=h
theorem Yl{p:Prop}(h:p:=by simp only[dZ,er,iG];omega):p:=h
theorem Ym{p:Prop}(h:p:=by rw[Kq h0 ‹k<_›,<-dG];done):p:=h
theorem RV{p:Prop}(h:p:=by rw[Pu J];rfl):p:=h
theorem afz{p:Prop}(h:p:=by rw[iF];intro q;have q2:(s.aY.getD k.toNat iB).kind=4:=q.2;omega):p:=h
theorem LG{p:Prop}(h:p:=by rw[yB];omega):p:=h
theorem RW{p:Prop}(h:p:=by rw[h.llo];exact hp.1):p:=h
theorem RX{p:Prop}(h:p:=by rw[OV];exact K7):p:=h
theorem Fa{p:Prop}(h:p:=by simpa using h1):p:=h
theorem Yn{p:Prop}(h:p:=by rw[av1 J];simp[Hw];done):p:=h
theorem afB{p:Prop}(h:p:=by rw[HR cY,dZ,er,r7 J,F5,gN];done):p:=h
theorem Yo{p:Prop}(h:p:=by show(gs.length+1)*_<=_;omega):p:=h
theorem Yp{p:Prop}(h:p:=by unfold JU;((simp_all;done))):p:=h
theorem LH{p:Prop}(h:p:=by simpa using c):p:=h
theorem Yq{p:Prop}(h:p:=by simp only[gF,er];omega):p:=h
theorem LI{p:Prop}(h:p:=by (simp;omega)):p:=h
theorem afC{p:Prop}(h:p:=by show¬(1<=f.names.length/\f.names.length<=64);omega):p:=h
theorem H6{p:Prop}(h:p:=by simp;done):p:=h
theorem afD{p:Prop}(h:p:=by have:=afE r _ _ ‹(jh r _ _).2=true›;omega):p:=h
theorem RY{p:Prop}(h:p:=by rw[ES];omega):p:=h
theorem RZ{p:Prop}(h:p:=by rw[e0];exact zo):p:=h
theorem Yr{p:Prop}(h:p:=by rw[qt];exact Ju):p:=h
theorem R2{p:Prop}(h:p:=by show 0<2;decide):p:=h
theorem R3{p:Prop}(h:p:=by show 1<2;decide):p:=h
theorem afF{p:Prop}(h:p:=by simp only[maxLen];((show st.length+1<=_;omega))):p:=h
theorem afG{p:Prop}(h:p:=by have:=hui _ (dw (d:=0) h0 ‹k<_›);omega):p:=h
theorem afH{p:Prop}(h:p:=by rw[uH,nt ‹(!(q7 r i j).2)=true›];simp):p:=h
theorem afI{p:Prop}(h:p:=by exact .inr (nf ‹(!q9 s _ 1 x.a8)=false›)):p:=h
theorem afJ{p:Prop}(h:p:=by have:leads (bB (cl::A2))=leads cl:=rfl;omega):p:=h
theorem afK{p:Prop}(h:p:=by rw[alS,show(i+1).toNat=i.toNat+1 by omega]):p:=h
theorem afL{p:Prop}(h:p:=by rw[uH,nt ‹(!(jh r i j).2)=true›];rfl):p:=h
theorem afM{p:Prop}(h:p:=by exact .inl ‹¬(List.getD x.code _ _).op=1›):p:=h
theorem Ys{p:Prop}(h:p:=by simp only[gF];omega):p:=h
theorem afN{p:Prop}(h:p:=by show st.length+1<=_;simp only[maxLen];omega):p:=h
theorem afO{p:Prop}(h:p:=by rw[gF];(try rw[nY]);rw[Co];omega):p:=h
theorem afP{p:Prop}(h:p:=by have hb:=hbytes;simp only[gN]at hb;omega):p:=h
theorem R4{p:Prop}(h:p:=by rw[ha.eval];exact hc):p:=h
theorem aaT{p:Prop}(h:p:=by rw[Ud h0];exact Nat.le_add_right _ _):p:=h
theorem aaU{p:Prop}(h:p:=by exact .inl ‹¬(List.getD l _ _).op=1›):p:=h
theorem Kr{p:Prop}(h:p:=by rw[hg];omega):p:=h
theorem aaV{p:Prop}(h:p:=by simp;rcases x7 x y with e|e<;>omega):p:=h
theorem aaW{p:Prop}(h:p:=by exact .inr (Rc.1 ‹¬¬(_/\_)›)):p:=h
theorem aQ{p:Prop}(h:p:=by assumption):p:=h
end
end Go.Proofs.YtlhjdflgjbkpmaaGreatDoor
namespace Go.Proofs.YtlhjdflgjbkpmaaGreatDoor.E
section
open Go Go.RowKit
abbrev Env:=Nat->Value
def lX(σ:Env)(d:Nat)(v:Value):Env:=fun i=>if i=d then v else σ i
def ev(σ:Env):Operand->Value
 | .tmp t=>σ t
 | .const v=>v
 | .global g=> .pointer (some ⟨g,0,none⟩)
 | .func f=> .func (.func f) #[] #[]
theorem ard(σ:Env)(d:Nat)(v:Value):lX σ d v d=v:=by simp[lX]
theorem Yt(σ:Env){d i:Nat}(v:Value)(h:i≠d):lX σ d v i=σ i:=by simp[lX,h]
abbrev I(n:Int):Value:= .int .i64 n
abbrev U(x:BitVec 64):Value:= .int .u64 (x.toNat:Int)
abbrev B(b:Bool):Value:= .bool b
structure Is(n:Nat)(σ:Env)(a:Act):Prop where
 size:a.tmps.size=n
 get:∀t,a.tmps.getD t undef=σ t
 defers:a.defers=[]
section basics
variable{n:Nat}{σ:Env}{a:Act}
theorem Is.eval(h:Is n σ a):a.eval=ev σ:=by
 funext x
 cases x with
 |tmp t=>exact h.get t
 |const v=>rfl
 |global g=>rfl
 |func f=>rfl
theorem Is.put(h:Is n σ a){d:Nat}(hd:Nat.blt d n=true)(v:Value):Is n (lX σ d v) (a.put (some d) v):=by
 have hd':d<n:=by simpa[Nat.blt_eq]using hd
 refine⟨(by simp[Act.put,h.size]),fun t=> ?_,(by simp[Act.put,h.defers])⟩
 have:=h.get t
 simp only[Act.put,lX,wU]at*
 rw[Eg]
 by_cases ht:d=t
 .subst ht;simp[h.size,hd']
 rw[aT ht,aT (fun e=>ht e.symm)];exact this
theorem Is.look(h:Is n σ a){t:Nat}{v:Value}(hv:σ t=v)(hne:v≠undef):a.tmps[t]?=some v:=by
 have:=h.get t
 rw[hv,wU]at this
 cases hx:a.tmps[t]? with
 |none=>simp[hx]at this;exact absurd this.symm hne
 |some u=>simp[hx]at this;rw[this]
end basics
abbrev K:=Env->World->Prop
def post(n:Nat)(k:K)(xs:List (Nat×K))(r:K):Exit->Act->World->Prop
 | .normal,a,w=>∃σ,Is n σ a/\k σ w
 | .exit id,a,w=>∃σ,Is n σ a/\∃q,xs.lookup id=some q/\q σ w
 | .ret,a,w=>∃σ,Is n σ a/\r σ w
 |_,_,_=>False
def CW(P:Program)(n:Nat)(c:Code)(k:K)(xs:List (Nat×K))(r:K)(σ:Env)(w:World):Prop:=
 ∀a,Is n σ a->c.wp P (post n k xs r) a w
def r9(n:Nat)(k:K):Exit->Act->World->Prop
 | .normal,a,w=>∃σ,Is n σ a/\k σ w
 |_,_,_=>False
def RL(P:Program)(n:Nat)(ops:Array Oper)(k:K)(l:List Oper)(σ:Env)(w:World):Prop:=
 ∀a,Is n σ a->wpList P ops (r9 n k) l a w
section code
variable{P:Program}{n:Nat}{k:K}{xs:List (Nat×K)}{r:K}{σ:Env}{w:World}
theorem CW.mono{c:Code}{k':K}(h:CW P n c k xs r σ w)(hk:∀σ w,k σ w->k' σ w):CW P n c k' xs r σ w:=by
 intro a ha
 refine zD (fun e a' w' hq=> ?_) (h a ha)
 cases e with
 |normal=>obtain⟨σ',h1,h2⟩:=hq;exact⟨σ',h1,hk _ _ h2⟩
 |exit id=>exact hq
 |ret=>exact hq
 |goto l=>exact hq
 |panic c=>exact hq
 |outgrown=>exact hq
theorem an(h:k σ w):CW P n .skip k xs r σ w:=fun a ha=>wp_skip ⟨σ,ha,h⟩
theorem aj(h:r σ w):CW P n .ret k xs r σ w:=fun a ha=>wp_ret ⟨σ,ha,h⟩
theorem a7{id:Nat}{q:K}(hq:xs.lookup id=some q)(h:q σ w):CW P n (.exit id) k xs r σ w:=
 fun a ha=>wp_exit ⟨σ,ha,q,hq,h⟩
theorem ai{x y:Code}(h:CW P n x (fun σ w=>CW P n y k xs r σ w) xs r σ w):CW P n (.seq x y) k xs r σ w:=by
 intro a ha
 refine wp_seq (zD (fun e a' w' hq=> ?_) (h a ha))
 cases e with
 |normal=>obtain⟨σ',h1,h2⟩:=hq;exact h2 _ h1
 |exit id=>exact hq
 |ret=>exact hq
 |goto l=>exact hq
 |panic c=>exact hq
 |outgrown=>exact hq
theorem afQ{x y:Code}(m:K)(h:CW P n x m xs r σ w)(h':∀σ w,m σ w->CW P n y k xs r σ w):CW P n (.seq x y) k xs r σ w:=
 ai (h.mono h')
theorem bW{c:Operand}{x y:Code}{t:Bool}(hc:ev σ c= .bool t)(ht:t=true->CW P n x k xs r σ w)
  (hf:t=false->CW P n y k xs r σ w):CW P n (.cond c x y) k xs r σ w:=
 fun a ha=>wp_cond_split R4 (fun h=>ht h a ha) (fun h=>hf h a ha)
theorem cA{c:Operand}{x y:Code}(hc:ev σ c= .bool true)(ht:CW P n x k xs r σ w):CW P n (.cond c x y) k xs r σ w:=
 fun a ha=>wp_cond_true R4 (ht a ha)
theorem cQ{c:Operand}{x y:Code}(hc:ev σ c= .bool false)(hf:CW P n y k xs r σ w):CW P n (.cond c x y) k xs r σ w:=
 fun a ha=>wp_cond_false R4 (hf a ha)
theorem aF{c:Operand}{x y:Code}{p:Prop}[inst:Decidable p](hc:ev σ c= .bool (decide p))(ht:p->CW P n x k xs r σ w)
 (hf:¬p->CW P n y k xs r σ w):CW P n (.cond c x y) k xs r σ w:=by grind[bW]
theorem aA{id:Nat}{c:Code}(h:CW P n c k ((id,k)::xs) r σ w):CW P n (.block id c) k xs r σ w:=by
 intro a ha
 refine wp_block (zD (fun e a' w' hq=> ?_) (h a ha))
 cases e with
 |normal=>exact hq
 |exit id'=>
  obtain⟨σ',h1,q,h2,h3⟩:=hq
  simp only[Exit.inBlock]
  by_cases hid:id'=id
  .rw[aX hid];subst hid
   simp only[List.lookup_cons,beq_self_eq_true,XQ]at h2
   subst h2;exact⟨σ',h1,h3⟩
  rw[aT hid]
  have hb:(id'==id)=false:=by simpa using hid
  simp only[List.lookup_cons,hb]at h2
  exact⟨σ',h1,q,h2,h3⟩
 |ret=>exact hq
 |goto l=>exact hq
 |panic c=>exact hq
 |outgrown=>exact hq
theorem bt{c:Code}{G:Type}(inv:G->K)(mu:G->Nat)(g0:G)(h0:inv g0 σ w)
  (round:∀g σ w,inv g σ w->CW P n c (fun σ' w'=>∃g',mu g'<mu g/\inv g' σ' w') xs r σ w):CW P n (.loop c) k xs r σ w:=by
 intro a ha b kk cs
 have key:∀m g σ w a,mu g=m->inv g σ w->Is n σ a->
   ∃e a' w',post n k xs r e a' w'/\Arrives P (lone (b.at a (.code c:: .inLoop c::kk)) cs w) b kk cs e a' w':=by
  intro m
  induction m using Nat.strongRecOn with
  |_ m ih=>
   intro g σ w a hm hi ha
   obtain⟨e,a',w',hq,afR⟩:=round g σ w hi a ha b (.inLoop c::kk) cs
   cases e with
   |normal=>
    obtain⟨σ',h1,g',hlt,hi'⟩:=hq
    obtain⟨e2,a2,w2,hq2,av2⟩:=ih (mu g') (hm▸hlt) g' σ' w' a' O hi' h1
    exact⟨e2,a2,w2,hq2,.of_steps (Steps.trans afR (.one step_inLoop)) av2⟩
   |exit id=>exact⟨.exit id,a',w',hq,.pass (x:= .inLoop c) O (fun _ _=> .inl aJ) afR⟩
   |ret=>exact⟨.ret,a',w',hq,.pass (x:= .inLoop c) O (fun _ _=> .inl aJ) afR⟩
   |goto l=>exact hq.elim
   |panic c=>exact hq.elim
   |outgrown=>exact hq.elim
 obtain⟨e,a',w',hq,afR⟩:=key _ g0 σ w a O h0 ha
 exact⟨e,a',w',hq,.of_steps (.one step_loop) afR⟩
theorem au{id:Nat}{l:List Oper}(h:RL P n l.toArray k l σ w):CW P n (.region id l.toArray false) k xs r σ w:=by
 intro a ha
 refine zD (fun e a' w' hq=> ?_) (wp_region_lit (id:=id) (h a ha))
 cases e with
 |normal=>exact hq
 |exit id=>exact hq.elim
 |ret=>exact hq.elim
 |goto l=>exact hq.elim
 |panic c=>exact hq.elim
 |outgrown=>exact hq.elim
end code
def jW(q:Value->World->Prop):Ending->World->Prop
 | .returned v,w=>q v w
 |_,_=>False
theorem jW.mono{q q':Value->World->Prop}(h:∀v w,q v w->q' v w){e:Ending}{w:World}(hr:jW q e w):jW q' e w:=by
 cases e with
 |returned v=>exact h v w hr
 |panicked c=>exact hr
 |outgrown=>exact hr
theorem jW.calls{P:Program}{f:FuncId}{args:Array Value}{w:World}{q q':Value->World->Prop}(hc:Calls P f args w (jW q))(h:∀v w,q v w->q' v w):Calls P f args w (jW q'):=hc.mono fun _ _ hr=>hr.mono h
def entry(args:Array Value):Env:=fun i=>args.getD i undef
theorem afS(args:Array Value)(n:Nat)(h:args.size<=n):Is n (entry args) {tmps:=args++Array.replicate (n-args.size) undef,defers:=[]}:=by
 refine⟨by simp;omega,fun t=> ?_,rfl⟩
 simp only[entry,wU,Array.getElem?_append,afp]
 split
 .rfl
 rename_i ht
 rw[XC J]
 split<;>rfl
section entry
variable{P:Program}{n:Nat}{w:World}
def Out(P:Program)(fn:Func)(q:Value->World->Prop):K:=fun σ w=>
 ∀n a,Is n σ a->∃v,(results fn a.tmps).run P w= .ok v w/\q v w
theorem enter{f:FuncId}{fn:Func}{c:Code}{args:Array Value}{q:Value->World->Prop}(hf:P.funcs[f]?=some fn)(hb:fn.body=some c)
  (hn:fn.ntmps=n) (ha:Nat.ble args.size n=true) (h:CW P n c (Out P fn q) [] (Out P fn q) (entry args) w):Calls P f args w (jW q):=by
 refine calls_of_wp hf hb ?_
 rw[hn]
 refine zD (fun e a' w' hq=> ?_) (h _ (afS args n (by simpa using ha)))
 cases e with
 |normal=>obtain⟨σ,h1,h2⟩:=hq;obtain⟨v,h3,h4⟩:=h2 _ _ h1;exact⟨h1.defers,v,h3,h4⟩
 |ret=>obtain⟨σ,h1,h2⟩:=hq;obtain⟨v,h3,h4⟩:=h2 _ _ h1;exact⟨h1.defers,v,h3,h4⟩
 |exit id=>obtain⟨σ,h1,q,h2,h3⟩:=hq;simp at h2
 |goto l=>exact hq.elim
 |panic c=>exact hq.elim
 |outgrown=>exact hq.elim
variable{fn:Func}{q:Value->World->Prop}{σ:Env}
theorem rf(h:fn.results=#[])(hq:q (.tuple #[]) w):Out P fn q σ w:=fun _ _ _=>⟨_,results_none h _ _ _,hq⟩
theorem jy{t:Nat}{v:Value}(h:fn.results=#[.tmp t])(hv:σ t=v)(hq:q v w):Out P fn q σ w:=
 fun _ a ha=>⟨v,by rw[results_tmp h,ha.get,hv],hq⟩
theorem afT{t u:Nat}{x y:Value}(h:fn.results=#[.tmp t,.tmp u])(hx:σ t=x)(hy:σ u=y)(hq:q (.tuple #[x,y]) w):Out P fn q σ w:=
 fun _ a ha=>⟨_,by rw[results_tmp2 h,ha.get,ha.get,hx,hy],hq⟩
end entry
section ops
variable{P:Program}{n:Nat}{ops:Array Oper}{k:K}{rest:List Oper}{σ:Env}{w w':World}{op:Op}{ty:TypeId}{pos:String}{bO:Array Edge}{d:Nat}
theorem aa(h:k σ w):RL P n ops k [] σ w:=fun a ha=>wpList_nil ⟨σ,ha,h⟩
theorem pn{v:Value}(hd:Nat.blt d n=true)(hr:(execOp (ev σ) ⟨some d,op,ty,pos,bO,none⟩).run P w= .ok (.value v) w')
  (hk:RL P n ops k rest (lX σ d v) w'):RL P n ops k (⟨some d,op,ty,pos,bO,none⟩::rest) σ w:=by
 intro a ha
 refine wpList_plain O fun K hK=> ?_
 rw[Oper.wp,ha.eval,hr]
 exact hK _ _ (hk _ (ha.put hd v))
theorem H7(hr:(execOp (ev σ) ⟨none,op,ty,pos,bO,none⟩).run P w= .ok .skip w')
  (hk:RL P n ops k rest σ w'):RL P n ops k (⟨none,op,ty,pos,bO,none⟩::rest) σ w:=by
 intro a ha
 refine wpList_plain O fun K hK=> ?_
 rw[Oper.wp,ha.eval,hr]
 exact hK _ _ (hk _ ha)
theorem H8{f:FuncId}{args:Array Value}{q:Value->World->Prop}(hd:Nat.blt d n=true)
  (hr:(execOp (ev σ) ⟨some d,op,ty,pos,bO,none⟩).run P w= .ok (.enter f args) w) (hc:Calls P f args w (jW q))
  (hk:∀v w',q v w'->RL P n ops k rest (lX σ d v) w'):RL P n ops k (⟨some d,op,ty,pos,bO,none⟩::rest) σ w:=by
 intro a ha
 refine wpList_plain O fun K hK=> ?_
 rw[Oper.wp,ha.eval,hr]
 refine hc.mono fun e w' hq=> ?_
 cases e with
 |returned v=>exact hK _ _ (hk _ _ hq _ (ha.put hd v))
 |panicked c=>exact hq.elim
 |outgrown=>exact hq.elim
theorem H9{a:Act}(ha:Is n σ a){j dj:Nat}{b want:Bool}(hj:(ops[j]?).bind (·.dst)=some dj)(hb:σ dj= .bool b)(dst:Option Tmp):
  Region.wanted ⟨dst,op,ty,pos,bO,some (j,want)⟩ (yielded ops a.tmps)=(b==want):=by
 have h1:a.tmps[dj]?=some (.bool b):=ha.look hb zJ
 simp only[Region.wanted,yielded,hj,Rk,h1]
 cases b<;>cases want<;>rfl
theorem F8{a:Act}(ha:Is n σ a){j dj:Nat}{want:Bool}(hj:(ops[j]?).bind (·.dst)=some dj)(hu:σ dj=undef)(dst:Option Tmp):
  Region.wanted ⟨dst,op,ty,pos,bO,some (j,want)⟩ (yielded ops a.tmps)=false:=by
 have h1:a.tmps[dj]?=some undef\/a.tmps[dj]?=none:=by
  have:=ha.get dj
  rw[hu,wU]at this
  cases hx:a.tmps[dj]? with
  |none=>exact .inr O
  |some u=>simp[hx]at this;exact .inl (by rw[this])
 rcases h1 with h1|h1<;>simp only[Region.wanted,yielded,hj,Rk,h1,undef]<;>rfl
theorem gm{j dj:Nat}{want:Bool}(hd:Nat.blt d n=true)(hj:(ops[j]?).bind (·.dst)=some dj)(hu:σ dj=undef)
  (h:RL P n ops k rest (lX σ d undef) w):RL P n ops k (⟨some d,op,ty,pos,bO,some (j,want)⟩::rest) σ w:=by
 intro a ha
 simp only[wpList,F8 ha hj hu]
 exact h _ (ha.put hd undef)
end ops
section runs
variable{P:Program}{σ:Env}{w:World}{dst:Option Tmp}{ty:TypeId}{pos:String}{bO:Array Edge}{g:Option (Nat×Bool)}
theorem run_move{x:Operand}{v:Value}(hx:ev σ x=v):(execOp (ev σ) ⟨dst,.move x,ty,pos,bO,g⟩).run P w= .ok (.value v) w:=by
 subst hx;rfl
theorem run_assign{x:Operand}{v:Value}(hx:ev σ x=v):(execOp (ev σ) ⟨dst,.assign x,ty,pos,bO,g⟩).run P w= .ok (.value v) w:=by
 subst hx;rfl
theorem gL{c a b:Operand}{v:Value}(hc:ev σ c= .bool true)(ha:ev σ a=v):
  (execOp (ev σ) ⟨dst,.pick c a b,ty,pos,bO,g⟩).run P w= .ok (.value v) w:=by
 subst ha;simp[execOp,hc,asBool]
theorem eo{c a b:Operand}{v:Value}(hc:ev σ c= .bool false)(hb:ev σ b=v):
  (execOp (ev σ) ⟨dst,.pick c a b,ty,pos,bO,g⟩).run P w= .ok (.value v) w:=by
 subst hb;simp[execOp,hc,asBool]
theorem bk{t:Operand}{i:Nat}{vs:Array Value}{v:Value}(ht:ev σ t= .tuple vs)(hv:vs[i]?=some v):
  (execOp (ev σ) ⟨dst,.extract t i,ty,pos,bO,g⟩).run P w= .ok (.value v) w:=by
 simp[execOp,ht,Instr.extract,hv]
section ints
variable{t u:TypeId}{x y:Operand}{k:IntKind}{a b:Int}
theorem Dt{op:BinOp}{v:Value}(hx:ev σ x= .int k a)(hy:ev σ y= .int k b)(hop:(match op with| .eql=>Value.bool (decide (a=b))| .neq=> .bool (decide (a≠b))| .lss=> .bool (decide (a<b))| .leq=> .bool (decide (a<=b))| .gtr=> .bool (decide (b<a))| .geq=> .bool (decide (b<=a))|_=>undef)=v)(hu:v≠undef):
  (execOp (ev σ) ⟨dst,.binOp op t x y u,ty,pos,bO,g⟩).run P w= .ok (.value v) w:=by
 subst hop
 cases op<;>simp_all [execOp,eqGuard,binOp,Op.intCmp,undef]
 .rw[gV];simp
 rw[gV];simp
theorem bU(hx:ev σ x= .int k a)(hy:ev σ y= .int k b):(execOp (ev σ) ⟨dst,.binOp .eql t x y u,ty,pos,bO,g⟩).run P w= .ok (.value (.bool (decide (a=b)))) w:=Dt hx hy O zJ
theorem kG(hx:ev σ x= .int k a)(hy:ev σ y= .int k b):(execOp (ev σ) ⟨dst,.binOp .neq t x y u,ty,pos,bO,g⟩).run P w= .ok (.value (.bool (decide (a≠b)))) w:=Dt hx hy O zJ
theorem aN(hx:ev σ x= .int k a)(hy:ev σ y= .int k b):(execOp (ev σ) ⟨dst,.binOp .lss t x y u,ty,pos,bO,g⟩).run P w= .ok (.value (.bool (decide (a<b)))) w:=Dt hx hy O zJ
theorem wY(hx:ev σ x= .int k a)(hy:ev σ y= .int k b):(execOp (ev σ) ⟨dst,.binOp .leq t x y u,ty,pos,bO,g⟩).run P w= .ok (.value (.bool (decide (a<=b)))) w:=Dt hx hy O zJ
theorem dN(hx:ev σ x= .int k a)(hy:ev σ y= .int k b):(execOp (ev σ) ⟨dst,.binOp .gtr t x y u,ty,pos,bO,g⟩).run P w= .ok (.value (.bool (decide (b<a)))) w:=Dt hx hy O zJ
theorem dF(hx:ev σ x= .int k a)(hy:ev σ y= .int k b):(execOp (ev σ) ⟨dst,.binOp .geq t x y u,ty,pos,bO,g⟩).run P w= .ok (.value (.bool (decide (b<=a)))) w:=Dt hx hy O zJ
theorem Du{n:Int}(h: -9223372036854775808<=n/\n<=9223372036854775807):IntKind.i64.wrap n=n:=IntWalk.i64_in n h
theorem ax(hx:ev σ x= .int .i64 a)(hy:ev σ y= .int .i64 b)(h: -9223372036854775808<=a+b/\a+b<=9223372036854775807):
  (execOp (ev σ) ⟨dst,.binOp .add t x y u,ty,pos,bO,g⟩).run P w= .ok (.value (.int .i64 (a+b))) w:=by
 simp[execOp,hx,hy,eqGuard,binOp,Op.intArith,Du h]
theorem eO(hx:ev σ x= .int .i64 a)(hy:ev σ y= .int .i64 b)(h: -9223372036854775808<=a-b/\a-b<=9223372036854775807):
  (execOp (ev σ) ⟨dst,.binOp .sub t x y u,ty,pos,bO,g⟩).run P w= .ok (.value (.int .i64 (a-b))) w:=by
 simp[execOp,hx,hy,eqGuard,binOp,Op.intArith,Du h]
theorem zM(hx:ev σ x= .int .i64 a)(hy:ev σ y= .int .i64 b)(h: -9223372036854775808<=a*b/\a*b<=9223372036854775807):
  (execOp (ev σ) ⟨dst,.binOp .mul t x y u,ty,pos,bO,g⟩).run P w= .ok (.value (.int .i64 (a*b))) w:=by
 simp[execOp,hx,hy,eqGuard,binOp,Op.intArith,Du h]
theorem alT(hx:ev σ x= .int .i64 a)(hy:ev σ y= .int .i64 b)(ha:0<=a/\a<=9223372036854775807)(hb:0<b):
  (execOp (ev σ) ⟨dst,.binOp .quo t x y u,ty,pos,bO,g⟩).run P w= .ok (.value (.int .i64 (a/b))) w:=by
 have h1:a.tdiv b=a/b:=afl ha.1
 have h2:a/b<=a:=Int.ediv_le_self b ha.1
 have h3:0<=a/b:=Int.ediv_nonneg ha.1 J
 simp[execOp,hx,hy,eqGuard,binOp,Op.intDiv,h1,Du (n:=a/b) J,show b≠0 by omega]
end ints
section words
variable{t u:TypeId}{x y:Operand}{a b:BitVec 64}
theorem LJ(n:Int):IntKind.u64.wrap n=((BitVec.ofInt 64 n).toNat:Int):=by
 simp[IntKind.wrap,IntKind.bits,IntKind.signed,Rf]
 omega
theorem ofU(a:BitVec 64):BitVec.ofInt 64 (a.toNat:Int)=a:=aJ
theorem R5(a:BitVec 64):IntKind.u64.wrap (a.toNat:Int)=(a.toNat:Int):=by rw[LJ,ofU]
theorem Dv{op:BinOp}{k:IntKind}{m n:Int}{v:Value}(hx:ev σ x= .int k m)(hy:ev σ y= .int k n)(h:(binOp op t (.int k m) (.int k n)).run P w= .ok v w):
  (execOp (ev σ) ⟨dst,.binOp op t x y u,ty,pos,bO,g⟩).run P w= .ok (.value v) w:=by
 have he:(eqGuard op t x y (.int k m) (.int k n))=pure ():=by cases op<;>rfl
 simp[execOp,hx,hy,he,h]
theorem jO(hx:ev σ x=U a)(hy:ev σ y=U b):(execOp (ev σ) ⟨dst,.binOp .eql t x y u,ty,pos,bO,g⟩).run P w= .ok (.value (.bool (decide (a=b)))) w:=by
 rw[bU hx hy];congr 3;rw[gV];simp[<-XX];omega
theorem vp(hx:ev σ x=U a)(hy:ev σ y=U b):(execOp (ev σ) ⟨dst,.binOp .neq t x y u,ty,pos,bO,g⟩).run P w= .ok (.value (.bool (decide (a≠b)))) w:=by
 rw[kG hx hy];congr 3;rw[gV];simp[<-XX];omega
theorem afU(hx:ev σ x=U a)(hy:ev σ y=U b):(execOp (ev σ) ⟨dst,.binOp .add t x y u,ty,pos,bO,g⟩).run P w= .ok (.value (U (a+b))) w:=by
 simp[execOp,hx,hy,eqGuard,binOp,Op.intArith,LJ,BitVec.ofInt_add]
theorem Ue(hx:ev σ x=U a)(hy:ev σ y=U b):(execOp (ev σ) ⟨dst,.binOp .sub t x y u,ty,pos,bO,g⟩).run P w= .ok (.value (U (a-b))) w:=by
 have h:((BitVec.ofInt 64 ((a.toNat:Int)-b.toNat)).toNat:Int)=((a-b).toNat:Int):=by
  rw[Rf,Rm];have:=a.isLt;have:=b.isLt;omega
 refine Dv hx hy ?_
 simp only[binOp,Op.intArith,LJ,h];rfl
theorem LK(hx:ev σ x=U a)(hy:ev σ y=U b):(execOp (ev σ) ⟨dst,.binOp .mul t x y u,ty,pos,bO,g⟩).run P w= .ok (.value (U (a*b))) w:=by
 simp[execOp,hx,hy,eqGuard,binOp,Op.intArith,LJ,BitVec.ofInt_mul]
theorem lY(hx:ev σ x=U a)(hy:ev σ y=U b):(execOp (ev σ) ⟨dst,.binOp .and t x y u,ty,pos,bO,g⟩).run P w= .ok (.value (U (a&&&b))) w:=by
 refine Dv hx hy ?_
 simp only[binOp,Op.intBits,IntKind.bits,ofU,R5];rfl
theorem iH(hx:ev σ x=U a)(hy:ev σ y=U b):(execOp (ev σ) ⟨dst,.binOp .or t x y u,ty,pos,bO,g⟩).run P w= .ok (.value (U (a|||b))) w:=by
 refine Dv hx hy ?_
 simp only[binOp,Op.intBits,IntKind.bits,ofU,R5];rfl
theorem Uf(hx:ev σ x=U a)(hy:ev σ y=U b):(execOp (ev σ) ⟨dst,.binOp .andNot t x y u,ty,pos,bO,g⟩).run P w= .ok (.value (U (a&&& ~~~b))) w:=by
 refine Dv hx hy ?_
 simp only[binOp,Op.intBits,IntKind.bits,ofU,R5];rfl
theorem LL(hx:ev σ x=U a)(hy:ev σ y=U b)(hb:b≠0):(execOp (ev σ) ⟨dst,.binOp .quo t x y u,ty,pos,bO,g⟩).run P w= .ok (.value (U (a/b))) w:=by
 have hb':¬((b.toNat:Int)=0):=fun h=>hb (HA xZ)
 have h1:((a.toNat:Int)).tdiv (b.toNat:Int)=((a/b).toNat:Int):=by
  rw[afl J];simp
 refine Dv hx hy ?_
 simp only[binOp,Op.intDiv,aT hb',h1,R5];rfl
theorem LM(hx:ev σ x=U a)(hy:ev σ y=U b)(hb:b≠0):(execOp (ev σ) ⟨dst,.binOp .rem t x y u,ty,pos,bO,g⟩).run P w= .ok (.value (U (a%b))) w:=by
 have hb':¬((b.toNat:Int)=0):=fun h=>hb (HA xZ)
 have h1:((a.toNat:Int)).tmod (b.toNat:Int)=((a%b).toNat:Int):=by
  rw[Int.tmod_eq_emod_of_nonneg J];simp
 refine Dv hx hy ?_
 simp only[binOp,Op.intDiv,aT hb',h1];rfl
theorem afV(hx:ev σ x=U a):(execOp (ev σ) ⟨dst,.unOp .neg t x,ty,pos,bO,g⟩).run P w= .ok (.value (U (-a))) w:=by
 have h:((BitVec.ofInt 64 (0-(a.toNat:Int))).toNat:Int)=((-a).toNat:Int):=by
  rw[Rf,BitVec.toNat_neg];have:=a.isLt;omega
 simp only[execOp,hx,Op.unary,Op.intArith,LJ,h];rfl
theorem F9(hx:ev σ x=U a)(hy:ev σ y=U b):(execOp (ev σ) ⟨dst,.binOp .shl t x y u,ty,pos,bO,g⟩).run P w= .ok (.value (U (a<<<b.toNat))) w:=by
 have h:IntKind.u64.wrap ((a.toNat:Int)*2^(min b.toNat 64))=((a<<<b.toNat).toNat:Int):=by
  have e1:((a.toNat:Int)*2^(min b.toNat 64))=((a.toNat*2^(min b.toNat 64):Nat):Int):=by push_cast;rfl
  rw[LJ,e1,BitVec.ofInt_natCast,XK,Ra,Ro]
  by_cases hle:b.toNat<=64
  .rw[r7 hle]
  rw[XY J]
  have e2:(2:Nat)^b.toNat=2^64*2^(b.toNat-64):=by rw[<-Nat.pow_add];congr 1;omega
  rw[e2,<-Nat.mul_assoc,Nat.mul_right_comm,Nat.mul_mod_left,Nat.mul_mod_left]
 have hn:¬((b.toNat:Int)<0):=J
 have he:(eqGuard .shl t x y (U a) (U b))=pure ():=rfl
 simp only[execOp,hx,hy,he,binOp,Op.shift,aT hn,eA,IntKind.bits,h];rfl
theorem Ga(hx:ev σ x=U a)(hy:ev σ y=U b):(execOp (ev σ) ⟨dst,.binOp .shr t x y u,ty,pos,bO,g⟩).run P w= .ok (.value (U (a>>>b.toNat))) w:=by
 have h:((a.toNat:Int)).fdiv (2^(min b.toNat 64))=((a>>>b.toNat).toNat:Int):=by
  have e1:((2:Int)^(min b.toNat 64))=((2^(min b.toNat 64):Nat):Int):=by push_cast;rfl
  rw[e1,Int.fdiv_eq_ediv_of_nonneg _ (Int.natCast_nonneg _),Xy,afn]
  norm_cast
  by_cases hle:b.toNat<=64
  .rw[r7 hle]
  rw[XY J]
  have:=a.isLt
  rw[Nat.div_eq_of_lt J,Nat.div_eq_of_lt]
  exact XL this (XG J J)
 have hn:¬((b.toNat:Int)<0):=J
 have he:(eqGuard .shr t x y (U a) (U b))=pure ():=rfl
 simp only[execOp,hx,hy,he,binOp,Op.shift,aT hn,eA,IntKind.bits,h];rfl
theorem kq{s e:TypeId}{m:Int}{ki:IntKind}{des:TypeDesc}(hs:P.underlying s=some des)(he:P.underlying e=some (.int .u64))(hx:ev σ x= .int ki m):
  (execOp (ev σ) ⟨dst,.convert s e x,ty,pos,bO,g⟩).run P w= .ok (.value (U (BitVec.ofInt 64 m))) w:=by
 have h:(convert s e (.int ki m)).run P w= .ok (.int .u64 (IntKind.u64.wrap m)) w:=by
  simp[convert,kf hs,kf he,Conv.intToInt]
 simp only[execOp,hx]
 simp[h,LJ]
theorem Yu{s e:TypeId}{m:Int}{ki:IntKind}{des:TypeDesc}(hs:P.underlying s=some des)(he:P.underlying e=some (.int .i64))(hx:ev σ x= .int ki m)(h: -9223372036854775808<=m/\m<=9223372036854775807):
  (execOp (ev σ) ⟨dst,.convert s e x,ty,pos,bO,g⟩).run P w= .ok (.value (.int .i64 m)) w:=by
 have h:(convert s e (.int ki m)).run P w= .ok (.int .i64 m) w:=by
  simp[convert,kf hs,kf he,Conv.intToInt,Du h]
 simp only[execOp,hx]
 simp[h]
theorem Yv(a:BitVec 64):IntKind.i64.wrap (a.toNat:Int)=a.toInt:=by
 have:=a.isLt
 rw[BitVec.toInt_eq_toNat_cond]
 have h64:(2:Int)^64=18446744073709551616:=az
 have h63:(2:Int)^(64-1)=9223372036854775808:=az
 have e64:(2:Nat)^64=18446744073709551616:=az
 simp only[IntKind.wrap,IntKind.bits,IntKind.signed,h64,h63,e64,mG,eE]
 by_cases h:2*a.toNat<18446744073709551616
 .rw[aX h,aT J];omega
 rw[aT h,aX J];omega
theorem Yw{s e:TypeId}{des:TypeDesc}(hs:P.underlying s=some des)(he:P.underlying e=some (.int .i64))(hx:ev σ x=U a):
  (execOp (ev σ) ⟨dst,.convert s e x,ty,pos,bO,g⟩).run P w= .ok (.value (.int .i64 a.toInt)) w:=by
 have h:(convert s e (U a)).run P w= .ok (.int .i64 a.toInt) w:=by
  simp[convert,kf hs,kf he,Conv.intToInt,Yv]
 simp only[execOp,hx]
 simp[h]
end words
section av4
variable{t u:TypeId}{x y:Operand}{a b:Bool}{p:Prop}[inst:Decidable p]
theorem bJ(hx:ev σ x= .bool a):(execOp (ev σ) ⟨dst,.unOp .not t x,ty,pos,bO,g⟩).run P w= .ok (.value (.bool (!a))) w:=by
 simp[execOp,hx,Op.unary]
theorem vx(hx:ev σ x= .bool (decide p)):(execOp (ev σ) ⟨dst,.unOp .not t x,ty,pos,bO,g⟩).run P w= .ok (.value (.bool (decide ¬p))) w:=by
 simp[execOp,hx,Op.unary]
theorem LN(d:Nat)(ht:P.underlying t=some .bool):(Op.equalIn (d+1) t (.bool a) (.bool b)).run P w= .ok (a==b) w:=by
 simp[Op.equalIn,kf ht]
theorem afW(ht:P.underlying t=some .bool)(hx:ev σ x= .bool a)(hy:ev σ y= .bool b):(execOp (ev σ) ⟨dst,.binOp .eql t x y u,ty,pos,bO,g⟩).run P w= .ok (.value (.bool (a==b))) w:=by
 have h:(binOp .eql t (.bool a) (.bool b)).run P w= .ok (.bool (a==b)) w:=by
  simp only[binOp];simp[Op.equal,Op.maxDepth,LN 9999 ht]
 have he:(eqGuard .eql t x y (.bool a) (.bool b))=pure ():=rfl
 simp only[execOp,hx,hy,he];simp[h]
theorem afX(ht:P.underlying t=some .bool)(hx:ev σ x= .bool a)(hy:ev σ y= .bool b):(execOp (ev σ) ⟨dst,.binOp .neq t x y u,ty,pos,bO,g⟩).run P w= .ok (.value (.bool (!(a==b)))) w:=by
 have h:(binOp .neq t (.bool a) (.bool b)).run P w= .ok (.bool (!(a==b))) w:=by
  simp only[binOp];simp[Op.equal,Op.maxDepth,LN 9999 ht]
 have he:(eqGuard .neq t x y (.bool a) (.bool b))=pure ():=rfl
 simp only[execOp,hx,hy,he];simp[h]
end av4
section mem
variable{t u:TypeId}{x y:Operand}{v:Value}
theorem Ks{e:TypeId}(hx:ev σ x=v):(execOp (ev σ) ⟨dst,.box e x,ty,pos,bO,g⟩).run P w= .ok (.value (.pointer (some ⟨w.heap.size,0,none⟩))) (w.alloc (.cells v.cells e)):=by
 subst hx;rfl
theorem aS{e:TypeId}{z:Value}(hz:∀w,(zeroValue e).run P w= .ok z w):(execOp (ev σ) ⟨dst,.alloc e,ty,pos,bO,g⟩).run P w= .ok (.value (.pointer (some ⟨w.heap.size,0,none⟩))) (w.alloc (.cells z.cells e)):=by
 simp[execOp,Instr.alloc,hz,newVar,newRow,newObj,Sem.run]
theorem OW{s i n off b o:Nat}{fs:Array Field}{f:Field}(hu:P.underlying s=some (.struct fs))(hf:fs[i]?=some f)(ho:f.offset=off)
  (hs:∀w,(sizeOf f.type).run P w= .ok n w) (hn:n≠0) (hx:ev σ x= .pointer (some ⟨b,o,none⟩)):
  (execOp (ev σ) ⟨dst,.fieldAddr s x i,ty,pos,bO,g⟩).run P w= .ok (.value (.pointer (some ⟨b,o+off,none⟩))) w:=by
 subst ho
 simp[execOp,Instr.fieldAt,kf hu,hf,hx,Instr.sureAddr,fieldPlace,hs,hn,HJ]
theorem a6{len n b o:Nat}{e:TypeId}{k:IntKind}{i:Int}(hu:P.underlying t=some (.array len e))(hs:∀w,(sizeOf e).run P w= .ok n w)
  (hx:ev σ x= .pointer (some ⟨b,o,none⟩)) (hy:ev σ y= .int k i) (hi:0<=i/\i<len):
  (execOp (ev σ) ⟨dst,.indexAddr t x y,ty,pos,bO,g⟩).run P w= .ok (.value (.pointer (some ⟨b,o+i.toNat*n,none⟩))) w:=by
 simp[execOp,Instr.indexAt,kf hu,hx,hy,asIntOf,Instr.sureAddr,hi,hs,HJ]
theorem af{a:Addr}(hx:ev σ x= .pointer (some a)):(execOp (ev σ) ⟨dst,.nilCheck x,ty,pos,bO,g⟩).run P w= .ok (.value (.pointer (some a))) w:=by
 simp[execOp,hx]
theorem aG{d:TypeDesc}{b o:Nat}(hu:P.underlying t=some d)(hd:d.isRow=false)(hx:ev σ x= .pointer (some ⟨b,o,none⟩))(hc:w.cell? ⟨b,o,none⟩=some v):
  (execOp (ev σ) ⟨dst,.load t x,ty,pos,bO,g⟩).run P w= .ok (.value v) w:=by
 have ha:(isAgg t).run P w= .ok false w:=by
  unfold isAgg
  rw[uh,kf hu w]
  cases d<;>simp_all
 simp[execOp,hx,Instr.loadAt,Instr.sureAddr,loadVar,ha,load,Sem.run,hc]
theorem cF{d:TypeDesc}{b o:Nat}{cs:List Value}(hu:P.underlying t=some d)(hd:d.isRow=true)(hi:(P.info? t).map (·.size)=some cs.length)
  (hx:ev σ x= .pointer (some ⟨b,o,none⟩)) (hc:w.rangeAt b o cs):
  (execOp (ev σ) ⟨dst,.load t x,ty,pos,bO,g⟩).run P w= .ok (.value (.agg cs.toArray)) w:=by
 have:=run_loadAt_mid (P:=P) w b o t cs d hc hu hd hi
 simp only[execOp,hx,uh,this];rfl
theorem zN{b:Nat}{c:Array Value}{e:TypeId}{off:Nat}(hg:w.heap[b]?=some (.cells c e (0,0)))(vs:List Value)(hl:off+vs.length<=c.size)(h1:∀u∈vs,u.oneCell'=true):
  (storeCells ⟨b,off,none⟩ vs).run P w= .ok () (w.setRow b (c.toList.take off++vs++c.toList.drop (off+vs.length)).toArray):=by
 have:=XR P b off e vs 0 c w hg (by simpa using hl) h1
 simpa using this
theorem bL{b off:Nat}{c:Array Value}{e:TypeId}(hi:(P.info? t).map (·.size)=some 1)(hx:ev σ x= .pointer (some ⟨b,off,none⟩))(hy:ev σ y=v)(hv:v.cells=#[v])(h1:v.oneCell'=true)
  (hg:w.heap[b]?=some (.cells c e (0,0))) (ho:off<c.size):
  (execOp (ev σ) ⟨dst,.store t x y,ty,pos,bO,g⟩).run P w= .ok .skip (w.setRow b (c.setIfInBounds off v)):=by
 have hs:=zN (P:=P) (off:=off) hg [v] iX Fa
 have e1:(c.toList.take off++[v]++c.toList.drop (off+1)).toArray=c.setIfInBounds off v:=by
  apply RD
  simp[Xv,ho]
 have hz:(sizeOf t).run P w= .ok 1 w:=by
  cases hq:P.info? t with
  |none=>simp[hq]at hi
  |some i=>simp[hq]at hi;simp[sizeOf,typeInfo,hq,hi]
 simp only[ez,e1]at hs
 simp[execOp,hx,hy,Instr.storeAt,Instr.sureAddr,storeVar,hv,hz,hs]
theorem dO{b:Nat}{c c':Array Value}{e:TypeId}(hi:(P.info? t).map (·.size)=some c'.size)(hx:ev σ x= .pointer (some ⟨b,0,none⟩))(hy:ev σ y= .agg c')(h1:∀u∈c',u.oneCell'=true)
  (hg:w.heap[b]?=some (.cells c e (0,0))) (ho:c'.size=c.size):
  (execOp (ev σ) ⟨dst,.store t x y,ty,pos,bO,g⟩).run P w= .ok .skip (w.setRow b c'):=by
 have hs:=zN (P:=P) (off:=0) hg c'.toList (by simp[ho]) Fa
 have e1:(c.toList.take 0++c'.toList++c.toList.drop (0+c'.toList.length)).toArray=c':=by
  apply RD
  simp[ho]
 have hz:(sizeOf t).run P w= .ok c'.size w:=by
  cases hq:P.info? t with
  |none=>simp[hq]at hi
  |some i=>simp[hq]at hi;simp[sizeOf,typeInfo,hq,hi]
 rw[e1]at hs
 simp[execOp,hx,hy,Instr.storeAt,Instr.sureAddr,storeVar,Value.cells,hz,hs]
theorem uN{fn:Fn}{cs:List Operand}{vs:List Value}(h:cs.map (ev σ)=vs):(execOp (ev σ) ⟨dst,.makeFunc fn #[] cs.toArray,ty,pos,bO,g⟩).run P w= .ok (.value (.func fn #[] vs.toArray)) w:=by
 subst h;simp[execOp,Instr.makeFunc]
theorem yC{f:FuncId}{Hx:List Operand}{ats:Array TypeId}{vs:List Value}(hf:∀args w,(callFunc f args).run P w= .ok (.enter f args) w)(h:Hx.map (ev σ)=vs):
  (execOp (ev σ) ⟨dst,.call {callee:= .value (.func f),args:=Hx.toArray,argTypes:=ats},ty,pos,bO,g⟩).run P w= .ok (.enter f vs.toArray) w:=by
 subst h
 simp[execOp,resolve,ev,Deferred.ofValue,invoke,hf]
theorem Pv{x:Operand}{f:FuncId}{cap:Array Value}{Hx:List Operand}{ats:Array TypeId}{vs:List Value}(hf:∀args w,(callFunc f args).run P w= .ok (.enter f args) w)
  (hx:ev σ x= .func (.func f) #[] cap) (h:Hx.map (ev σ)=vs):
  (execOp (ev σ) ⟨dst,.call {callee:= .value x,args:=Hx.toArray,argTypes:=ats},ty,pos,bO,g⟩).run P w= .ok (.enter f (vs.toArray++cap)) w:=by
 subst h
 simp[execOp,resolve,hx,Deferred.ofValue,invoke,hf]
theorem afY{e:TypeId}{a:Option Addr}{n c:Nat}{ats:Array TypeId}(ht:ats[0]?=some t)(hu:P.underlying t=some (.slice e))(hx:ev σ x=v)(hv:v= .slice a n c):
  (execOp (ev σ) ⟨dst,.call {callee:= .builtin .len,args:=#[x],argTypes:=ats},ty,pos,bO,g⟩).run P w= .ok (.value (I n)) w:=by
 subst hv
 simp[execOp,resolve,invoke,builtin,Builtin.len_,ht,hx,kf hu,goInt]
theorem Gb{a b:Int}{ats:Array TypeId}(hx:ev σ x= .int .i64 a)(hy:ev σ y= .int .i64 b):
  (execOp (ev σ) ⟨dst,.call {callee:= .builtin .max,args:=#[x,y],argTypes:=ats},ty,pos,bO,g⟩).run P w= .ok (.value (.int .i64 (max a b))) w:=by
 have h:(if b>a then b else a)=max a b:=J
 simp[execOp,resolve,invoke,builtin,Builtin.max_,Builtin.max2,hx,hy,h]
theorem vz{a b:Int}{ats:Array TypeId}(hx:ev σ x= .int .i64 a)(hy:ev σ y= .int .i64 b):
  (execOp (ev σ) ⟨dst,.call {callee:= .builtin .min,args:=#[x,y],argTypes:=ats},ty,pos,bO,g⟩).run P w= .ok (.value (.int .i64 (min a b))) w:=by
 have h:(if b<a then b else a)=min a b:=J
 simp[execOp,resolve,invoke,builtin,Builtin.min_,Builtin.min2,hx,hy,h]
theorem lA{s:ByteArray}{ats:Array TypeId}(ht:ats[0]?=some t)(hu:P.underlying t=some .string)(hx:ev σ x= .string s):
  (execOp (ev σ) ⟨dst,.call {callee:= .builtin .len,args:=#[x],argTypes:=ats},ty,pos,bO,g⟩).run P w= .ok (.value (I s.size)) w:=by
 simp[execOp,resolve,invoke,builtin,Builtin.len_,ht,hx,kf hu,goInt]
theorem run_build{ps:List (Nat×Operand)}{vs:List (Nat×Value)}{cells:Array Value}(h:ps.map (fun p=>(p.1,ev σ p.2))=vs)(hb:P.built t vs=some cells):
  (execOp (ev σ) ⟨dst,.build t ps.toArray,ty,pos,bO,g⟩).run P w= .ok (.value (.agg cells)) w:=by
 subst h
 have:=Go.run_build (P:=P) w t ((ps.map (fun p=>(p.1,ev σ p.2))).toArray) cells hb
 simp[execOp,this]
theorem alU{e:TypeId}{len:Nat}{ps:List (Nat×Operand)}{vs:List (Nat×Value)}{cells:Array Value}{ie:TypeInfo}{z:Value}
  (hu:P.underlying t=some (.slice e)) (hie:P.info? e=some ie) (hz:ie.zero=some z) (hsmall:¬len*ie.size>2^24) (hpos:¬len*ie.size=0)
  (h:ps.map (fun p=>(p.1,ev σ p.2))=vs) (hc:Instr.fill (fun i=>some (i*ie.size,ie.size)) ((Array.range (len*ie.size)).map (z.cells[· %z.cells.size]!)) vs=some cells):
  (execOp (ev σ) ⟨dst,.buildSlice t len ps.toArray,ty,pos,bO,g⟩).run P w= .ok (.value (.slice (some ⟨w.heap.size,0,none⟩) len len)) (w.alloc (.cells cells e)):=by
 subst h
 have:=Go.run_buildSlice (P:=P) w t e len ((ps.map (fun p=>(p.1,ev σ p.2))).toArray) cells ie z hu hie hz hsmall hpos hc
 simp[execOp,this]
theorem Ug(off:Nat):∀(cs:List Value) (j:Nat) (cur:List Value),off+j+cs.length<=cur.length->
  (cs.zipIdx j).foldl (fun(a:Array Value) (p:Value×Nat)=>a.setIfInBounds (off+p.2) p.1) cur.toArray=(cur.take (off+j)++cs++cur.drop (off+j+cs.length)).toArray
 |[],j,cur,h=>by simp
 |c::cs,j,cur,h=>by
  simp only[fq]at h
  simp only[List.zipIdx_cons,o9,nW]
  rw[Ug off cs (j+1) (cur.set (off+j) c) iX]
  congr 1
  have h1:(cur.set (off+j) c).take (off+(j+1))=cur.take (off+j)++[c]:=by
   apply uf
   intro i
   simp only[qS,p7,List.getElem?_append,er,show min (off+j) cur.length=off+j by omega]
   by_cases h1:i<off+j
   .rw[aX J,aT J,aX h1,aX h1]
   by_cases h2:i=off+j
   .subst h2;rw[aX (show off+j<off+(j+1)by omega),aX O,aX J,aT (Nat.lt_irrefl _)];simp
   rw[aT J,aT h1,oc iX]
  have h2:(cur.set (off+j) c).drop (off+(j+1)+cs.length)=cur.drop (off+j+(c::cs).length):=by
   rw[List.drop_set_of_lt J];congr 1;simp;omega
  rw[h1,h2];simp
theorem Uh(sz:Nat):∀(vs:List Value) (k:Nat) (cur:List Value),cur.length=(k+vs.length)*sz->(∀v∈vs,v.cells.size=sz)->
  Instr.fill (fun i=>some (i*sz,sz)) cur.toArray ((vs.zipIdx k).map fun p=>(p.2,p.1))=some (cur.take (k*sz)++vs.flatMap (·.cells.toList)).toArray
 |[],k,cur,h,_=>by simp[Instr.fill,ji (show cur.length<=k*sz by simp at h;omega)]
 |v::vs,k,cur,h,hv=>by
  have hs:=hv v aJ
  simp only[fq]at h
  have hm:(k+(vs.length+1))*sz=k*sz+sz+vs.length*sz:=by rw[lm,lm,RB];omega
  simp only[List.zipIdx_cons,lR,Instr.fill,hs,vb]
  rw[aT iX]
  have hf:v.cells.zipIdx.foldl (fun(a:Array Value) (p:Value×Nat)=>a.setIfInBounds (k*sz+p.2) p.1) cur.toArray=(cur.take (k*sz)++v.cells.toList++cur.drop (k*sz+sz)).toArray:=by
   rw[<-Array.foldl_toList,Array.toList_zipIdx]
   have:=Ug (k*sz) v.cells.toList 0 cur (by simp[hs];omega)
   simpa[hs]using this
  have hf':v.cells.zipIdx.foldl (fun cs (x:Value×Nat)=>match x with|(c,j)=>cs.setIfInBounds (k*sz+j) c) cur.toArray=(cur.take (k*sz)++v.cells.toList++cur.drop (k*sz+sz)).toArray:=hf
  rw[hf',Uh sz vs (k+1) _ (by simp[hs];rw[lm,lm];omega) (fun u hu=>hv u (by simp[hu]))]
  congr 2
  rw[show(k+1)*sz=k*sz+sz by rw[lm,RB],K5 (by simp[hs];omega)]
  rw[ji (by simp[hs];omega)]
  simp
theorem cB{e sz:TypeId}{len:Nat}{ps:List (Nat×Operand)}{vs:List Value}{ie:TypeInfo}{z:Value}
  (hu:P.underlying t=some (.slice e)) (hie:P.info? e=some ie) (hz:ie.zero=some z) (hsz:ie.size=sz) (hl:vs.length=len) (hsmall:¬len*sz>2^24) (hpos:¬len*sz=0)
  (h:ps.map (fun p=>(p.1,ev σ p.2))=(vs.zipIdx.map fun p=>(p.2,p.1))) (hc:vs.all (fun v=>v.cells.size==sz)=true):
  (execOp (ev σ) ⟨dst,.buildSlice t len ps.toArray,ty,pos,bO,g⟩).run P w= .ok (.value (.slice (some ⟨w.heap.size,0,none⟩) len len)) (w.alloc (.cells (vs.flatMap (·.cells.toList)).toArray e)):=by
 subst hsz
 subst hl
 refine alU hu hie hz hsmall hpos h ?_
 have hz':((Array.range (vs.length*ie.size)).map (z.cells[· %z.cells.size]!))=(((Array.range (vs.length*ie.size)).map (z.cells[· %z.cells.size]!)).toList).toArray:=(Array.toArray_toList ..).symm
 rw[hz']
 have:=Uh ie.size vs 0 (((Array.range (vs.length*ie.size)).map (z.cells[· %z.cells.size]!)).toList) aJ (fun v hv=>by simpa using iS.1 hc v hv)
 simpa using this
theorem Dw{s i:Nat}{cs:Array Value}{fs:Array Field}{f:Field}(hu:P.underlying s=some (.struct fs))(hf:fs[i]?=some f)(ha:∀w,(isAgg f.type).run P w= .ok false w)
  (hx:ev σ x= .agg cs) (hv:cs[f.offset]?=some v):(execOp (ev σ) ⟨dst,.field s x i,ty,pos,bO,g⟩).run P w= .ok (.value v) w:=by
 simp[execOp,Instr.field,kf hu,hf,hx,asAgg,part,ha,hv]
theorem LO{e:TypeId}{len:Nat}{cs:Array Value}{k:IntKind}{i:Int}(hu:P.underlying t=some (.array len e))(ha:∀w,(isAgg e).run P w= .ok false w)(hs:∀w,(sizeOf e).run P w= .ok 1 w)
  (hx:ev σ x= .agg cs) (hy:ev σ y= .int k i) (hi:0<=i/\i<len) (hv:cs[i.toNat]?=some v):(execOp (ev σ) ⟨dst,.index t x y,ty,pos,bO,g⟩).run P w= .ok (.value v) w:=by
 simp[execOp,Instr.index,kf hu,hx,hy,asIntOf,part,ha,hs,hv,hi]
end mem
end runs
abbrev bu:=Sum (Nat×Obj) (Value×TypeId×Nat×Nat×List Value)
abbrev bu.blk(b:Nat)(o:Obj):bu:= .inl (b,o)
abbrev bu.row(v:Value)(e:TypeId)(sz n:Nat)(xs:List Value):bu:= .inr (v,e,sz,n,xs)
def bu.sC:bu->Option Nat
 | .inl (b,_)=>some b
 | .inr (v,_)=>v.ownBlock
def bu.ok(base:Nat)(w:World):bu->Prop
 | .inl (b,o)=>base<=b/\w.heap[b]?=some o
 | .inr (v,e,sz,n,xs)=>w.ownsRow base e sz v n xs
structure Hp(w0 w:World)(L:List bu):Prop where
 below:Below w0.heap.size w0 w
 ok:∀x∈L,x.ok w0.heap.size w
 LP:L.Pairwise fun x y=>x.sC=none\/x.sC≠y.sC
theorem bu.Jv{base:Nat}{w:World}{x:bu}(h:x.ok base w):∀b,x.sC=some b->base<=b/\b<w.heap.size:=by
 intro b hb
 rcases x with⟨c,o⟩|⟨v,e,sz,n,xs⟩
 .simp only[bu.sC,XQ]at hb;subst hb
  exact⟨h.1,(B0.1 h.2).1⟩
 exact World.ownsRow.lt h b hb
theorem bu.Dx{base:Nat}{w w':World}{x:bu}(h:x.ok base w)(hb:∀b,x.sC=some b->w'.heap[b]?=w.heap[b]?):x.ok base w':=by
 rcases x with⟨c,o⟩|⟨v,e,sz,n,xs⟩
 .exact⟨h.1,(hb c O).trans h.2⟩
 refine⟨h.1,?_⟩
 rcases h.2 with hn|⟨gb,cap,cur,rfl,h1,h2,rest⟩
 .exact .inl hn
 exact .inr ⟨gb,cap,cur,rfl,h1,(hb gb O).trans h2,rest⟩
section hp
variable{w0 w w':World}{L:List bu}
theorem Hp.start(w:World):Hp w w []:=⟨Below.refl _ _,fun _ h=>mJ,List.Pairwise.nil⟩
theorem Hp.size(h:Hp w0 w L):w0.heap.size<=w.heap.size:=h.below.size
theorem Hp.drew(h:Hp w0 w L):Hp w0 w.drew L:=⟨h.below.drew,fun x hx=>bu.Dx (h.ok x hx) fun _ _=>rfl,h.LP⟩
theorem Hp.call(h:Hp w0 w L)(hb:Below w.heap.size w w'):Hp w0 w' L:=
 ⟨h.below.trans (hb.mono h.size),fun x hx=>bu.Dx (h.ok x hx) fun b hf=>hb.block b (bu.Jv (h.ok x hx) b hf).2,h.LP⟩
theorem Hp.alloc(h:Hp w0 w L)(o:Obj):Hp w0 (w.alloc o) (.blk w.heap.size o::L):=by
 refine⟨h.below.alloc h.size o,fun x hx=> ?_,?_⟩
 .rcases c8.1 hx with rfl|hx
  .exact⟨h.size,heap_alloc_new w o⟩
  exact bu.Dx (h.ok x hx) fun b hf=>Below.heap_alloc w o b (bu.Jv (h.ok x hx) b hf).2
 refine List.Pairwise.cons (fun y hy=> ?_) h.LP
 right
 intro he
 have:=(bu.Jv (h.ok y hy) w.heap.size he.symm).2
 omega
theorem Hp.Dy{v:Value}{e:TypeId}{sz n:Nat}{xs:List Value}(h:Hp w0 w L)(hb:Below w.heap.size w w')(hr:w'.ownsRow w.heap.size e sz v n xs):Hp w0 w' (.row v e sz n xs::L):=by
 have h':=h.call hb
 refine⟨h'.below,fun x hx=> ?_,List.Pairwise.cons (fun y hy=> ?_) h.LP⟩
 .rcases c8.1 hx with rfl|hx
  .refine⟨hr.1,?_⟩
   rcases hr.2 with hn|⟨gb,cap,cur,rfl,h1,rest⟩
   .exact .inl hn
   exact .inr ⟨gb,cap,cur,rfl,kX h.size h1,rest⟩
  exact h'.ok x hx
 .cases hv:v.ownBlock with
  |none=>left;exact hv
  |some b=>
   right
   intro he
   have h1:=(hr.lt b hv).1
   have h2:=(bu.Jv (h.ok y hy) b (by rw[<-he];exact hv)).2
   omega
theorem Hp.eR(h:Hp w0 w L)(e:TypeId)(sz:Nat):Hp w0 w (.row (.slice none 0 0) e sz 0 []::L):=
 ⟨h.below,fun x hx=>by
  rcases c8.1 hx with rfl|hx
  .exact World.ownsRow_nil w _ e sz
  exact h.ok x hx,List.Pairwise.cons (fun y hy=> .inl O) h.LP⟩
theorem Hp.tail{x:bu}(h:Hp w0 w (x::L)):Hp w0 w L:=⟨h.below,fun y hy=>h.ok y (fX _ hy),h.LP.tail⟩
theorem Hp.sub{L':List bu}(h:Hp w0 w L)(hs:L'.Sublist L):Hp w0 w L':=⟨h.below,fun y hy=>h.ok y (hs.subset hy),h.LP.sublist hs⟩
theorem Hp.blk{i b:Nat}{o:Obj}(h:Hp w0 w L)(hi:L[i]?=some (.blk b o)):w.heap[b]?=some o:=(h.ok _ (lO hi)).2
theorem Hp.cell{i b off:Nat}{c:Array Value}{e:TypeId}{fr:Nat×Nat}{v:Value}(h:Hp w0 w L)(hi:L[i]?=some (.blk b (.cells c e fr)))(hc:c[off]?=some v):w.cell? ⟨b,off,none⟩=some v:=by
 rw[xS w b off c e fr (h.blk hi)];exact hc
theorem Hp.range{i b off:Nat}{c:Array Value}{e:TypeId}{fr:Nat×Nat}{cs:List Value}(h:Hp w0 w L)(hi:L[i]?=some (.blk b (.cells c e fr)))(hc:∀j v,cs[j]?=some v->c[off+j]?=some v):w.rangeAt b off cs:=
 fun j v hv=>h.cell hi (hc j v hv)
theorem Cp{i:Nat}{x x':bu}(hi:L[i]?=some x)(hf:x'.sC=x.sC)(hd:L.Pairwise fun x y=>x.sC=none\/x.sC≠y.sC):(L.set i x').Pairwise fun x y=>x.sC=none\/x.sC≠y.sC:=by
 have hm:(L.set i x').map bu.sC=L.map bu.sC:=by
  rw[List.map_set,hf]
  apply uf
  intro j
  rw[p7]
  split
  .rename_i hij;subst hij
   simp[hi]
   exact(nX.1 hi).1
  rfl
 have h1:(L.map bu.sC).Pairwise fun x y=>x=none\/x≠y:=HF.2 hd
 rw[<-hm]at h1
 exact HF.1 h1
theorem Hp.set{i b:Nat}{c c':Array Value}{e:TypeId}(h:Hp w0 w L)(hi:L[i]?=some (.blk b (.cells c e (0,0)))):Hp w0 (w.setRow b c') (L.set i (.blk b (.cells c' e (0,0)))):=by
 have hx:=h.ok _ (lO hi)
 have hil:=(nX.1 hi).1
 refine⟨below_setRow h.below hx.1 c',fun y hy=> ?_,Cp hi O h.LP⟩
 obtain⟨j,hj,Fb⟩:=vc.1 hy
 rw[zA]at Fb
 split at Fb
 .subst Fb
  exact⟨hx.1,setRow_heap w b c c' e (0,0) hx.2⟩
 rename_i hne
 have hjL:j<L.length:=by simpa using hj
 have hyL:y∈L:=Fb▸r8 hjL
 refine bu.Dx (h.ok y hyL) fun bb hf=>setRow_other w b bb c' fun JV=> ?_
 subst JV
 have hp:=Q7.1 h.LP
 have hLi:L[i]= .blk bb (.cells c e (0,0)):=(nX.1 hi).2
 rcases XM hne with hlt|hgt
 .rcases hp i j hil hjL hlt with h0|h0
  .rw[hLi]at h0;cases h0
  rw[hLi,Fb,hf]at h0;exact h0 O
 rcases hp j i hjL hil hgt with h0|h0
 .rw[Fb,hf]at h0;cases h0
 rw[hLi,Fb,hf]at h0;exact h0 O
theorem Hp.get{i:Nat}{x:bu}(h:Hp w0 w L)(hi:L[i]?=some x):x.ok w0.heap.size w:=h.ok _ (lO hi)
end hp
def sb:Value->Nat
 | .slice (some a) _ _=>a.block
 |_=>0
def so:Value->Nat
 | .slice (some a) _ _=>a.off
 |_=>0
structure Sl(w:World)(v:Value)(sz n:Nat)(cells:List Value):Prop where
 shape:∃a cap,v= .slice a n cap/\n<=cap/\(0<n->a=some ⟨sb v,so v,none⟩)
 len:cells.length=n*sz
 cell:∀j c,cells[j]?=some c->w.cell? ⟨sb v,so v+j,none⟩=some c
 small:n<=maxLen
section sl
variable{P:Program}{w0 w w':World}{L:List bu}{v:Value}{sz n:Nat}{cells:List Value}
theorem Sl.nil(w:World)(sz:Nat):Sl w (.slice none 0 0) sz 0 []:=⟨⟨none,0,rfl,eU _,fun h=>J⟩,aJ,fun j c h=>by simp at h,gd⟩
theorem Sl.below(h:Sl w v sz n cells)(hb:Below w.heap.size w w'):Sl w' v sz n cells:=
 ⟨h.shape,h.len,fun j c hc=>by
  have h1:=h.cell j c hc
  rw[hb.cell (World.block_lt_of_cell? w _ h1)];exact h1,h.small⟩
theorem Sl.hp(h:Sl w0 v sz n cells)(hp:Hp w0 w L):Sl w v sz n cells:=h.below hp.below
theorem Sl.R6{base:Nat}{e:TypeId}(h:w.ownsRow base e sz v n cells):Sl w v sz n cells:=by
 obtain⟨h1,h2⟩:=h
 rcases h2 with⟨rfl,rfl⟩|⟨gb,cap,cur,rfl,hb,hg,hn,hm,hs,ht⟩
 .have:cells=[]:=F6 Fa
  subst this;exact Sl.nil w sz
 refine⟨⟨_,cap,rfl,hn,fun _=>rfl⟩,h1,fun j c hc=> ?_,kX hn hm⟩
 simp only[sb,so,gN]
 rw[xS w _ _ cur e (0,0) hg]
 rw[<-ht,qS]at hc
 split at hc
 .simpa using hc
 .cases hc
theorem Hp.sl{i:Nat}{e:TypeId}(h:Hp w0 w L)(hi:L[i]?=some (.row v e sz n cells)):Sl w v sz n cells:=Sl.R6 (h.get hi)
theorem Hp.dR{i b:Nat}{c:Array Value}{e:TypeId}(h:Hp w0 w L)(hi:L[i]?=some (.blk b (.cells c e (0,0))))(hl:c.size=n*sz)(hs:n<=maxLen):Sl w (.slice (some ⟨b,0,none⟩) n n) sz n c.toList:=
 ⟨⟨_,n,rfl,eU _,fun _=>rfl⟩,by simpa using hl,fun j u hu=>by
  simp only[sb,so,gN]
  exact h.cell hi qZ,hs⟩
section ops
variable{σ:Env}{dst:Option Tmp}{ty t:TypeId}{pos:String}{bO:Array Edge}{g:Option (Nat×Bool)}{x y:Operand}
theorem ah{e:TypeId}{k:IntKind}{i:Int}(hS:Sl w v sz n cells)(hu:P.underlying t=some (.slice e))(hs:∀w,(sizeOf e).run P w= .ok sz w)
  (hx:ev σ x=v) (hy:ev σ y= .int k i) (hi:0<=i/\i<n):
  (execOp (ev σ) ⟨dst,.indexAddr t x y,ty,pos,bO,g⟩).run P w= .ok (.value (.pointer (some ⟨sb v,so v+i.toNat*sz,none⟩))) w:=by
 obtain⟨a,cap,hv,hnc,ha⟩:=hS.shape
 have ha':=ha J
 have hx':ev σ x= .slice (some ⟨sb v,so v,none⟩) n cap:=by rw[hx,hv,<-hv];rw[<-ha'];exact hv
 simp[execOp,Instr.indexAt,kf hu,hx',hy,asIntOf,hi,hs,HJ]
theorem aC{e:TypeId}{ats:Array TypeId}(hS:Sl w v sz n cells)(ht:ats[0]?=some t)(hu:P.underlying t=some (.slice e))(hx:ev σ x=v):
  (execOp (ev σ) ⟨dst,.call {callee:= .builtin .len,args:=#[x],argTypes:=ats},ty,pos,bO,g⟩).run P w= .ok (.value (I n)) w:=by
 obtain⟨a,cap,hv,hnc,ha⟩:=hS.shape
 exact afY ht hu hx hv
end ops
end sl
section aCO
variable{P:Program}{n:Nat}{ops:Array Oper}{k:K}{rest:List Oper}{σ:Env}{w0 w:World}{L:List bu}{op:Op}{ty:TypeId}{pos:String}{bO:Array Edge}{d:Nat}
theorem Yx{o:Obj}(hd:Nat.blt d n=true)(hH:Hp w0 w L){f:Nat->Value}(hr:(execOp (ev σ) ⟨some d,op,ty,pos,bO,none⟩).run P w= .ok (.value (f w.heap.size)) (w.alloc o))
  (hk:∀b w',Hp w0 w' (.blk b o::L)->RL P n ops k rest (lX σ d (f b)) w'):RL P n ops k (⟨some d,op,ty,pos,bO,none⟩::rest) σ w:=
 pn hd hr (hk _ _ (hH.alloc o))
theorem bg{i b:Nat}{c c':Array Value}{e:TypeId}(hH:Hp w0 w L)(hi:L[i]?=some (.blk b (.cells c e (0,0))))
  (hr:(execOp (ev σ) ⟨none,op,ty,pos,bO,none⟩).run P w= .ok .skip (w.setRow b c'))
  (hk:∀w',Hp w0 w' (L.set i (.blk b (.cells c' e (0,0))))->RL P n ops k rest σ w'):RL P n ops k (⟨none,op,ty,pos,bO,none⟩::rest) σ w:=
 H7 hr (hk _ (hH.set hi))
def Pure(v:Value)(w:World):Ending->World->Prop:=jW fun u w'=>u=v/\Below w.heap.size w w'
def sY(e:TypeId)(sz m:Nat)(xs:List Value)(w:World):Ending->World->Prop:=jW fun v w'=>w'.ownsRow w.heap.size e sz v m xs/\Below w.heap.size w w'
theorem aH{f:FuncId}{args:Array Value}{v:Value}(hd:Nat.blt d n=true)(hH:Hp w0 w L)(hc:Calls P f args w (Pure v w))
  (hr:(execOp (ev σ) ⟨some d,op,ty,pos,bO,none⟩).run P w= .ok (.enter f args) w)
  (hk:∀w',Hp w0 w' L->RL P n ops k rest (lX σ d v) w'):RL P n ops k (⟨some d,op,ty,pos,bO,none⟩::rest) σ w:=
 H8 hd hr hc fun u w' ⟨hu,hb⟩=>by subst hu;exact hk w' (hH.call hb)
theorem Cq{f:FuncId}{args:Array Value}{e:TypeId}{sz m:Nat}{xs:List Value}(hd:Nat.blt d n=true)(hH:Hp w0 w L)(hc:Calls P f args w (sY e sz m xs w))
  (hr:(execOp (ev σ) ⟨some d,op,ty,pos,bO,none⟩).run P w= .ok (.enter f args) w)
  (hk:∀v w',Hp w0 w' (.row v e sz m xs::L)->RL P n ops k rest (lX σ d v) w'):RL P n ops k (⟨some d,op,ty,pos,bO,none⟩::rest) σ w:=
 H8 hd hr hc fun u w' ⟨hu,hb⟩=>hk u w' (hH.Dy hb hu)
end aCO
def AN(P:Program)(n:Nat)(l:List Oper)(S:World->Prop)(k:K)(fuel:Nat)(listed:Array Bool)(σ:Env)(w:World):Prop:=
 ∀a,Is n σ a->wpAnyH P .any l.toArray (r9 n k) S fuel listed a w
section af1
variable{P:Program}{n:Nat}{l:List Oper}{S:World->Prop}{k:K}{xs:List (Nat×K)}{r:K}{σ:Env}{w w0:World}{L:List bu}{fuel i d:Nat}{listed:Array Bool}{op:Op}{ty:TypeId}{pos:String}{bO:Array Edge}{g:Option (Nat×Bool)}{v:Value}{dst:Option Tmp}
theorem ec{id:Nat}(hm:P.follows .mixedOrders=true)(hH:Hp w0 w L)
  (h:∀w',Hp w0 w' L->AN P n l (fun w=>Hp w0 w L) k l.length (Array.replicate l.length false) σ w'):CW P n (.region id l.toArray true) k xs r σ w:=by
 intro a ha
 refine zD (fun e a' w' hq=> ?_) (X9 (id:=id) (Q:=r9 n k) hm (Ya (S:=fun w=>Hp w0 w L) _ _ _ _ ?_))
 .cases e with
  |normal=>exact hq
  |exit id=>exact hq.elim
  |ret=>exact hq.elim
  |goto l=>exact hq.elim
  |panic c=>exact hq.elim
  |outgrown=>exact hq.elim
 have:=h _ hH.drew a ha
 simpa using this
theorem av6(hr:Region.ready .any l.toArray listed=[])(h:k σ w):AN P n l S k fuel listed σ w:=by
 intro a ha
 cases fuel with
 |zero=>exact⟨hr,σ,ha,h⟩
 |succ f=>exact⟨fun _=>⟨σ,ha,h⟩,fun i hi=>by rw[hr]at hi;cases hi⟩
theorem af2(i:Nat)(hi:l[i]?=some ⟨some d,op,ty,pos,bO,none⟩)(hd:Nat.blt d n=true)(hs:Region.noSelect l.toArray=true)(hf:Region.free .any l.toArray listed i=true)
  (hr:(Region.ready .any l.toArray listed).contains i=true) (hS:S w) (hy:∀w,S w->(execOp (ev σ) ⟨some d,op,ty,pos,bO,none⟩).run P w= .ok (.value v) w)
  (h:AN P n l S k fuel (listed.setIfInBounds i true) (lX σ d v) w):AN P n l S k (fuel+1) listed σ w:=by
 intro a ha
 refine RC (i:=i) (oi:=⟨some d,op,ty,pos,bO,none⟩) (v:=v) zK hs hf hr (fun c a w hq=>hq.elim) (.inl ⟨rfl,fun w hw=> ?_⟩) hS (h _ (ha.put hd v))
 rw[ha.eval];exact hy w hw
theorem arf(i:Nat){j dj:Nat}{want:Bool}(hi:l[i]?=some ⟨some d,op,ty,pos,bO,some (j,want)⟩)(hj:(l[j]?).bind (·.dst)=some dj)(hb:σ dj= .bool want)(hd:Nat.blt d n=true)
  (hs:Region.noSelect l.toArray=true) (hf:Region.free .any l.toArray listed i=true)
  (hr:(Region.ready .any l.toArray listed).contains i=true) (hS:S w) (hy:∀w,S w->(execOp (ev σ) ⟨some d,op,ty,pos,bO,some (j,want)⟩).run P w= .ok (.value v) w)
  (h:AN P n l S k fuel (listed.setIfInBounds i true) (lX σ d v) w):AN P n l S k (fuel+1) listed σ w:=by
 intro a ha
 refine RC (i:=i) (oi:=⟨some d,op,ty,pos,bO,some (j,want)⟩) (v:=v) zK hs hf hr (fun c a w hq=>hq.elim)
  (.inl ⟨by rw[H9 ha (by simpa using hj) hb];simp,fun w hw=> ?_⟩) hS (h _ (ha.put hd v))
 rw[ha.eval];exact hy w hw
theorem av7(i:Nat){j dj:Nat}{b want:Bool}(hi:l[i]?=some ⟨some d,op,ty,pos,bO,some (j,want)⟩)(hj:(l[j]?).bind (·.dst)=some dj)(hb:σ dj= .bool b)(hne:(b==want)=false)(hd:Nat.blt d n=true)
  (hs:Region.noSelect l.toArray=true) (hf:Region.free .any l.toArray listed i=true)
  (hr:(Region.ready .any l.toArray listed).contains i=true) (hS:S w)
  (h:AN P n l S k fuel (listed.setIfInBounds i true) (lX σ d undef) w):AN P n l S k (fuel+1) listed σ w:=by
 intro a ha
 exact RC (i:=i) (oi:=⟨some d,op,ty,pos,bO,some (j,want)⟩) (v:=undef) zK hs hf hr (fun c a w hq=>hq.elim)
  (.inr ⟨by rw[H9 ha (by simpa using hj) hb];exact hne,rfl⟩) hS (h _ (ha.put hd undef))
theorem av8(i:Nat){j dj:Nat}{want:Bool}(hi:l[i]?=some ⟨some d,op,ty,pos,bO,some (j,want)⟩)(hj:(l[j]?).bind (·.dst)=some dj)(hu:σ dj=undef)(hd:Nat.blt d n=true)
  (hs:Region.noSelect l.toArray=true) (hf:Region.free .any l.toArray listed i=true)
  (hr:(Region.ready .any l.toArray listed).contains i=true) (hS:S w)
  (h:AN P n l S k fuel (listed.setIfInBounds i true) (lX σ d undef) w):AN P n l S k (fuel+1) listed σ w:=by
 intro a ha
 exact RC (i:=i) (oi:=⟨some d,op,ty,pos,bO,some (j,want)⟩) (v:=undef) zK hs hf hr (fun c a w hq=>hq.elim)
  (.inr ⟨F8 ha (by simpa using hj) hu _,rfl⟩) hS (h _ (ha.put hd undef))
def AO(P:Program)(n:Nat)(l:List Oper)(S:World->Prop)(k:K)(fuel:Nat)(listed:Array Bool)(σ:Env)(w:World)(i:Nat):Prop:=
 ∀a,Is n σ a->wpOp P l.toArray (r9 n k) i (fun a' w'=>S w'/\wpAnyH P .any l.toArray (r9 n k) S fuel (listed.setIfInBounds i true) a' w') a w
theorem aaX(rs:List Nat)(hr:Region.ready .any l.toArray listed=rs)(hne:rs.isEmpty=false)(h:∀i∈rs,AO P n l S k fuel listed σ w i):AN P n l S k (fuel+1) listed σ w:=by
 intro a ha
 exact wpAnyH_all hr (by intro h0;simp[h0]at hne) fun i hi=>h i hi a ha
theorem av9(i:Nat)(hr:Region.ready .any l.toArray listed=[i])(h:AO P n l S k fuel listed σ w i):AN P n l S k (fuel+1) listed σ w:=by simp_all[aaX]
theorem Yy{o:Oper}(hi:l[i]?=some o)(hw:∀a,Is n σ a->Region.wanted o (yielded l.toArray a.tmps)=true)
  (h:∀a,Is n σ a->o.upon P a (fun a' w'=>S w'/\wpAnyH P .any l.toArray (r9 n k) S fuel (listed.setIfInBounds i true) a' w') (r9 n k) ((execOp (ev σ) o).run P w)):AO P n l S k fuel listed σ w i:=by
 intro a ha
 have hi':l.toArray[i]?=some o:=zK
 unfold wpOp
 simp only[hi',hw a ha,uu]
 refine .inl ?_
 unfold Oper.wp
 rw[ha.eval]
 exact h a ha
theorem Cr{w':World}(hi:l[i]?=some ⟨some d,op,ty,pos,bO,g⟩)(hg:∀a,Is n σ a->Region.wanted ⟨some d,op,ty,pos,bO,g⟩ (yielded l.toArray a.tmps)=true)(hd:Nat.blt d n=true)
  (hr:(execOp (ev σ) ⟨some d,op,ty,pos,bO,g⟩).run P w= .ok (.value v) w') (hS:S w') (h:AN P n l S k fuel (listed.setIfInBounds i true) (lX σ d v) w'):AO P n l S k fuel listed σ w i:=
 Yy hi hg fun a ha=>by rw[hr];exact⟨hS,h _ (ha.put hd v)⟩
theorem Ia{w':World}(hi:l[i]?=some ⟨none,op,ty,pos,bO,g⟩)(hg:∀a,Is n σ a->Region.wanted ⟨none,op,ty,pos,bO,g⟩ (yielded l.toArray a.tmps)=true)
  (hr:(execOp (ev σ) ⟨none,op,ty,pos,bO,g⟩).run P w= .ok .skip w') (hS:S w') (h:AN P n l S k fuel (listed.setIfInBounds i true) σ w'):AO P n l S k fuel listed σ w i:=
 Yy hi hg fun a ha=>by rw[hr];exact⟨hS,h _ ha⟩
theorem R7{f:FuncId}{args:Array Value}{q:Value->World->Prop}(hi:l[i]?=some ⟨some d,op,ty,pos,bO,g⟩)(hg:∀a,Is n σ a->Region.wanted ⟨some d,op,ty,pos,bO,g⟩ (yielded l.toArray a.tmps)=true)(hd:Nat.blt d n=true)
  (hc:Calls P f args w (jW q)) (hr:(execOp (ev σ) ⟨some d,op,ty,pos,bO,g⟩).run P w= .ok (.enter f args) w)
  (h:∀v w',q v w'->S w'/\AN P n l S k fuel (listed.setIfInBounds i true) (lX σ d v) w'):AO P n l S k fuel listed σ w i:=
 Yy hi hg fun a ha=>by
  rw[hr]
  refine hc.mono fun e w' hq=> ?_
  cases e with
  |returned v=>exact⟨(h v w' hq).1,(h v w' hq).2 _ (ha.put hd v)⟩
  |panicked c=>exact hq.elim
  |outgrown=>exact hq.elim
theorem aD(a:Act)(_:Is n σ a):Region.wanted ⟨dst,op,ty,pos,bO,none⟩ (yielded l.toArray a.tmps)=true:=rfl
theorem A3{j dj:Nat}{want:Bool}(hj:(l[j]?).bind (·.dst)=some dj)(hb:σ dj= .bool want)(a:Act)(ha:Is n σ a):Region.wanted ⟨dst,op,ty,pos,bO,some (j,want)⟩ (yielded l.toArray a.tmps)=true:=by grind[H9]
theorem cH{L':List bu}{o:Obj}{f:Nat->Value}(hi:l[i]?=some ⟨some d,op,ty,pos,bO,g⟩)(hg:∀a,Is n σ a->Region.wanted ⟨some d,op,ty,pos,bO,g⟩ (yielded l.toArray a.tmps)=true)(hd:Nat.blt d n=true)
  (hH:Hp w0 w L') (hs:L.Sublist L') (hr:(execOp (ev σ) ⟨some d,op,ty,pos,bO,g⟩).run P w= .ok (.value (f w.heap.size)) (w.alloc o))
  (h:∀b w',Hp w0 w' (.blk b o::L')->AN P n l (fun w=>Hp w0 w L) k fuel (listed.setIfInBounds i true) (lX σ d (f b)) w'):AO P n l (fun w=>Hp w0 w L) k fuel listed σ w i:=
 Cr hi hg hd hr ((hH.alloc o).sub (hs.cons _)) (h _ _ (hH.alloc o))
theorem ct{L':List bu}{f:FuncId}{args:Array Value}(hi:l[i]?=some ⟨some d,op,ty,pos,bO,g⟩)(hg:∀a,Is n σ a->Region.wanted ⟨some d,op,ty,pos,bO,g⟩ (yielded l.toArray a.tmps)=true)(hd:Nat.blt d n=true)
  (hH:Hp w0 w L') (hs:L.Sublist L') (hc:Calls P f args w (Pure v w)) (hr:(execOp (ev σ) ⟨some d,op,ty,pos,bO,g⟩).run P w= .ok (.enter f args) w)
  (h:∀w',Hp w0 w' L'->AN P n l (fun w=>Hp w0 w L) k fuel (listed.setIfInBounds i true) (lX σ d v) w'):AO P n l (fun w=>Hp w0 w L) k fuel listed σ w i:=
 R7 hi hg hd hc hr fun u w' ⟨hu,hb⟩=>by subst hu;exact⟨(hH.call hb).sub hs,h w' (hH.call hb)⟩
theorem LQ{L':List bu}{f:FuncId}{args:Array Value}{e:TypeId}{sz m:Nat}{ys:List Value}(hi:l[i]?=some ⟨some d,op,ty,pos,bO,g⟩)(hg:∀a,Is n σ a->Region.wanted ⟨some d,op,ty,pos,bO,g⟩ (yielded l.toArray a.tmps)=true)(hd:Nat.blt d n=true)
  (hH:Hp w0 w L') (hs:L.Sublist L') (hc:Calls P f args w (sY e sz m ys w)) (hr:(execOp (ev σ) ⟨some d,op,ty,pos,bO,g⟩).run P w= .ok (.enter f args) w)
  (h:∀u w',Hp w0 w' (.row u e sz m ys::L')->AN P n l (fun w=>Hp w0 w L) k fuel (listed.setIfInBounds i true) (lX σ d u) w'):AO P n l (fun w=>Hp w0 w L) k fuel listed σ w i:=
 R7 hi hg hd hc hr fun u w' ⟨hu,hb⟩=>⟨(hH.call hb).sub hs,h u w' (hH.Dy hb hu)⟩
end af1
def Fr(ws:List Nat)(σ σ':Env):Prop:=∀i,ws.contains i=false->σ' i=σ i
theorem Fr.refl(ws:List Nat)(σ:Env):Fr ws σ σ:=fun _ _=>rfl
theorem Fr.u{ws:List Nat}{σ σ':Env}{d:Nat}{v:Value}(h:Fr ws σ σ')(hd:ws.contains d=true):Fr ws σ (lX σ' d v):=fun i hi=>by
 rw[Yt];exact h i hi
 intro e;subst e;rw[hd]at hi;cases hi
theorem Fr.t{ws ws2:List Nat}{σ σ' awa:Env}(h:Fr ws σ σ')(h2:Fr ws2 σ' awa)(hs:ws2.all (ws.contains ·)=true):Fr ws σ awa:=fun i hi=>by
 rw[h2 i,h i hi]
 cases hc:ws2.contains i with
 |false=>rfl
 |true=>
  have:=iS.1 hs i (by simpa using hc)
  rw[hi]at this;cases this
section short
variable{P:Program}{n:Nat}{ops:Array Oper}{k:K}{xs:List (Nat×K)}{r:K}{rest l:List Oper}{σ:Env}{w:World}{b:Bool}{p:Prop}{v:Value}
theorem bT[Decidable p](h:p):Value.bool (decide p)= .bool true:=by grind
theorem bF[Decidable p](h:¬p):Value.bool (decide p)= .bool false:=by grind
theorem bR{c:Bool}(h:b=c):Value.bool b= .bool c:=aK Value.bool h
theorem aCQ{dj:Nat}(hb:σ dj= .bool b)(ht:b=true->RL P n ops k l σ w)(hf:b=false->RL P n ops k l σ w):RL P n ops k l σ w:=by grind
theorem aCR[Decidable p]{dj:Nat}(hb:σ dj= .bool (decide p))(ht:p->RL P n ops k l σ w)(hf:¬p->RL P n ops k l σ w):RL P n ops k l σ w:=by grind
theorem LR{S:World->Prop}{fuel:Nat}{listed:Array Bool}{dj:Nat}(hb:σ dj= .bool b)(ht:b=true->AN P n l S k fuel listed σ w)(hf:b=false->AN P n l S k fuel listed σ w):AN P n l S k fuel listed σ w:=by grind
theorem Cs{S:World->Prop}{fuel:Nat}{listed:Array Bool}[Decidable p]{dj:Nat}(hb:σ dj= .bool (decide p))(ht:p->AN P n l S k fuel listed σ w)(hf:¬p->AN P n l S k fuel listed σ w):AN P n l S k fuel listed σ w:=by grind
variable{dst:Option Tmp}{ty:TypeId}{pos:String}{bO:Array Edge}{g:Option (Nat×Bool)}{f:FuncId}{ats:Array TypeId}{x1 x2 x3 x4 x5 x6 x:Operand}{v1 v2 v3 v4 v5 v6:Value}{cap:Array Value}
theorem Dz(hf:∀args w,(callFunc f args).run P w= .ok (.enter f args) w):
 (execOp (ev σ) ⟨dst,.call {callee:= .value (.func f),args:=#[],argTypes:=ats},ty,pos,bO,g⟩).run P w= .ok (.enter f #[]) w:=yC (Hx:=[]) hf O
theorem ay(hf:∀args w,(callFunc f args).run P w= .ok (.enter f args) w)(h1:ev σ x1=v1):
 (execOp (ev σ) ⟨dst,.call {callee:= .value (.func f),args:=#[x1],argTypes:=ats},ty,pos,bO,g⟩).run P w= .ok (.enter f #[v1]) w:=by grind[yC]
theorem aL(hf:∀args w,(callFunc f args).run P w= .ok (.enter f args) w)(h1:ev σ x1=v1)(h2:ev σ x2=v2):
 (execOp (ev σ) ⟨dst,.call {callee:= .value (.func f),args:=#[x1,x2],argTypes:=ats},ty,pos,bO,g⟩).run P w= .ok (.enter f #[v1,v2]) w:=by grind[yC]
theorem bz(hf:∀args w,(callFunc f args).run P w= .ok (.enter f args) w)(h1:ev σ x1=v1)(h2:ev σ x2=v2)(h3:ev σ x3=v3):
 (execOp (ev σ) ⟨dst,.call {callee:= .value (.func f),args:=#[x1,x2,x3],argTypes:=ats},ty,pos,bO,g⟩).run P w= .ok (.enter f #[v1,v2,v3]) w:=by grind[yC]
theorem jE(hf:∀args w,(callFunc f args).run P w= .ok (.enter f args) w)(h1:ev σ x1=v1)(h2:ev σ x2=v2)(h3:ev σ x3=v3)(h4:ev σ x4=v4):
 (execOp (ev σ) ⟨dst,.call {callee:= .value (.func f),args:=#[x1,x2,x3,x4],argTypes:=ats},ty,pos,bO,g⟩).run P w= .ok (.enter f #[v1,v2,v3,v4]) w:=by grind[yC]
theorem sD(hf:∀args w,(callFunc f args).run P w= .ok (.enter f args) w)(h1:ev σ x1=v1)(h2:ev σ x2=v2)(h3:ev σ x3=v3)(h4:ev σ x4=v4)(h5:ev σ x5=v5):
 (execOp (ev σ) ⟨dst,.call {callee:= .value (.func f),args:=#[x1,x2,x3,x4,x5],argTypes:=ats},ty,pos,bO,g⟩).run P w= .ok (.enter f #[v1,v2,v3,v4,v5]) w:=by grind[yC]
theorem Yz(hf:∀args w,(callFunc f args).run P w= .ok (.enter f args) w)(hx:ev σ x= .func (.func f) #[] cap)(h1:ev σ x1=v1):
 (execOp (ev σ) ⟨dst,.call {callee:= .value x,args:=#[x1],argTypes:=ats},ty,pos,bO,g⟩).run P w= .ok (.enter f (#[v1]++cap)) w:=by grind[Pv]
theorem Cu{fn:Fn}(h1:ev σ x1=v1):(execOp (ev σ) ⟨dst,.makeFunc fn #[] #[x1],ty,pos,bO,g⟩).run P w= .ok (.value (.func fn #[] #[v1])) w:=by grind[uN]
theorem s5{fn:Fn}(h1:ev σ x1=v1)(h2:ev σ x2=v2):(execOp (ev σ) ⟨dst,.makeFunc fn #[] #[x1,x2],ty,pos,bO,g⟩).run P w= .ok (.value (.func fn #[] #[v1,v2])) w:=by grind[uN]
theorem LS{fn:Fn}(h1:ev σ x1=v1)(h2:ev σ x2=v2)(h3:ev σ x3=v3):(execOp (ev σ) ⟨dst,.makeFunc fn #[] #[x1,x2,x3],ty,pos,bO,g⟩).run P w= .ok (.value (.func fn #[] #[v1,v2,v3])) w:=by grind[uN]
variable{fn:Func}{w0:World}
theorem Gc{t:Nat}(h:fn.results=#[.tmp t])(hv:σ t=v)(hb:Below w0.heap.size w0 w):Out P fn (fun u w'=>u=v/\Below w0.heap.size w0 w') σ w:=jy h hv ⟨rfl,hb⟩
theorem kr{t u:Nat}{y z:Value}(h:fn.results=#[.tmp t,.tmp u])(hy:σ t=y)(hz:σ u=z)(hb:Below w0.heap.size w0 w):Out P fn (fun u w'=>u= .tuple #[y,z]/\Below w0.heap.size w0 w') σ w:=afT h hy hz ⟨rfl,hb⟩
end short
section app
variable{P:Program}{w0 w:World}{L:List bu}
theorem s6{base:Nat}{t ty e:TypeId}{i:TypeInfo}{z:Value}{size bytes:Nat}(ht:P.underlying t=some (.slice e))(hi:P.info? e=some i)(hz:i.zero=some z)
  (hsize:i.size=size) (hby:i.bytes=bytes) (hzs:z.cells.size=size) (hsz:0<size)
  {v:Value} {n:Nat} {xs:List Value} (hown:w.ownsRow base e size v n xs) {y:Value} {m:Nat} {news:List Value} (hS:Sl w y size m news) (h1:∀u∈news,u.oneCell'=true)
  (h63:n+m<=maxLen) (hbytes:(n+m)*bytes<=140737488355328) (hbase:base<=w.heap.size):
  ∃v' w',(Builtin.append_ #[t,t] ty #[v,y]).run P w= .ok v' w'/\w'.ownsRow base e size v' (n+m) (xs++news)/\w.grownBy w' v.ownBlock/\
   (v'.ownBlock=none\/v'.ownBlock=v.ownBlock\/v'.ownBlock=some w.heap.size):=by
 obtain⟨a,c,hy,hnc,ha⟩:=hS.shape
 by_cases hm:m=0
 .subst hm
  have hn:news=[]:=F6 (by simpa using hS.len)
  subst hn
  refine⟨v,w,?_,by simpa using hown,⟨rfl,rfl,rfl,eU _,fun _ _ _=>rfl⟩,.inr (.inl O)⟩
  subst hy
  rcases hown.2 with⟨rfl,rfl⟩|⟨g,cap,cur,rfl,hbg,hg,hnc,hcm,hcs,awb⟩
  .cases a<;>simp[Builtin.append_,kf ht,sizeOf,typeInfo,hi,Builtin.lenOf,Builtin.firstCells,loadCells,loadCellsFrom]
  .cases a<;>simp[Builtin.append_,kf ht,sizeOf,typeInfo,hi,Builtin.lenOf,Builtin.firstCells,loadCells,loadCellsFrom,hnc,storeCells]
 have ha':=ha J
 have hyy:y= .slice (some ⟨sb y,so y,none⟩) m c:=by rw[<-ha'];exact hy
 have hnews:∀j u,news[j]?=some u->w.cell? ((⟨sb y,so y,none⟩:Addr).add j)=some u:=fun j u hu=>by rw[HJ];exact hS.cell j u hu
 obtain⟨v',w',hr,h2,h3,h4⟩:=run_append_own (P:=P) w base t ty e i z size bytes ht hi hz hsize hby hzs hsz v n xs hown ⟨sb y,so y,none⟩ m c news hS.len hnews h1 h63 hbytes hbase
 rw[hyy]
 refine⟨v',w',hr,h2,h3,?_⟩
 subst hsize
 subst hby
 have hsmall:n+m<=9223372036854775807:=by simp only[maxLen]at h63;omega
 rcases hown.2 with⟨rfl,rfl⟩|⟨g,cap,cur,rfl,hbg,hg,hnc,hcm,hcs,awb⟩
 .have hr2:=run_append_nil (P:=P) w t ty e i z ht hi hz ⟨sb y,so y,none⟩ m c news hS.len hnews J J afP
  rw[hr2]at hr
  injection hr with e1 e2
  subst e1
  exact .inr (.inr O)
 by_cases hroom:n+m<=cap
 .have hfit:n*i.size+news.length<=cur.size:=by rw[hS.len,hcs,<-lm];exact s4 _ hroom
  have hr2:=run_append_room (P:=P) w t ty e i ht hi g n cap cur hg ⟨sb y,so y,none⟩ m c news hS.len hnews h1 hroom hfit
  rw[hr2]at hr
  injection hr with e1 e2
  subst e1
  exact .inr (.inl O)
 have holds:∀j u,xs[j]?=some u->w.cell? ((⟨g,0,none⟩:Addr).add j)=some u:=hown.cells (g:=g) O
 have hr2:=run_append_grow (P:=P) w t ty e i z ht hi hz ⟨g,0,none⟩ n cap xs hown.1 holds ⟨sb y,so y,none⟩ m c news hS.len hnews J J (growslice_fits J hbytes)
 rw[hr2]at hr
 injection hr with e1 e2
 subst e1
 exact .inr (.inr O)
theorem Hp.yD{w':World}{i:Nat}{v v':Value}{e:TypeId}{sz n m:Nat}{xs ys:List Value}(h:Hp w0 w L)(hi:L[i]?=some (.row v e sz n xs))
  (hr:w'.ownsRow w0.heap.size e sz v' m ys) (hg:w.grownBy w' v.ownBlock) (hf:v'.ownBlock=none\/v'.ownBlock=v.ownBlock\/v'.ownBlock=some w.heap.size):Hp w0 w' (L.set i (.row v' e sz m ys)):=by
 have hx:=h.get hi
 have hil:=(nX.1 hi).1
 have hLi:L[i]= .row v e sz n xs:=(nX.1 hi).2
 have hp:=Q7.1 h.LP
 have af3:∀j (hj:j<L.length),j≠i->∀b,(L[j]).sC=some b->v.ownBlock≠some b:=by
  intro j hj hne b hb he
  rcases XM hne with hlt|hgt
  .rcases hp j i hj hil hlt with h0|h0
   .rw[hb]at h0;cases h0
   rw[hb,hLi]at h0;exact h0 he.symm
  rcases hp i j hil hj hgt with h0|h0
  .rw[hLi]at h0;simp only[bu.sC]at h0;rw[he]at h0;cases h0
  rw[hb,hLi]at h0;exact h0 he
 refine⟨h.below.grown hg h.size fun k hk=>(hx.lt k hk).1,fun y hy=> ?_,?_⟩
 .obtain⟨j,hj,Fb⟩:=vc.1 hy
  rw[zA]at Fb
  split at Fb
  .subst Fb;exact hr
  rename_i hne
  have hjL:j<L.length:=by simpa using hj
  have hyL:y∈L:=Fb▸r8 hjL
  refine bu.Dx (h.ok y hyL) fun b hb=>hg.block b (bu.Jv (h.ok y hyL) b hb).2 fun e=> ?_
  exact af3 j hjL (fun e=>hne e.symm) b (by rw[Fb];exact hb) e.symm
 refine Q7.2 fun a b ha hb hab=> ?_
 have haL:a<L.length:=by simpa using ha
 have hbL:b<L.length:=by simpa using hb
 rw[zA,zA]
 have key:∀j (hj:j<L.length),j≠i->v'.ownBlock=none\/(L[j]).sC=none\/v'.ownBlock≠(L[j]).sC:=by
  intro j hj hne
  cases hfj:(L[j]).sC with
  |none=>exact .inr (.inl O)
  |some c=>
   rcases hf with h0|h0|h0
   .exact .inl h0
   .refine .inr (.inr fun e=>af3 j hj hne c hfj ?_);rw[<-h0,e]
   refine .inr (.inr fun e=> ?_)
   have:=(bu.Jv (h.ok _ (r8 hj)) c hfj).2
   rw[h0]at e;injection e with e;omega
 by_cases hia:i=a
 .subst hia
  rw[aX O,aT J]
  rcases key b hbL (by omega)with h0|h0|h0
  .exact .inl h0
  .cases hv:v'.ownBlock with
   |none=>exact .inl hv
   |some c=>exact .inr (by rw[h0];show v'.ownBlock≠none;rw[hv];simp)
  exact .inr h0
 rw[aT hia]
 by_cases hib:i=b
 .subst hib
  rw[aX O]
  rcases key a haL (by omega)with h0|h0|h0
  .cases hv:(L[a]).sC with
   |none=>exact .inl O
   |some c=>exact .inr (by show some c≠v'.ownBlock;rw[h0];simp)
  .exact .inl h0
  exact .inr fun e=>h0 e.symm
 rw[aT hib]
 exact hp a b haL hbL hab
variable{n:Nat}{ops:Array Oper}{k:K}{rest:List Oper}{σ:Env}{ty:TypeId}{pos:String}{bO:Array Edge}{d:Nat}{x y:Operand}
theorem sZ{t:TypeId}{v u:Value}{w':World}{v':Value}{dst:Option Tmp}{g:Option (Nat×Bool)}(hx:ev σ x=v)(hy:ev σ y=u)(hr:(Builtin.append_ #[t,t] ty #[v,u]).run P w= .ok v' w'):
  (execOp (ev σ) ⟨dst,.call {callee:= .builtin .append,args:=#[x,y],argTypes:=#[t,t]},ty,pos,bO,g⟩).run P w= .ok (.value v') w':=by
 simp[execOp,resolve,invoke,builtin,hx,hy,hr]
theorem gf{t e:TypeId}{i:Nat}{ie:TypeInfo}{z:Value}{size bytes:Nat}{v u:Value}{m m':Nat}{xs news:List Value}(hd:Nat.blt d n=true)(hH:Hp w0 w L)(hL:L[i]?=some (.row v e size m xs))(hS:Sl w u size m' news)
  (hx:ev σ x=v) (hy:ev σ y=u) (ht:P.underlying t=some (.slice e)) (hi:P.info? e=some ie) (hz:ie.zero=some z)
  (hsize:ie.size=size) (hby:ie.bytes=bytes) (hzs:z.cells.size=size) (hsz:0<size) (h1:∀u∈news,u.oneCell'=true)
  (hbytes:(m+m')*bytes<=140737488355328) (h63:m+m'<=maxLen)
  (hk:∀v' w',Hp w0 w' (L.set i (.row v' e size (m+m') (xs++news)))->RL P n ops k rest (lX σ d v') w'):
  RL P n ops k (⟨some d,.call {callee:= .builtin .append,args:=#[x,y],argTypes:=#[t,t]},ty,pos,bO,none⟩::rest) σ w:=by
 obtain⟨v',w',hr,h2,h3,h4⟩:=s6 (P:=P) (ty:=ty) ht hi hz hsize hby hzs hsz (hH.get hL) hS h1 h63 hbytes hH.size
 exact pn hd (sZ hx hy hr) (hk v' w' (hH.yD hL h2 h3 h4))
end app
theorem clI(k:IntKind)(n:Int):(Value.int k n).cells.toList=[Value.int k n]:=rfl
theorem clB(b:Bool):(Value.bool b).cells.toList=[Value.bool b]:=rfl
theorem clS(b:ByteArray):(Value.string b).cells.toList=[Value.string b]:=rfl
theorem clP(a:Option Addr):(Value.pointer a).cells.toList=[Value.pointer a]:=rfl
theorem clL(a:Option Addr)(n c:Nat):(Value.slice a n c).cells.toList=[Value.slice a n c]:=rfl
theorem clA(l:List Value):(Value.agg l.toArray).cells.toList=l:=rfl
section more
variable{P:Program}{w0 w:World}{L L':List bu}{fn:Func}{σ:Env}
theorem Hp.conv(h:Hp w0 w L)(e:L=L'):Hp w0 w L':=e▸h
theorem Hp.perm(h:Hp w0 w L)(hp:L.Perm L'):Hp w0 w L':=
 ⟨h.below,fun x hx=>h.ok x (hp.mem_iff.2 hx),hp.pairwise h.LP fun{x y} hxy=>by
  cases hy:y.sC with
  |none=>exact .inl O
  |some b=>
   right
   rcases hxy with h0|h0
   .rw[h0];simp
   rw[hy]at h0;exact fun e=>h0 e.symm⟩
theorem OX{t i:Nat}{v:Value}{e:TypeId}{sz n n':Nat}{xs xs':List Value}(h:fn.results=#[.tmp t])(hv:σ t=v)(hH:Hp w0 w L)(hi:L[i]?=some (.row v e sz n xs))(hn:n=n')(hx:xs=xs'):
  Out P fn (fun u w'=>w'.ownsRow w0.heap.size e sz u n' xs'/\Below w0.heap.size w0 w') σ w:=by
 subst hn;subst hx
 exact jy h hv ⟨hH.get hi,hH.below⟩
theorem eS{xs:List Int}{k:Int}(h:0<=k/\k<xs.length):(xs.map I)[k.toNat*1]?=some (I (xs.getD k.toNat 0)):=by grind
end more
def isD(ops:Array Oper)(j dj:Nat):Bool:=match(ops[j]?).bind (·.dst)with
 |some d=>Nat.beq d dj
 |none=>false
def YA{α:Type}:Bool->α->α->α
 |true,x,_=>x
 |false,_,y=>y
def gv(ops:Array Oper)(dj:Nat)(b:Bool):Option (Nat×Bool)->Option Bool
 |some (j,want)=>YA (isD ops j dj) (some (YA b want (!want))) none
 |none=>none
def pk(dj:Nat)(b:Bool):Op->Op
 | .pick (.tmp c) x y=>YA (Nat.beq c dj) (.move (YA b x y)) (.pick (.tmp c) x y)
 |o=>o
def dE(dj:Nat):Option Tmp->Bool
 |some d=>Nat.beq d dj
 |none=>false
def gs(ops:Array Oper)(dj:Nat)(b:Bool):List Oper->List Oper
 |[]=>[]
 |o::r=>match gv ops dj b o.guard with
  |some true=>⟨o.dst,pk dj b o.op,o.type,o.pos,o.after,none⟩::YA (dE dj o.dst) r (gs ops dj b r)
  |some false=>match o.dst with
   |none=>gs ops dj b r
   |some d=>⟨some d,.move (.const undef),o.type,o.pos,o.after,none⟩::YA (Nat.beq d dj) r (gs ops dj b r)
  |none=>⟨o.dst,pk dj b o.op,o.type,o.pos,o.after,o.guard⟩::YA (dE dj o.dst) r (gs ops dj b r)
def gl(n:Nat)(ops:Array Oper)(dj:Nat)(b:Bool):List Oper->List Oper
 |[]=>[]
 |o::r=>match gv ops dj b o.guard,o.dst with
  |some false,some d=>YA (YA (Nat.beq d dj) false (Nat.blt d n)) (gl n ops dj b r) (gs ops dj b (o::r))
  |some false,none=>gl n ops dj b r
  |_,_=>gs ops dj b (o::r)
def ge(n:Nat)(ops:Array Oper)(dj:Nat)(b:Bool):List Oper->Env->Env
 |[],σ=>σ
 |o::r,σ=>match gv ops dj b o.guard,o.dst with
  |some false,some d=>YA (YA (Nat.beq d dj) false (Nat.blt d n)) (ge n ops dj b r (lX σ d undef)) σ
  |some false,none=>ge n ops dj b r σ
  |_,_=>σ
section
variable{P:Program}{n:Nat}{ops:Array Oper}{k:K}{rest l:List Oper}{σ:Env}{w:World}{dj:Nat}{b:Bool}
theorem Ib{a:Act}{o:Oper}{t:Bool}(h:a.tmps[dj]?=some (.bool b))(hg:gv ops dj b o.guard=some t):Region.wanted o (yielded ops a.tmps)=t:=by
 obtain⟨dst,op,ty,pos,bO,g⟩:=o
 cases g with
 |none=>cases hg
 |some jw=>
  obtain⟨j,want⟩:=jw
  simp only[gv]at hg
  cases hi:isD ops j dj with
  |false=>rw[hi]at hg;cases hg
  |true=>
   rw[hi]at hg;simp only[YA,XQ]at hg;subst hg
   unfold isD at hi;split at hi
   .rename_i d hd
    have:d=dj:=zK
    subst this
    simp only[Region.wanted,yielded,hd,Rk,h]
    cases b<;>cases want<;>rfl
   .cases hi
theorem af4{a:Act}{o:Oper}(h:a.tmps[dj]?=some (.bool b))(g:Option (Nat×Bool)):execOp a.eval ⟨o.dst,pk dj b o.op,o.type,o.pos,o.after,g⟩=execOp a.eval o:=by
 obtain⟨dst,op,ty,pos,bO,g'⟩:=o
 show execOp a.eval ⟨dst,pk dj b op,ty,pos,bO,g⟩=execOp a.eval ⟨dst,op,ty,pos,bO,g'⟩
 unfold pk
 split
 .rename_i c x y
  cases hc:Nat.beq c dj with
  |false=>rfl
  |true=>
   have:c=dj:=by simpa using hc
   subst this
   have e:a.eval (.tmp c)= .bool b:=by
    show a.tmps.getD c undef=_
    rw[wU,h];rfl
   simp only[execOp,e,asBool,YA]
   cases b<;>rfl
 rfl
theorem acW{o:Oper}{a:Act}{N N':Act->World->Prop}{Q:Exit->Act->World->Prop}(hN:∀(a':Act) v w,a'.tmps=a.tmps->N (a'.put o.dst v) w->N' (a'.put o.dst v) w){r:Result Next}(h:o.upon P a N Q r):o.upon P a N' Q r:=by
 unfold Oper.upon at h⊢
 split at h
 .exact hN _ _ _ O h
 .exact hN _ _ _ O h
 .exact hN {a with defers:=_} _ _ O h
 .refine h.mono fun e w' hr=> ?_
  cases e with
  |returned v=>exact hN _ _ _ O hr
  |panicked c=>exact hr
  |outgrown=>exact hr
 .exact fun c cs=>let⟨v,w',r,s⟩:=h c cs;⟨v,w',hN _ _ _ O r,s⟩
 .exact h
 exact h.elim
theorem af5{a a':Act}{d:Option Tmp}{v:Value}(h:a.tmps[dj]?=some (.bool b))(e:a'.tmps=a.tmps)(hd:dE dj d=false):(a'.put d v).tmps[dj]?=some (.bool b):=by
 cases d with
 |none=>simpa[Act.put,e]using h
 |some d=>
  have hne:d≠dj:=by intro e;subst e;simp[dE]at hd
  simp only[Act.put,e]
  rw[Eg,aT hne];exact h
theorem aoW{Q:Exit->Act->World->Prop}(hL:¬LetsOut Q):∀(l:List Oper) (a:Act) (w:World),a.tmps[dj]?=some (.bool b)->wpList P ops Q (gs ops dj b l) a w->wpList P ops Q l a w
 |[],a,w,_,h=>h
 |o::r,a,w,hb,h=>by
  have next:∀(a':Act) v w,a'.tmps=a.tmps->wpList P ops Q (YA (dE dj o.dst) r (gs ops dj b r)) (a'.put o.dst v) w->wpList P ops Q r (a'.put o.dst v) w:=by
   intro a' v w' e h'
   cases hd:dE dj o.dst with
   |true=>rw[hd]at h';exact h'
   |false=>rw[hd]at h';exact aoW hL r _ _ (af5 hb e hd) h'
  have run:∀g,(Oper.wp P ⟨o.dst,pk dj b o.op,o.type,o.pos,o.after,g⟩ a w (wpList P ops Q (YA (dE dj o.dst) r (gs ops dj b r))) Q\/(Oper.asks P ⟨o.dst,pk dj b o.op,o.type,o.pos,o.after,g⟩ a w/\LetsOut Q))->
    (o.wp P a w (wpList P ops Q r) Q\/(o.asks P a w/\LetsOut Q)):=by
   intro g hg
   rcases hg with hg|hg
   .left
    unfold Oper.wp at hg⊢
    rw[af4 hb]at hg
    exact acW (o:=o) next hg
   right
   unfold Oper.asks at hg⊢
   rw[af4 hb]at hg;exact hg
  unfold gs at h
  cases hg:gv ops dj b o.guard with
  |none=>
   rw[hg]at h;simp only[wpList]at h⊢
   have e:Region.wanted ⟨o.dst,pk dj b o.op,o.type,o.pos,o.after,o.guard⟩ (yielded ops a.tmps)=Region.wanted o (yielded ops a.tmps):=by unfold Region.wanted;rfl
   rw[e]at h
   split
   .rename_i hw;rw[aX hw]at h;exact run _ h
   rename_i hw;rw[aT hw]at h;exact next _ _ _ O h
  |some t=>
   rw[hg]at h
   cases t with
   |true=>
    simp only[wpList]at h⊢
    rw[aX (Ib hb hg)]
    rw[aX aM]at h
    exact run _ h
   |false=>
    simp only[wpList]at h⊢
    rw[aT (by rw[Ib hb hg];simp)]
    cases hd:o.dst with
    |none=>
     rw[hd]at h
     rw[hd]at next
     exact next a undef w O h
    |some d=>
     rw[hd]at h
     rw[hd]at next
     simp only[wpList]at h
     rw[aX aM]at h
     rcases h with h|h
     .exact next _ _ _ O h
     exact(hL h.2).elim
theorem ari(k:K):¬LetsOut (r9 n k):=by
 intro⟨a,w,h⟩
 exact h
theorem LU:∀(l:List Oper) (σ:Env),σ dj= .bool b->RL P n ops k (gl n ops dj b l) (ge n ops dj b l σ) w->RL P n ops k l σ w
 |[],σ,_,h=>h
 |o::r,σ,hb,h=>by
  have stay:RL P n ops k (gs ops dj b (o::r)) σ w->RL P n ops k (o::r) σ w:=fun h a ha=>aoW (ari k) _ a w (ha.look hb zJ) (h a ha)
  unfold gl ge at h
  obtain⟨dst,op,ty,pos,bO,g⟩:=o
  cases hg:gv ops dj b g with
  |none=>simp only[hg]at h;exact stay h
  |some t=>
   cases t with
   |true=>simp only[hg]at h;exact stay h
   |false=>
    simp only[hg]at h
    have hw:∀a,Is n σ a->Region.wanted ⟨dst,op,ty,pos,bO,g⟩ (yielded ops a.tmps)=false:=fun a ha=>Ib (ha.look hb zJ) hg
    cases dst with
    |none=>
     have h1:=LU r σ hb h
     intro a ha
     simp only[wpList,hw a ha]
     exact h1 a ha
    |some d=>
     simp only at h
     cases hd:Nat.beq d dj with
     |true=>rw[hd]at h;exact stay h
     |false=>
      rw[hd]at h
      cases hn:Nat.blt d n with
      |false=>rw[hn]at h;exact stay h
      |true=>
       rw[hn]at h
       have hne:dj≠d:=by intro e;subst e;simp at hd
       have h1:=LU r (lX σ d undef) (by rw[Yt _ _ hne];exact hb) h
       intro a ha
       simp only[wpList,hw a ha]
       exact h1 _ (ha.put hn undef)
theorem cC{j:Nat}{want:Bool}{dst:Option Tmp}{op:Op}{ty:TypeId}{pos:String}{bO:Array Edge}(hj:(ops[j]?).bind (·.dst)=some dj)(hb:σ dj= .bool b)
 (h:RL P n ops k (gl n ops dj b (⟨dst,op,ty,pos,bO,some (j,want)⟩::rest)) (ge n ops dj b (⟨dst,op,ty,pos,bO,some (j,want)⟩::rest) σ) w):RL P n ops k (⟨dst,op,ty,pos,bO,some (j,want)⟩::rest) σ w:=LU _ _ hb h
theorem eF{c:Bool}(dj:Nat)(hb:σ dj= .bool c)(ht:c=true->RL P n ops k (gl n ops dj true l) (ge n ops dj true l σ) w)(hf:c=false->RL P n ops k (gl n ops dj false l) (ge n ops dj false l σ) w):RL P n ops k l σ w:=by
 cases hc:c with
 |true=>exact LU _ _ (hc▸hb) (ht hc)
 |false=>exact LU _ _ (hc▸hb) (hf hc)
theorem bM{p:Prop}[Decidable p](dj:Nat)(hb:σ dj= .bool (decide p))(ht:p->RL P n ops k (gl n ops dj true l) (ge n ops dj true l σ) w)(hf:¬p->RL P n ops k (gl n ops dj false l) (ge n ops dj false l σ) w):RL P n ops k l σ w:=by
 by_cases hc:p
 .exact LU _ _ (by rw[hb,gW hc]) (ht hc)
 exact LU _ _ (by rw[hb,gZ hc]) (hf hc)
theorem zO{d:Nat}{ty:TypeId}{pos:String}{bO:Array Edge}(h:RL P n ops k rest (lX σ d undef) w)(hd:Nat.blt d n=true:=by rfl):RL P n ops k (⟨some d,.move (.const undef),ty,pos,bO,none⟩::rest) σ w:=
 pn hd (run_move O) h
end
end
end Go.Proofs.YtlhjdflgjbkpmaaGreatDoor.E
namespace Go.Proofs.YtlhjdflgjbkpmaaGreatDoor.M
def zP(n:Int):Bool:=decide (1<=n/\n<=64)
def below(n:Int):BitVec 64:=if n<=0 then 0#64 else if 64<=n then~~~0#64 else(1#64<<<(BitVec.ofInt 64 n).toNat)-1#64
theorem R8{n:Int}(h:n<=0):below n=0#64:=by simp[below,h]
theorem acX{n:Int}(h:64<=n):below n= ~~~0#64:=by grind[below]
theorem acY{n:Int}(h:¬n<=0)(h':¬64<=n):below n=(1#64<<<(BitVec.ofInt 64 n).toNat)-1#64:=by grind[below]
def vA(n k:Int):BitVec 64×Bool:=if 1<=n/\n<=64/\0<=k/\k<n then(below k,true)else(0#64,false)
theorem alV{n:Int}(h:(!zP n)=false):1<=n/\n<=64:=by simpa[zP]using h
theorem alW{n:Int}(h:(!zP n)=true):¬(1<=n/\n<=64):=by grind[zP]
theorem Cv{n k:Int}(h:¬(1<=n/\n<=64/\0<=k/\k<n)):vA n k=(0#64,false):=by rw[vA,aT h]
theorem u3{n k:Int}(h:1<=n/\n<=64/\0<=k/\k<n):vA n k=(below k,true):=by rw[vA,aX h]
def level(n:Int)(s:BitVec 64):Int×Bool:=
 if 1<=n/\n<=64 then
  match(List.range n.toNat).find? (fun k:Nat=>s==below (k:Int))with
  |some k=>((k:Int),true)
  |none=>(0,false)
 else(0,false)
theorem LV{n:Int}(s:BitVec 64)(h:¬(1<=n/\n<=64)):level n s=(0,false):=by grind[level]
theorem LW{n k:Int}{s:BitVec 64}(h:1<=n/\n<=64)(h0:0<=k)(hk:k<n)(hs:s=below k)(hf:∀j:Int,0<=j->j<k->s≠below j):level n s=(k,true):=by
 have hfind:(List.range n.toNat).find? (fun i:Nat=>s==below (i:Int))=some k.toNat:=by
  rw[List.find?_range_eq_some]
  refine⟨?_,iX,?_⟩
  .rw[show((k.toNat:Int))=k by omega];simpa using hs
  intro j hj
  have:=hf j J J
  simpa using this
 simp only[level,aX h,hfind]
 rw[show((k.toNat:Int))=k by omega]
theorem Fe{n:Int}{s:BitVec 64}(h:1<=n/\n<=64)(hf:∀j:Int,0<=j->j<n->s≠below j):level n s=(0,false):=by grind[below,level]
theorem om{n:Int}(h:0<=n/\n<18446744073709551616):(BitVec.ofInt 64 n).toNat=n.toNat:=by grind
theorem fG(n:Int)(i:Nat):(below n).getLsbD i=decide (i<64/\(i:Int)<n):=by
 unfold below
 by_cases h:n<=0
 .rw[aX h];simp;omega
 rw[aT h]
 by_cases h':64<=n
 .rw[aX h',Rg,XI,Bool.not_false,Yb,Rp];omega
 rw[aT h',om J]
 have e:(1#64<<<n.toNat)-1#64=BitVec.ofNat 64 (2^n.toNat-1):=by
  apply HA
  have h1:2^n.toNat<2^64:=Nat.pow_lt_pow_right J J
  have h2:0<2^n.toNat:=Nat.two_pow_pos _
  have h3:(1#64<<<n.toNat).toNat=2^n.toNat:=by
   simp[Ra,Ro];exact h1
  rw[Rm,h3,XK,XK]
  generalize 2^n.toNat=X at h1 h2
  omega
 rw[e,XH,afj]
 by_cases a:i<64<;>by_cases b:i<n.toNat<;>simp[a,b]<;>omega
def oo(p:Nat->Bool):Nat->BitVec 64
 |0=>0#64
 |i+1=>if p i then oo p i|||(1#64<<<i)else oo p i
theorem m5(i k:Nat):(1#64<<<i).getLsbD k=(decide (k<64)&&decide (k=i)):=by grind
theorem ku(p:Nat->Bool)(j i:Nat):(oo p j).getLsbD i=(decide (i<j)&&decide (i<64)&&p i):=by
 induction j with
 |zero=>simp[oo]
 |succ j ih=>
  unfold oo
  by_cases hp:p j=true
  .rw[aX hp,XS,ih,m5]
   by_cases h2:i=j
   .subst h2;by_cases h1:i<64<;>simp[h1,hp]
   by_cases h1:i<64<;>by_cases h3:i<j<;>simp[h1,h2,h3]<;>omega
  rw[aT hp,ih]
  by_cases h2:i=j
  .subst h2;simp[hp]
  by_cases h1:i<64<;>by_cases h3:i<j<;>simp[h1,h3]<;>omega
def kT(l:List Int):BitVec 64:=oo (fun i=>l.contains (i:Int)) 64
theorem ic(l:List Int)(i:Nat):(kT l).getLsbD i=(decide (i<64)&&l.contains (i:Int)):=by grind[kT,ku]
def zQ(i:Int):Bool:=decide (0<=i/\i<64)
def hasB(s:BitVec 64)(i:Int):Bool:=zQ i&&s.getLsbD i.toNat
def vB(s:BitVec 64)(i:Int):BitVec 64:=if zQ i then s|||(1#64<<<(BitVec.ofInt 64 i).toNat)else s
def af6(s:BitVec 64)(i:Int):BitVec 64:=if zQ i then s&&& ~~~(1#64<<<(BitVec.ofInt 64 i).toNat)else s
def s7(s:BitVec 64)(j:Nat):List Int:=((List.range j).filter (s.getLsbD ·)).map fun(i:Nat)=>(i:Int)
def gK(s:BitVec 64):List Int:=s7 s 64
def eu(a b:BitVec 64):Bool:=decide (a&&& ~~~b=0#64)
theorem x8(s:BitVec 64)(i:Int)(k:Nat):(vB s i).getLsbD k=(s.getLsbD k||(decide (k<64)&&decide ((k:Int)=i))):=by grind[vB,zQ,m5,om]
theorem OY(s:BitVec 64)(i:Int)(k:Nat):(af6 s i).getLsbD k=(s.getLsbD k&& !decide ((k:Int)=i)):=by grind[af6,zQ,m5,om]
theorem eG{a b:BitVec 64}(h:∀i,i<64->a.getLsbD i=b.getLsbD i):a=b:=by grind
theorem acZ(l:List Int)(i:Int):vB (kT l) i=kT (l++[i]):=eG fun k hk=>by
 rw[x8,ic,ic]
 simp[hk,EU]
theorem R9:kT []=0#64:=eG fun k hk=>by rw[ic];simp
theorem ac0(s:BitVec 64)(j:Nat)(i:Int):i∈s7 s j↔0<=i/\i<j/\s.getLsbD i.toNat=true:=by grind[s7]
theorem fC(s:BitVec 64)(i:Int):i∈gK s↔hasB s i=true:=by grind[gK,ac0,hasB,zQ]
theorem alX(s:BitVec 64):kT (gK s)=s:=eG fun k hk=>by
 rw[ic]
 have:=fC s (k:Int)
 have hc:(gK s).contains (k:Int)=hasB s k:=by
  rw[gV,<-this];simp
 rw[hc,hasB,zQ];simp[hk];omega
theorem LX(s:BitVec 64)(j:Nat):s7 s (j+1)=s7 s j++(if s.getLsbD j then[(j:Int)]else[]):=by grind[s7,List.range_succ]
theorem Ic(s:BitVec 64)(j:Nat):(s7 s j).length<=j:=by grind[s7]
theorem Gd(s:BitVec 64):(gK s).length<=64:=Ic s 64
theorem Ge(a b:BitVec 64):eu a b=true↔∀i,i<64->a.getLsbD i=true->b.getLsbD i=true:=by
 unfold eu
 rw[eE]
 constructor
 .intro h i hi ha
  have:=aK (fun z=>BitVec.getLsbD z i) h
  simp[hi,ha]at this
  exact this
 intro h
 refine eG fun i hi=> ?_
 have:=h i hi
 simp only[sx,Rg,hi,decide_true,mG,XI]
 cases ha:a.getLsbD i
 .rfl
 rw[this ha];rfl
theorem alY(s:BitVec 64){i:Int}(h:zQ i=true):decide (s>>>(BitVec.ofInt 64 i).toNat&&&1#64=1#64)=hasB s i:=by
 have h':0<=i/\i<64:=by simpa[zQ]using h
 rw[hasB,h,mG,om J]
 have key:s>>>i.toNat&&&1#64=if s.getLsbD i.toNat then 1#64 else 0#64:=by
  refine eG fun k hk=> ?_
  by_cases hb:s.getLsbD i.toNat=true
  .rw[aX hb]
   simp only[sx,afm]
   by_cases h0:k=0
   .subst h0;simp[hb]
   simp[BitVec.getLsbD_one,h0]
  rw[aT hb]
  simp only[sx,afm]
  by_cases h0:k=0
  .subst h0;simpa using hb
  simp[BitVec.getLsbD_one,h0]
 rw[key]
 by_cases hb:s.getLsbD i.toNat=true
 .rw[aX hb,hb];rfl
 rw[aT hb];simp at hb;rw[hb];rfl
theorem YB(s:BitVec 64){i:Int}(h:zQ i=false):hasB s i=false:=by rw[hasB,h];rfl
theorem Kt(s:BitVec 64)(k:Nat):(s>>>k)%2#64=1#64↔s.getLsbD k=true:=by
 have:(s>>>k)%2#64=1#64↔(s>>>k).toNat%2=1:=by
  rw[<-XX];simp
 rw[this]
 have h2:(s>>>k).getLsbD 0=s.getLsbD k:=aJ
 rw[<-h2,BitVec.getLsbD,Nat.testBit_zero,eE]
theorem half(s:BitVec 64)(k:Nat):(s>>>k)/2#64=s>>>(k+1):=by
 apply HA
 simp only[BitVec.toNat_udiv,Xy,Nat.shiftRight_add]
 rfl
def A4(l:List Int)(j:Nat):BitVec 64:=oo (fun i=>l.contains (i:Int)) j
theorem alZ{p:Nat->Bool}{j:Nat}(hj:j<64):oo p j+(1#64<<<j)=oo p j|||(1#64<<<j):=by
 refine BitVec.add_eq_or_of_and_eq_zero _ _ (eG fun k hk=> ?_)
 rw[sx,ku,m5]
 by_cases h:k=j
 .subst h;simp
 simp[h]
theorem ac1{l:List Int}{j:Nat}(hj:j<64)(h:(j:Int)∈l):A4 l j+(1#64<<<j)=A4 l (j+1):=by grind[A4,alZ,oo]
theorem YC{l:List Int}{i k:Int}(h0:0<=i)(hi:i<64)(hk:0<=k)(hkl:k<l.length)(h:l.getD k.toNat 0=i):A4 l i.toNat+(1#64<<<i.toNat)=A4 l (i+1).toNat:=by grind[ac1]
theorem af7{l:List Int}{j:Nat}(h:¬(j:Int)∈l):A4 l j=A4 l (j+1):=by grind[A4,oo]
theorem ac2{l:List Int}{i:Int}(h0:0<=i)(hf:∀j:Int,0<=j->j<l.length->l.getD j.toNat 0≠i):A4 l i.toNat=A4 l (i+1).toNat:=by
 rw[show(i+1).toNat=i.toNat+1 by omega]
 refine af7 fun hm=> ?_
 rw[show((i.toNat:Nat):Int)=i by omega]at hm
 obtain⟨j,hj,he⟩:=vc.1 hm
 refine hf j J J ?_
 rw[eA,eT,eD hj];exact he
theorem alS(j:Nat):(1#64<<<j)*2#64=1#64<<<(j+1):=by
 apply HA
 have h1:(1#64).toNat=1:=rfl
 have h2:(2#64).toNat=2:=rfl
 rw[BitVec.toNat_mul,Ra,Ra,Ro,Ro,h1,h2,RB,RB,Nat.mod_mul_mod]
 rfl
theorem Px{l:List Int}{k:Int}(h0:0<=k)(h:k<l.length):l.take (k+1).toNat=l.take k.toNat++[l.getD k.toNat 0]:=by
 rw[show(k+1).toNat=k.toNat+1 by omega,ER J,eT,eD J];rfl
theorem LY{l:List Int}{k:Int}(h:¬k<l.length):l.take k.toNat=l:=ji J
theorem Gf{l:List Int}{n:Int}(h:∀i:Int,0<=i->i<64->(i∈l↔i<n)):kT l=below n:=eG fun k hk=>by
 rw[ic,fG]
 have:=h k J J
 rw[gV];simp[hk,this]
def upto(j:Int):List Int:=(List.range j.toNat).map fun(i:Nat)=>(i:Int)
theorem iY{j:Int}(h:0<=j):upto j++[j]=upto (j+1):=by
 unfold upto
 rw[show(j+1).toNat=j.toNat+1 by omega,xO,gU,Lg,show((j.toNat:Nat):Int)=j by omega]
theorem m6{j:Int}:(upto j).length=j.toNat:=by simp[upto]
theorem cK{j i:Int}:i∈upto j↔0<=i/\i<j:=by
 simp only[upto,fZ,qq]
 constructor
 .rintro⟨a,h1,rfl⟩;omega
 rintro⟨h1,h2⟩;exact⟨i.toNat,J,J⟩
theorem ac3{s:BitVec 64}{j:Int}(h0:0<=j)(h:(s>>>j.toNat)%2#64=1#64):s7 s j.toNat++[j]=s7 s (j+1).toNat:=by
 rw[show(j+1).toNat=j.toNat+1 by omega,LX,aX ((Kt s _).1 h),show((j.toNat:Nat):Int)=j by omega]
theorem af8{s:BitVec 64}{j:Int}(h0:0<=j)(h:¬(s>>>j.toNat)%2#64=1#64):s7 s j.toNat=s7 s (j+1).toNat:=by
 rw[show(j+1).toNat=j.toNat+1 by omega,LX,aT (fun e=>h ((Kt s _).2 e)),mY]
theorem Py{s:BitVec 64}{j:Int}(h:¬j<64)(h':j<=64):s7 s j.toNat=gK s:=by grind[s7,gK]
theorem dw{l:List Int}{k:Int}(h0:0<=k)(h:k<l.length):l.getD k.toNat 0∈l:=by grind
theorem Ui(a b:BitVec 64):eu a b=(gK a).all (hasB b ·):=by
 rw[gV,Ge,iS]
 constructor
 .intro h i hi
  have:=(fC a i).1 hi
  simp only[hasB,zQ,cL,eE]at this⊢
  exact⟨this.1,h _ J this.2⟩
 intro h i hi ha
 have:=h i ((fC a i).2 (by simp[hasB,zQ,ha];omega))
 simp only[hasB,zQ,cL,eE]at this
 simpa using this.2
def awc(n:Int):BitVec 64:=if 1<=n/\n<=64 then below (n-1)else 0#64
theorem Uj{n k:Int}(h:(vA n k).2=true):1<=n/\n<=64/\0<=k/\k<n:=by grind[Cv]
theorem YD{n k:Int}(h:(vA n k).2=false):¬(1<=n/\n<=64/\0<=k/\k<n):=by grind[u3]
theorem Uk{n k:Int}{s:BitVec 64}(h0:0<=k)(hi:(vA n k).2=true)(hne:¬(vA n k).1=s)(hf:n<=64->∀j:Int,0<=j->j<k->s≠below j):n<=64->∀j:Int,0<=j->j<k+1->s≠below j:=by grind[u3,Uj]
theorem Ul{n k:Int}{s:BitVec 64}(h0:0<=k)(hk:k<n)(hf:n<=64->∀j:Int,0<=j->j<k->s≠below j)(hi:(vA n k).2=false):n<=64->∀j:Int,0<=j->j<k+1->s≠below j:=by
 intro hn
 have:=YD hi
 omega
theorem ac4{n k:Int}{s:BitVec 64}(h0:0<=k)(hi:(vA n k).2=true)(hf:n<=64->∀j:Int,0<=j->j<k->s≠below j)(he:(vA n k).1=s):level n s=(k,true):=by grind[Uj,u3,LW]
theorem Ei{n k:Int}{s:BitVec 64}(h0:0<=k)(hk:k<=n\/k=0)(h6:k<=64)(hf:n<=64->∀j:Int,0<=j->j<k->s≠below j)(he:¬(k<n/\k<64)):level n s=(0,false):=by grind[Fe,LV]
theorem ac5{j k:Int}(h0:0<=j)(hjk:j<k)(hk:k<=64):below k≠below j:=fun e=>by
 have:=aK (fun z=>BitVec.getLsbD z j.toNat) e
 simp only[fG]at this
 rw[gW J,gZ J]at this
 cases this
theorem YE{n k:Int}(h:1<=n/\n<=64/\0<=k/\k<n):level n (vA n k).1=(k,true):=by grind[u3,LW,ac5]
theorem af9(i j:Int):below i|||below j=below (max i j):=eG fun k hk=>by
 rw[XS,fG,fG,fG,gV];simp;omega
theorem ac6(i j:Int):below i&&&below j=below (min i j):=eG fun k hk=>by
 rw[sx,fG,fG,fG,gV];simp;omega
def pop(s:BitVec 64):Int:=
 let x:=(s>>>1&&&6148914691236517205#64)+(s&&&6148914691236517205#64)
 let x:=(x>>>2&&&3689348814741910323#64)+(x&&&3689348814741910323#64)
 let x:=(x>>>4+x)&&&1085102592571150095#64
 let x:=x+x>>>8
 let x:=x+x>>>16
 let x:=x+x>>>32
 (x&&&127#64).toInt
theorem zR:∀{l m:List Int},l.Pairwise (· <·)->m.Pairwise (· <·)->(∀x,x∈l↔x∈m)->l=m
 |[],[],_,_,_=>rfl
 |[],b::m,_,_,h=>by have:=(h b).2 aJ;simp at this
 |a::l,[],_,_,h=>by have:=(h a).1 aJ;simp at this
 |a::l,b::m,hl,hm,h=>by
  have hl':=lQ.1 hl
  have hm':=lQ.1 hm
  have hab:a=b:=by
   rcases c8.1 ((h a).1 aJ)with h1|h1
   .exact h1
   rcases c8.1 ((h b).2 aJ)with h2|h2
   .exact h2.symm
   have:=hm'.1 a h1;have:=hl'.1 b h2;omega
  subst hab
  congr 1
  refine zR hl'.2 hm'.2 fun x=> ?_
  constructor
  .intro hx
   rcases c8.1 ((h x).1 (fX _ hx))with h1|h1
   .have:=hl'.1 x hx;omega
   exact h1
  intro hx
  rcases c8.1 ((h x).2 (fX _ hx))with h1|h1
  .have:=hm'.1 x hx;omega
  exact h1
theorem qc(s:BitVec 64):(gK s).Pairwise (· <·):=by grind[gK,s7,List.pairwise_lt_range]
theorem zS{s:BitVec 64}:gK s=[]↔s=0#64:=by
 constructor
 .intro h;rw[<-alX s,h,R9]
 rintro rfl;simp[gK,s7]
def Low(s:BitVec 64)(j:Nat):Prop:=j<64/\s.getLsbD j=true/\∀i,i<j->s.getLsbD i=false
theorem YF{s:BitVec 64}(h:s≠0#64):∃j,Low s j:=by
 have hne:gK s≠[]:=fun e=>h (zS.1 e)
 obtain⟨a,l,e⟩:=List.exists_cons_of_ne_nil hne
 have ha:=(fC s a).1 (by rw[e];simp)
 simp only[hasB,zQ,cL,eE]at ha
 refine⟨a.toNat,J,ha.2,fun i hi=> ?_⟩
 cases hb:s.getLsbD i with
 |false=>rfl
 |true=>
  have hm:=(fC s (i:Int)).2 (by simp[hasB,zQ,hb];omega)
  rw[e]at hm
  have hs:=qc s
  rw[e]at hs
  rcases c8.1 hm with h1|h1
  .omega
  have:=(lQ.1 hs).1 _ h1;omega
theorem aga{s:BitVec 64}{j:Nat}(h:Low s j):∃m,s.toNat=2^j*(2*m+1):=by
 obtain⟨hj,hb,hz⟩:=h
 have h1:s.toNat%2^j=0:=by
  apply Nat.eq_of_testBit_eq
  intro i
  rw[Nat.testBit_mod_two_pow,Nat.zero_testBit]
  by_cases hi:i<j
  .have:=hz i hi;rw[BitVec.getLsbD]at this;simp[this]
  simp[hi]
 have h2:s.toNat/2^j%2=1:=by
  rw[BitVec.getLsbD,Nat.testBit_eq_decide_div_mod_eq]at hb
  simpa using hb
 refine⟨s.toNat/2^j/2,?_⟩
 have h3:=X3 s.toNat (2^j)
 have h4:=X3 (s.toNat/2^j) 2
 rw[h2]at h4
 rw[h4];omega
theorem Jw{s:BitVec 64}{j:Nat}(h:Low s j){i:Nat}(hi:i<64):(s-1#64).getLsbD i=if i<j then true else if i=j then false else s.getLsbD i:=by
 obtain⟨m,hm⟩:=aga h
 have hp:0<2^j:=Nat.two_pow_pos j
 have hlt:=s.isLt
 have h1:(s-1#64).toNat=2^j*(2*m)+(2^j-1):=by
  rw[Rm]
  have e:(1#64).toNat=1:=rfl
  have e2:2^j*(2*m+1)=2^j*(2*m)+2^j:=by rw[Nat.mul_add,lU]
  rw[e];omega
 rw[BitVec.getLsbD,h1,afk _ J]
 by_cases h2:i<j
 .rw[aX h2,aX h2,afj];simp[h2]
 rw[aT h2,aT h2]
 by_cases h3:i=j
 .subst h3;rw[aX O,Rx];simp
 rw[aT h3,BitVec.getLsbD,hm]
 have e2:2^j*(2*m+1)=2^j*(2*m+1)+0:=J
 rw[e2,afk _ hp,aT h2]
 obtain⟨k,hk⟩:∃k,i-j=k+1:=⟨i-j-1,J⟩
 rw[hk,Nat.testBit_succ,Nat.testBit_succ]
 congr 1;omega
theorem Ie{s:BitVec 64}{j:Nat}(h:Low s j){i:Nat}(hi:i<64):(s&&&(s-1#64)).getLsbD i=(s.getLsbD i&& !decide (i=j)):=by grind[Low,Jw]
theorem al0{s:BitVec 64}{j:Nat}(h:Low s j):gK s=(j:Int)::gK (s&&&(s-1#64)):=by
 refine zR (qc s) (lQ.2 ⟨fun x hx=> ?_,qc _⟩) fun x=> ?_
 .have:=(fC _ x).1 hx
  simp only[hasB,zQ,cL,eE]at this
  obtain⟨⟨h0,h1⟩,h2⟩:=this
  rw[Ie h J]at h2
  simp only[cL,B4,wW]at h2
  rcases Nat.lt_or_ge x.toNat j with hlt|hge
  .rw[h.2.2 _ hlt]at h2;cases h2.1
  omega
 rw[fC,c8,fC]
 simp only[hasB,zQ,cL,eE]
 constructor
 .rintro⟨h1,h2⟩
  by_cases hx:x=j
  .exact .inl hx
  refine .inr ⟨h1,?_⟩
  rw[Ie h J,h2];simp;omega
 rintro(rfl|⟨h1,h2⟩)
 .have:=h.1;exact⟨J,by simpa using h.2.1⟩
 rw[Ie h J]at h2
 simp only[cL]at h2
 exact⟨h1,h2.1⟩
theorem al1{s:BitVec 64}{j:Nat}(h:Low s j):s&&& -s=1#64<<<j:=by
 have hn: -s= ~~~(s-1#64):=by
  apply HA
  rw[BitVec.toNat_neg,BitVec.toNat_not,Rm]
  have e:(1#64).toNat=1:=rfl
  have:=s.isLt
  rw[e];omega
 refine eG fun i hi=> ?_
 rw[hn,sx,Rg,Jw h hi,m5]
 by_cases h1:i<j
 .rw[aX h1,h.2.2 i h1];simp;omega
 rw[aT h1]
 by_cases h2:i=j
 .rw[aX h2,h2,h.2.1];simp
 rw[aT h2];cases s.getLsbD i<;>simp[h2]
def A5:List Int:=[0,1,56,2,57,49,28,3,61,58,42,50,38,29,17,4,62,47,59,36,45,43,51,22,53,39,33,30,24,18,12,5,63,55,48,27,60,41,37,16,46,35,44,21,52,32,23,11,54,26,40,15,34,20,31,10,25,14,19,9,13,8,7,6]
def tz(s:BitVec 64):Int:=if s=0#64 then 64 else A5.getD (((s&&& -s)*285870213051353865#64)>>>58).toNat 0
theorem agb(x:BitVec 64):0<=((x>>>58).toNat:Int)/\((x>>>58).toNat:Int)<(64:Nat):=by
 have:(x>>>58).toNat<64:=by
  rw[Xy,afn]
  have:=x.isLt
  omega
 omega
theorem arj{s:BitVec 64}{j:Nat}(h:Low s j):tz s=j:=by
 have hne:s≠0#64:=fun e=>by have:=h.2.1;rw[e]at this;simp at this
 rw[tz,aT hne,al1 h]
 have key:∀k:Fin 64,A5.getD (((1#64<<<k.val)*285870213051353865#64)>>>58).toNat 0=(k.val:Int):=by decide+kernel
 exact key ⟨j,h.1⟩
theorem LZ{s:BitVec 64}(h:s≠0#64):gK s=tz s::gK (s&&&(s-1#64)):=by
 obtain⟨j,hj⟩:=YF h
 rw[arj hj];exact al0 hj
theorem Sa{s:BitVec 64}(h:s≠0#64):(gK (s&&&(s-1#64))).length<(gK s).length:=by
 rw[LZ h];simp
def awd:List Nat->Nat
 |[]=>0
 |d::r=>2^8*awd r+d
def aMa(x:Nat):List Nat:=[x%256,x/256%256,x/65536%256,x/16777216%256,x/4294967296%256,x/1099511627776%256,x/281474976710656%256,x/72057594037927936%256]
def g1(d:Nat):Nat:=((d>>>1)&&&85)+(d&&&85)
def g2(d:Nat):Nat:=((d>>>2)&&&51)+(d&&&51)
def pc8(d:Nat):Nat:=(List.range 8).countP d.testBit
def aMb(s:BitVec 64)(k:Int):Int×Bool:=if 0<=k/\k<(gK s).length then((gK s).getD k.toNat 0,true)else(0,false)
def kAt(k:Int)(n:Nat):Int:=if k-n< -9223372036854775808 then k-n+18446744073709551616 else k-n
theorem awe{s:BitVec 64}(h:s≠0#64):A5.getD (((s&&& -s)*285870213051353865#64)>>>58).toNat 0=tz s:=by rw[tz,aT h]
theorem al2{a b:BitVec 64}{k:Int}(h0:0<=k)(hk:k<(gK a).length)(h:(!hasB b ((gK a).getD k.toNat 0))=true):eu a b=false:=by grind[Ui,gK]
theorem agc{a b:BitVec 64}(hf:∀j:Int,0<=j->j<(gK a).length->hasB b ((gK a).getD j.toNat 0)=true):eu a b=true:=by
 rw[Ui,iS]
 intro x hx
 obtain⟨i,hi,rfl⟩:=ud hx
 have:=hf i J J
 simpa[eT,hi]using this
def YG(s:BitVec 64):Int×Bool:=if s=0#64 then(0,false)else(tz s,true)
theorem Ig(a b:BitVec 64):eu a (a|||b)=true:=by grind[Ge]
theorem Gg(a b:BitVec 64):eu (a&&&b) a=true:=by grind[Ge]
end Go.Proofs.YtlhjdflgjbkpmaaGreatDoor.M
namespace Go.Proofs.YtlhjdflgjbkpmaaGreatDoor.E
section
open Go Go.RowKit Go.Proofs.YtlhjdflgjbkpmaaGreatDoor.M
def o3(w:World):Prop:=∀j,j<64->w.cell? ⟨0,j,none⟩=some (.int .u8 (A5.getD j 0))
theorem o3.below{w w':World}(h:o3 w)(hb:Below w.heap.size w w'):o3 w':=fun j hj=>by
 have h1:=h j hj
 rw[hb.cell (World.block_lt_of_cell? w _ h1)];exact h1
theorem o3.hp{w0 w:World}{L:List bu}(h:o3 w0)(hH:Hp w0 w L):o3 w:=h.below hH.below
theorem o3.at{w:World}(h:o3 w)(x:BitVec 64):w.cell? ⟨0,0+(((x>>>58).toNat:Int)).toNat*1,none⟩=some (.int .u8 (A5.getD (x>>>58).toNat 0)):=by
 have h2:=h (x>>>58).toNat (by have:=agb x;omega)
 generalize(x>>>58).toNat=j at*
 simpa using h2
theorem agd(j:Nat):0<=A5.getD j 0/\A5.getD j 0<=63:=by
 by_cases h:j<64
 .have key:∀k:Fin 64,0<=A5.getD k.val 0/\A5.getD k.val 0<=63:=by decide+kernel
  exact key ⟨j,h⟩
 have:A5.getD j 0=0:=by
  rw[eT,oc (by simp[A5];omega)];rfl
 omega
theorem al3{x:Int}(h:0<=x/\x<=63): -9223372036854775808<=x/\x<=9223372036854775807:=J
theorem Hp.sE{w0 w:World}{L:List bu}{b:Nat}{c:List Value}{e:TypeId}(h:Hp w0 w (.blk b (.cells c.toArray e (0,0))::L))(n sz:Nat)(hc:c.length=n*sz)(hn:n<=maxLen):
  Hp w0 w (.row (.slice (some ⟨b,0,none⟩) n n) e sz n c::L):=by
 refine⟨h.below,fun x hx=> ?_,?_⟩
 .rcases c8.1 hx with rfl|hx
  .have h1:=h.ok _ (qT ..)
   exact⟨hc,.inr ⟨b,n,c.toArray,rfl,h1.1,h1.2,eU _,hn,by simpa using hc,by simp[<-hc]⟩⟩
  exact h.ok x (fX _ hx)
 exact List.Pairwise.cons (fun y hy=>(lQ.1 h.LP).1 y hy) (lQ.1 h.LP).2
section drawn
variable{P:Program}{n:Nat}{l:List Oper}{S:World->Prop}{k:K}{xs:List (Nat×K)}{r:K}{σ:Env}{w w0:World}{L L' Xh:List bu}{fuel i d:Nat}{listed:Array Bool}{op:Op}{ty:TypeId}{pos:String}{bO:Array Edge}{g:Option (Nat×Bool)}{v:Value}{dst:Option Tmp}
theorem gD{id:Nat}(hm:P.follows .mixedOrders=true)(hH:Hp w0 w L)(hs:L'.Sublist L)
  (h:∀w',Hp w0 w' L->AN P n l (fun w=>Hp w0 w L') k l.length (Array.replicate l.length false) σ w'):CW P n (.region id l.toArray true) k xs r σ w:=by
 intro a ha
 refine zD (fun e a' w' hq=> ?_) (X9 (id:=id) (Q:=r9 n k) hm (Ya (S:=fun w=>Hp w0 w L') _ _ _ _ ?_))
 .cases e with
  |normal=>exact hq
  |exit id=>exact hq.elim
  |ret=>exact hq.elim
  |goto l=>exact hq.elim
  |panic c=>exact hq.elim
  |outgrown=>exact hq.elim
 have:=h _ hH.drew a ha
 simpa using this
theorem gp(i j:Nat)(hr:Region.ready .any l.toArray listed=[i,j])(h1:AO P n l S k fuel listed σ w i)(h2:AO P n l S k fuel listed σ w j):AN P n l S k (fuel+1) listed σ w:=by simp_all[aaX]
theorem cf(hi:l[i]?=some ⟨some d,op,ty,pos,bO,g⟩)(hg:∀a,Is n σ a->Region.wanted ⟨some d,op,ty,pos,bO,g⟩ (yielded l.toArray a.tmps)=true)(hd:Nat.blt d n=true)
  (hH:Hp w0 w Xh) (hs:L'.Sublist Xh) (hr:(execOp (ev σ) ⟨some d,op,ty,pos,bO,g⟩).run P w= .ok (.value v) w)
  (h:AN P n l (fun w=>Hp w0 w L') k fuel (listed.setIfInBounds i true) (lX σ d v) w):AO P n l (fun w=>Hp w0 w L') k fuel listed σ w i:=
 Cr hi hg hd hr (hH.sub hs) h
theorem ed{j b:Nat}{c c':Array Value}{e:TypeId}(hi:l[i]?=some ⟨none,op,ty,pos,bO,g⟩)(hg:∀a,Is n σ a->Region.wanted ⟨none,op,ty,pos,bO,g⟩ (yielded l.toArray a.tmps)=true)
  (hH:Hp w0 w Xh) (hj:Xh[j]?=some (.blk b (.cells c e (0,0)))) (hs:L'.Sublist (Xh.set j (.blk b (.cells c' e (0,0)))))
  (hr:(execOp (ev σ) ⟨none,op,ty,pos,bO,g⟩).run P w= .ok .skip (w.setRow b c'))
  (h:∀w',Hp w0 w' (Xh.set j (.blk b (.cells c' e (0,0))))->AN P n l (fun w=>Hp w0 w L') k fuel (listed.setIfInBounds i true) σ w'):AO P n l (fun w=>Hp w0 w L') k fuel listed σ w i:=
 Ia hi hg hr ((hH.set hj).sub hs) (h _ (hH.set hj))
end drawn
theorem aZ{w:World}{base:Nat}{e:TypeId}{sz n:Nat}{v:Value}{xs:List Value}(h:w.ownsRow base e sz v n xs):v.cells=#[v]/\v.oneCell'=true:=by
 rcases h.2 with⟨rfl,_⟩|⟨g,cap,cur,rfl,_⟩<;>exact⟨rfl,rfl⟩
theorem Sl.conv{w:World}{v:Value}{sz n n':Nat}{c c':List Value}(h:Sl w v sz n c)(hn:n=n')(hc:c=c'):Sl w v sz n' c':=by subst hn hc;exact h
def zT(v:Value)(k:Nat):Value:=
 match v with
 | .slice a _ c=> .slice a k c
 |v=>v
theorem Sl.cut{w:World}{v:Value}{sz n:Nat}{cells:List Value}(h:Sl w v sz n cells)(k:Nat)(hk:k<=n):Sl w (zT v k) sz k (cells.take (k*sz)):=by
 obtain⟨a,cap,hv,hnc,ha⟩:=h.shape
 subst hv
 have e1:sb (.slice a k cap)=sb (.slice a n cap):=by cases a<;>rfl
 have e2:so (.slice a k cap)=so (.slice a n cap):=by cases a<;>rfl
 refine⟨⟨a,cap,rfl,J,fun h0=> ?_⟩,?_,fun j c hc=> ?_,kX hk h.small⟩
 .show a=some ⟨sb (.slice a k cap),so (.slice a k cap),none⟩
  rw[e1,e2];exact ha J
 .rw[er,h.len];exact r7 (s4 _ hk)
 show w.cell? ⟨sb (.slice a k cap),so (.slice a k cap)+j,none⟩=some c
 rw[e1,e2]
 rw[qS]at hc
 split at hc
 .exact h.cell j c hc
 .cases hc
section awf
variable{P:Program}{σ:Env}{w:World}{dst:Option Tmp}{ty t:TypeId}{pos:String}{bO:Array Edge}{g:Option (Nat×Bool)}{x y:Operand}{v:Value}{sz n:Nat}{cells:List Value}{k:IntKind}{i:Int}
theorem rh{e:TypeId}(hS:Sl w v sz n cells)(hu:P.underlying t=some (.slice e))(hs:∀w,(sizeOf e).run P w= .ok sz w)(hx:ev σ x=v)(hy:ev σ y= .int k i)(hi:0<=i/\i<=n):
  (execOp (ev σ) ⟨dst,.slice t x none (some y) none,ty,pos,bO,g⟩).run P w= .ok (.value (zT v i.toNat)) w:=by
 obtain⟨a,cap,hv,hnc,ha⟩:=hS.shape
 subst hv
 have h1:0<=i/\i<=(cap:Int):=J
 have h2:(Instr.slice t (.slice a n cap) none (some (.int k i)) none).run P w= .ok (.slice a i.toNat cap) w:=by
  simp[Instr.slice,Instr.sliceBounds,Instr.sliceBound,kf hu,asIntOf,h1,hs]
  intro h;cases a<;>rfl
 have h3:(Instr.sliceAt t (.slice a n cap) none (some (.int k i)) none).run P w= .ok (.slice a i.toNat cap) w:=by
  simp[Instr.sliceAt,kf hu,h2]
 simp[execOp,hx,hy,h3,zT]
end awf
end
end Go.Proofs.YtlhjdflgjbkpmaaGreatDoor.E
namespace Go.Proofs.YtlhjdflgjbkpmaaGreatDoor.M
theorem nt{b:Bool}(h:(!b)=true):b=false:=by cases b;rfl;cases h
theorem nf{b:Bool}(h:(!b)=false):b=true:=by cases b;cases h;rfl
structure Rl where
 n:Int
 up:Nat->BitVec 64
def Rl.put(r:Rl)(i:Nat)(x:BitVec 64):Rl:=⟨r.n,fun j=>if j=i then x else r.up j⟩
def Rl.eq(a b:Rl):Prop:=a.n=b.n/\∀i,i<64->a.up i=b.up i
instance(a b:Rl):Decidable (a.eq b):=inferInstanceAs (Decidable (a.n=b.n/\∀i,i<64->a.up i=b.up i))
def Rl.none:Rl:=⟨0,fun _=>0#64⟩
def pts(r:Rl):Int:=max 0 (min r.n 64)
theorem dA(r:Rl):0<=pts r/\pts r<=64:=by unfold pts;omega
def Bv(r:Rl)(i:Int):Bool:=decide (0<=i/\i<pts r)
def bK(r:Rl)(i j:Int):Bool:=Bv r i&&Bv r j&&(r.up i.toNat).getLsbD j.toNat
theorem rj{r:Rl}{i:Int}:Bv r i=true↔0<=i/\i<pts r:=by simp[Bv]
theorem ark{r:Rl}{i:Int}(h:Bv r i=true):0<=i/\i<64:=by have:=dA r;have:=rj.1 h;omega
theorem age{r:Rl}{i:Int}(h:Bv r i=true):zQ i=true:=by grind[ark,zQ]
theorem al4{r:Rl}{i j:Int}(hi:Bv r i=true)(hj:Bv r j=true):hasB (r.up i.toNat) j=bK r i j:=by grind[bK,hasB,age]
theorem Ku{r:Rl}{i j:Int}(hi:Bv r i=false):bK r i j=false:=by rw[bK,hi];rfl
theorem Sb{r:Rl}{i j:Int}(hj:Bv r j=false):bK r i j=false:=by rw[bK,hj];simp
theorem al5{r:Rl}{i j:Int}(hi:0<=i)(hj:0<=j)(hi2:i<pts r)(hj2:j<pts r):decide ((r.up i.toNat>>>(BitVec.ofInt 64 j).toNat)%2#64=1#64)=bK r i j:=by grind[Rl,pts,bK,dA,al4,rj,hasB,age,om,Kt]
theorem Kx{r:Rl}{i j:Int}(h:¬(0<=i/\0<=j/\i<pts r/\j<pts r)):bK r i j=false:=by grind[bK,Bv,rj]
def vC(r:Rl)(i:Int):BitVec 64:=r.up i.toNat&&&below (pts r)
def zU(r:Rl)(i:Int):BitVec 64:=af6 (vC r i) i
def Ej(n:Int)(f:Nat->BitVec 64)(k:Int):Rl:=⟨n,fun i=>if(i:Int)<k then f i else 0#64⟩
theorem x9{n:Int}{f h:Nat->BitVec 64}(e:∀i,f i=h i):(⟨n,f⟩:Rl)=⟨n,h⟩:=by rw[show f=h from funext e]
theorem Ih(n:Int)(f:Nat->BitVec 64):(⟨n,fun _=>0#64⟩:Rl)=Ej n f 0:=by grind[Rl,Ej,x9]
theorem L3{n:Int}{f:Nat->BitVec 64}{k:Int}{x:BitVec 64}(h:0<=k)(hx:x=f k.toNat):(Ej n f k).put k.toNat x=Ej n f (k+1):=x9 fun i=>by
 show(if i=k.toNat then x else if(i:Int)<k then f i else 0#64)=if(i:Int)<k+1 then f i else 0#64
 by_cases h1:i=k.toNat
 .subst h1;rw[aX O,aX J,hx]
 rw[aT h1]
 by_cases h2:(i:Int)<k
 .rw[aX h2,aX J]
 rw[aT h2,aT J]
def eI(r:Rl):Rl:=Ej (pts r) (fun i=>vC r i) (pts r)
theorem aaY(r:Rl)(i:Int)(j:Nat):(vC r i).getLsbD j=((r.up i.toNat).getLsbD j&&decide (j<64/\(j:Int)<pts r)):=by grind[vC,fG]
theorem uO(r:Rl){i:Int}(hi:0<=i/\i<pts r)(j:Nat):(vC r i).getLsbD j=bK r i j:=by grind[dA,aaY,bK,rj,Bv,pts]
def rp(r:Rl)(i k:Int):List Int:=(upto k).filter (bK r i ·)
theorem ac7{r:Rl}{i k:Int}(h0:0<=k)(h:bK r i k=true):rp r i k++[k]=rp r i (k+1):=by grind[rp,iY]
theorem ac8{r:Rl}{i k:Int}(h0:0<=k)(h:bK r i k=false):rp r i k=rp r i (k+1):=by grind[rp,iY]
theorem Pz{r:Rl}{i k:Int}:(rp r i k).length<=k.toNat:=by grind[Rl,rp,bK,upto,m6]
theorem ac9{r:Rl}{i:Int}(hi:0<=i/\i<pts r):kT (rp r i (pts r))=vC r i:=eG fun j hj=>by
 rw[ic,uO r hi,gW hj,mG,gV]
 simp only[rp,EU,eE,xP,cK]
 refine⟨fun h=>h.2,fun h=>⟨?_,h⟩⟩
 have:Bv r j=true:=by
  simp only[bK,cL]at h;exact h.1.2
 exact rj.1 this
def wZ(f:Int->BitVec 64)(l:List Int):BitVec 64:=l.foldl (fun a i=>a|||f i) 0#64
theorem L4{f:Int->BitVec 64}{l:List Int}{k:Int}(h0:0<=k)(h:k<l.length):wZ f (l.take k.toNat)|||f (l.getD k.toNat 0)=wZ f (l.take (k+1).toNat):=by grind[Px,wZ]
theorem Um(f:Int->BitVec 64):∀(l:List Int) (a:BitVec 64) (j:Nat),(l.foldl (fun a i=>a|||f i) a).getLsbD j=(a.getLsbD j||l.any fun i=>(f i).getLsbD j)
 |[],a,j=>by simp
 |i::l,a,j=>by rw[o9,Um f l,XS,List.any_cons,Bool.or_assoc]
theorem Ii(f:Int->BitVec 64)(l:List Int)(j:Nat):(wZ f l).getLsbD j=l.any fun i=>(f i).getLsbD j:=by rw[wZ,Um];simp
theorem YH{s:BitVec 64}{k:Int}(h0:0<=k)(h:k<(gK s).length):hasB s ((gK s).getD k.toNat 0)=true:=by grind[fC,List.getElem?_eq_getElem,List.getElem_mem]
theorem uP{s:BitVec 64}{i:Int}(h:hasB s i=true):0<=i/\i<64:=by grind[hasB,zQ]
theorem PA{s:BitVec 64}{k:Int}(h0:0<=k)(h:k<(gK s).length):0<=(gK s).getD k.toNat 0/\(gK s).getD k.toNat 0<64:=uP (YH h0 h)
def upR(r:Rl)(s:BitVec 64):BitVec 64:=wZ (vC r) (gK (s&&&below (pts r)))
def ya(r:Rl)(s:BitVec 64)(k:Int):BitVec 64:=oo (fun i=>decide (vC r i&&&s≠0#64)) k.toNat
def Ek(r:Rl)(s:BitVec 64):BitVec 64:=ya r s (pts r)
theorem agh{p:Nat->Bool}{k:Int}(h0:0<=k)(hk:k<64)(h:p k.toNat=true):vB (oo p k.toNat) k=oo p (k+1).toNat:=eG fun j hj=>by
 rw[x8,ku,ku]
 by_cases h1:(j:Int)=k
 .have:j=k.toNat:=J
  subst this
  have h2:k.toNat<(k+1).toNat:=J
  rw[gW h2,gW hj,gW h1,h];simp
 have h3:(j<k.toNat)↔(j<(k+1).toNat):=J
 rw[gZ h1,show decide (j<k.toNat)=decide (j<(k+1).toNat)from Rp.2 h3];simp
theorem agi{p:Nat->Bool}{k:Int}(h0:0<=k)(h:p k.toNat=false):oo p k.toNat=oo p (k+1).toNat:=eG fun j hj=>by
 rw[ku,ku]
 by_cases h1:j=k.toNat
 .subst h1;rw[h];simp
 have h3:(j<k.toNat)↔(j<(k+1).toNat):=J
 rw[show decide (j<k.toNat)=decide (j<(k+1).toNat)from Rp.2 h3]
theorem agj{r:Rl}{s:BitVec 64}{k:Int}(h0:0<=k)(hk:k<64)(h:vC r k&&&s≠0#64):vB (ya r s k) k=ya r s (k+1):=by grind[Rl,vC,vB,ya,agh]
theorem agk{r:Rl}{s:BitVec 64}{k:Int}(h0:0<=k)(h:¬vC r k&&&s≠0#64):ya r s k=ya r s (k+1):=by grind[Rl,vC,ya,agi]
def qd(u:Nat->BitVec 64)(k:Int):Nat->BitVec 64:=fun i=>if(i:Int)<k then vB (u i) i else u i
theorem ada(n:Int)(u:Nat->BitVec 64):(⟨n,u⟩:Rl)=⟨n,qd u 0⟩:=by grind[Rl,qd,x9]
theorem agl{n k:Int}{u:Nat->BitVec 64}(h0:0<=k):Rl.put ⟨n,qd u k⟩ k.toNat (vB (qd u k k.toNat) k)=⟨n,qd u (k+1)⟩:=x9 fun i=>by
 show(if i=k.toNat then vB (qd u k k.toNat) k else qd u k i)=qd u (k+1) i
 unfold qd
 by_cases h1:i=k.toNat
 .subst h1
  rw[aX O,aT J,aX J,gk h0]
 rw[aT h1]
 by_cases h2:(i:Int)<k
 .rw[aX h2,aX J]
 rw[aT h2,aT J]
def jX(m:Nat)(k:Int)(u:Nat->BitVec 64):Nat->BitVec 64:=fun i=>if(i:Int)<k/\(u i).getLsbD m=true then u i|||u m else u i
theorem adb(m:Nat)(n:Int)(u:Nat->BitVec 64):(⟨n,u⟩:Rl)=⟨n,jX m 0 u⟩:=by grind[Rl,jX,x9]
theorem agm(m:Nat)(k:Int)(u:Nat->BitVec 64):jX m k u m=u m:=by grind[jX]
theorem Un{n m k:Int}{u:Nat->BitVec 64}(m0:0<=m)(h0:0<=k)(h:hasB (jX m.toNat k u k.toNat) m=true):
  Rl.put ⟨n,jX m.toNat k u⟩ k.toNat (jX m.toNat k u k.toNat|||jX m.toNat k u m.toNat)=⟨n,jX m.toNat (k+1) u⟩:=x9 fun i=>by
 rw[hasB,cL]at h
 have e:jX m.toNat k u k.toNat=u k.toNat:=aT J
 rw[e]at h⊢
 rw[agm]
 show(if i=k.toNat then u k.toNat|||u m.toNat else jX m.toNat k u i)=jX m.toNat (k+1) u i
 unfold jX
 by_cases h1:i=k.toNat
 .subst h1
  rw[aX O,aX ⟨J,h.2⟩]
 rw[aT h1]
 have:((i:Int)<k)↔((i:Int)<k+1):=J
 simp only[this]
theorem agn{n m k:Int}{u:Nat->BitVec 64}(m0:0<=m/\m<64)(h0:0<=k)(h:hasB (jX m.toNat k u k.toNat) m=false):(⟨n,jX m.toNat k u⟩:Rl)=⟨n,jX m.toNat (k+1) u⟩:=by grind[x9,jX,hasB,zQ]
def wall(n:Int)(u:Nat->BitVec 64):Nat->Nat->BitVec 64
 |0=>u
 |m+1=>jX m n (wall n u m)
theorem ade{n m:Int}{u:Nat->BitVec 64}(h:0<=m):(⟨n,jX m.toNat n (wall n u m.toNat)⟩:Rl)=⟨n,wall n u (m+1).toNat⟩:=by
 rw[show(m+1).toNat=m.toNat+1 by omega];rfl
def jq(r:Rl):Rl:=⟨pts r,wall (pts r) (qd (eI r).up (pts r)) (pts r).toNat⟩
theorem arl{l:List Int}{x k:Int}(h0:0<=k)(h:k<l.length)(e:l.getD k.toNat 0=x):l.contains x=true:=by grind
theorem awg{l:List Int}{x:Int}(hf:∀j:Int,0<=j->j<l.length->l.getD j.toNat 0≠x):l.contains x=false:=by
 rw[EU,wW]
 intro h
 obtain⟨i,hi,rfl⟩:=ud h
 refine hf i J J ?_
 simp[eT,hi]
end Go.Proofs.YtlhjdflgjbkpmaaGreatDoor.M
namespace Go.Proofs.YtlhjdflgjbkpmaaGreatDoor.E
section
open Go Go.RowKit Go.Proofs.YtlhjdflgjbkpmaaGreatDoor.M
def wH(r:Rl):List Value:=I r.n::(List.range 64).map fun i=>U (r.up i)
@[irreducible] def dS(r:Rl):Array Value:=(wH r).toArray
theorem jr(r:Rl):dS r=(wH r).toArray:=by unfold dS;rfl
theorem pG(r:Rl):(wH r).length=65:=by simp[wH]
theorem HW(r:Rl):(dS r).size=65:=by rw[jr];simp[wH]
theorem fw(r:Rl):(dS r)[0]?=some (I r.n):=by rw[jr];simp[wH]
theorem xa(r:Rl){i:Nat}(h:i<64):(dS r)[0+1+i*1]?=some (U (r.up i)):=by
 rw[jr,show 0+1+i*1=i+1 by omega];simp[wH,h]
theorem L5(r:Rl):∀u∈dS r,u.oneCell'=true:=by
 rw[jr];simp[wH]
 exact⟨rfl,fun _ _=>rfl⟩
theorem yE(r:Rl)(i:Nat)(x:BitVec 64):(dS r).setIfInBounds (0+1+i*1) (U x)=dS (r.put i x):=by
 rw[jr,jr]
 apply XN
 intro j
 rw[Eg]
 simp only[HB,vb,pG]
 cases j with
 |zero=>
  rw[aT J]
  simp[wH,Rl.put]
 |succ j=>
  simp only[wH,List.getElem?_cons_succ,qp]
  by_cases h:i=j
  .subst h
   rw[aX J]
   by_cases h2:i<64
   .rw[aX J];simp[h2,Rl.put]
   rw[aT J];simp[h2]
  rw[aT J]
  by_cases h2:j<64
  .have h3:¬j=i:=fun e=>h e.symm
   simp[h2,Rl.put,h3]
  simp[h2]
section runs
variable{P:Program}{σ:Env}{w:World}{dst:Option Tmp}{ty t u:TypeId}{pos:String}{bO:Array Edge}{g:Option (Nat×Bool)}{x y:Operand}{b:Nat}{e:TypeId}{r:Rl}{fr:Nat×Nat}
theorem dJ{ps:List (Nat×Operand)}{vs:List (Nat×Value)}{cells:Array Value}(h:ps.map (fun p=>(p.1,ev σ p.2))=vs)(hb:P.built t vs=some cells):
 (execOp (ev σ) ⟨dst,.build t ps.toArray,ty,pos,bO,g⟩).run P w= .ok (.value (.agg cells)) w:=Go.Proofs.YtlhjdflgjbkpmaaGreatDoor.E.run_build h hb
theorem bj{c:List Value}(hg:w.heap[b]?=some (.cells c.toArray e fr)):w.rangeAt b 0 c:=fun j v hj=>by
 unfold World.cell?
 simp only[hg]
 simpa using hj
theorem aR{d:TypeDesc}(hu:P.underlying t=some d)(hd:d.isRow=true)(hi:(P.info? t).map (·.size)=some 65)(hx:ev σ x= .pointer (some ⟨b,0,none⟩))
 (hg:w.heap[b]?=some (.cells (dS r) e fr)):(execOp (ev σ) ⟨dst,.load t x,ty,pos,bO,g⟩).run P w= .ok (.value (.agg (dS r))) w:=by grind[jr,cF,pG,bj]
theorem oM{r0:Rl}(hi:(P.info? t).map (·.size)=some 65)(hx:ev σ x= .pointer (some ⟨b,0,none⟩))(hy:ev σ y= .agg (dS r))(hg:w.heap[b]?=some (.cells (dS r0) e (0,0))):
 (execOp (ev σ) ⟨dst,.store t x y,ty,pos,bO,g⟩).run P w= .ok .skip (w.setRow b (dS r)):=by grind[dO,HW,L5]
theorem aCU(a b:BitVec 64):(((a.toNat:Nat):Int)==((b.toNat:Nat):Int))=decide (a=b):=by grind[BitVec.eq_of_toNat_eq]
theorem aoY(d:Nat){t e:TypeId}{len:Nat}(f h:Nat->BitVec 64)(hu:P.underlying t=some (.array len e))(he:P.underlying e=some (.int .u64))(hs:∀w,(sizeOf e).run P w= .ok 1 w)(ha:∀w,(isAgg e).run P w= .ok false w):
  (Op.equalIn (d+1+1) t (.agg ((List.range len).map fun i=>U (f i)).toArray) (.agg ((List.range len).map fun i=>U (h i)).toArray)).run P w= .ok (decide (∀i,i<len->f i=h i)) w:=by
 unfold Op.equalIn
 simp only[uh,kf hu,xL,hs]
 rw[Std.Legacy.Range.forIn_eq_forIn_range']
 have key:∀(n s:Nat),s+n<=len->(Sem.run P (forIn (List.range' s n 1) ((none:Option Bool),()) fun i __s=>do
      let __do_lift<-part e (List.map (fun i=>U (f i)) (List.range len)).toArray (i*1)
      let Uo<-part e (List.map (fun i=>U (h i)) (List.range len)).toArray (i*1)
      let __do_lift<-Op.equalIn (d+1) e __do_lift Uo
      if(!__do_lift)=true then pure (ForInStep.done (some false,()))else pure (ForInStep.yield (none,()))) w)
   = .ok (if∀i,i<n->f (s+i)=h (s+i)then(none,())else(some false,())) w:=by
  intro n
  induction n with
  |zero=>
   intro s hs2
   have:∀i,i<0->f (s+i)=h (s+i):=fun i b=>by omega
   rw[aX this];rfl
  |succ n ih=>
   intro s hs2
   have hp:∀g:Nat->BitVec 64,(part e (List.map (fun i=>U (g i)) (List.range len)).toArray (s*1)).run P w= .ok (U (g s)) w:=fun g=>by
    simp[part,ha,show s<len by omega]
   rw[List.range'_succ,List.forIn_cons]
   simp only[uh,hp,xL,Rr w d e .u64 .u64 _ _ he,aCU]
   by_cases h1:f s=h s
   .rw[gW h1]
    simp only[Bool.not_true,uE,xU,Sem.run_pure,xL]
    rw[ih (s+1) J]
    by_cases h2:∀i,i<n->f (s+1+i)=h (s+1+i)
    .have h3:∀i,i<n+1->f (s+i)=h (s+i):=fun i a=>by
      cases i with
      |zero=>exact h1
      |succ i=>have:=h2 i J;rwa[show s+1+i=s+(i+1)by omega]at this
     rw[aX h2,aX h3]
    have h3:¬∀i,i<n+1->f (s+i)=h (s+i):=fun h3=>h2 fun i a=>by
     have:=h3 (i+1) J;rwa[show s+(i+1)=s+1+i by omega]at this
    rw[aT h2,aT h3]
   rw[gZ h1]
   have h3:¬∀i,i<n+1->f (s+i)=h (s+i):=fun h3=>h1 (h3 0 J)
   rw[aT h3]
   simp only[Bool.not_false,uu,Sem.run_pure,xL]
 have k2:=key len 0 J
 have e0:(Std.Legacy.Range.mk 0 len 1 az).size=len:=by simp[Std.Legacy.Range.size]
 simp only[e0]
 rw[k2]
 by_cases h2:∀i,i<len->f i=h i
 .have h3:∀i,i<len->f (0+i)=h (0+i):=fun i b=>by rw[gN];exact h2 i b
  rw[aX h3,gW h2];rfl
 have h3:¬∀i,i<len->f (0+i)=h (0+i):=fun h3=>h2 fun i b=>by have:=h3 i b;rwa[gN]at this
 rw[aT h3,gZ h2];rfl
theorem adf(r:Rl):(dS r).extract 1 (1+64)=((List.range 64).map fun i=>U (r.up i)).toArray:=by grind[jr,wH]
structure al6(P:Program)(t:TypeId)(f0 f1:Field)(e:TypeId):Prop where
 u:P.underlying t=some (.struct (P.fieldsOf t))
 f:P.fieldsOf t=#[f0,f1]
 n0:f0.name≠ "_"
 n1:f1.name≠ "_"
 o0:f0.offset=0
 o1:f1.offset=1
 u0:P.underlying f0.type=some (.int .i64)
 a0:∀w,(isAgg f0.type).run P w= .ok false w
 u1:P.underlying f1.type=some (.array 64 e)
 a1:∀w,(isAgg f1.type).run P w= .ok true w
 s1:∀w,(sizeOf f1.type).run P w= .ok 64 w
 ue:P.underlying e=some (.int .u64)
 se:∀w,(sizeOf e).run P w= .ok 1 w
 ae:∀w,(isAgg e).run P w= .ok false w
 st:P.stoodInHeld t=false
 eg:P.eqGuardType P.depth t=false
theorem al6.eql{f0 f1:Field}(T:al6 P t f0 f1 e)(a b:Rl)(w:World):(Op.equalIn 10000 t (.agg (dS a)) (.agg (dS b))).run P w= .ok (decide (a.eq b)) w:=by
 rw[run_equalIn_struct w 9999 t _ _ T.u T.st,T.f]
 have p0:∀r:Rl,(part f0.type (dS r) f0.offset).run P w= .ok (I r.n) w:=fun r=>by
  rw[T.o0];have:=fw r;simp[part,T.a0,this]
 have p1:∀r:Rl,(part f1.type (dS r) f1.offset).run P w= .ok (.agg ((List.range 64).map fun i=>U (r.up i)).toArray) w:=fun r=>by
  rw[T.o1,<-adf];simp[part,T.a1,T.s1]
 have e0:(Op.equalIn 9999 f0.type (I a.n) (I b.n)).run P w= .ok (a.n==b.n) w:=Rr w 9998 _ .i64 .i64 _ _ T.u0
 have e1:(Op.equalIn 9999 f1.type (.agg ((List.range 64).map fun i=>U (a.up i)).toArray) (.agg ((List.range 64).map fun i=>U (b.up i)).toArray)).run P w= .ok (decide (∀i:Nat,i<64->a.up i=b.up i)) w:=
  aoY 9997 _ _ T.u1 T.ue T.se T.ae
 simp only[Op.eqFields,T.n0,T.n1,ne_eq,XT,uu,uh,p0,e0,xL]
 by_cases h0:a.n=b.n
 .by_cases h1:∀i,i<64->a.up i=b.up i
  .rw[gW h1]at e1
   rw[gW (show a.eq b from⟨h0,h1⟩)];simp[h0,p1,e1]
  rw[gZ h1]at e1
  rw[gZ (show¬a.eq b from fun h=>h1 h.2)];simp[h0,p1,e1]
 rw[gZ (show¬a.eq b from fun h=>h0 h.1)];simp[h0]
theorem Ff{f0 f1:Field}{a b:Rl}(T:al6 P t f0 f1 e)(hx:ev σ x= .agg (dS a))(hy:ev σ y= .agg (dS b)):
  (execOp (ev σ) ⟨dst,.binOp .eql t x y u,ty,pos,bO,g⟩).run P w= .ok (.value (.bool (decide (a.eq b)))) w:=by
 have h:=run_eql_struct (P:=P) w t (dS a) (dS b)
 rw[T.eql]at h
 simp only[execOp,hx,hy,uh,X4 w .eql t x y _ _ T.eg,xL]
 simp[h]
structure aoZ(P:Program)(t:TypeId)(f0 f1:Field):Prop where
 u:P.underlying t=some (.struct (P.fieldsOf t))
 f:P.fieldsOf t=#[f0,f1]
 n0:f0.name≠ "_"
 n1:f1.name≠ "_"
 o0:f0.offset=0
 o1:f1.offset=1
 u0:P.underlying f0.type=some (.int .i64)
 a0:∀w,(isAgg f0.type).run P w= .ok false w
 u1:P.underlying f1.type=some (.int .i64)
 a1:∀w,(isAgg f1.type).run P w= .ok false w
 st:P.stoodInHeld t=false
 eg:P.eqGuardType P.depth t=false
theorem aoZ.eql{f0 f1:Field}(T:aoZ P t f0 f1)(a b c d:Int)(w:World):(Op.equalIn 10000 t (.agg #[I a,I b]) (.agg #[I c,I d])).run P w= .ok (decide ((a,b)=(c,d))) w:=by
 rw[run_equalIn_struct w 9999 t _ _ T.u T.st,T.f]
 have p0:∀x y:Int,(part f0.type #[I x,I y] f0.offset).run P w= .ok (I x) w:=fun x y=>by
  rw[T.o0];simp[part,T.a0]
 have p1:∀x y:Int,(part f1.type #[I x,I y] f1.offset).run P w= .ok (I y) w:=fun x y=>by
  rw[T.o1];simp[part,T.a1]
 have e0:(Op.equalIn 9999 f0.type (I a) (I c)).run P w= .ok (a==c) w:=Rr w 9998 _ .i64 .i64 _ _ T.u0
 have e1:(Op.equalIn 9999 f1.type (I b) (I d)).run P w= .ok (b==d) w:=Rr w 9998 _ .i64 .i64 _ _ T.u1
 simp only[Op.eqFields,T.n0,T.n1,ne_eq,XT,uu,uh,p0,e0,xL]
 by_cases h0:a=c
 .subst h0
  by_cases h1:b=d
  .subst h1;simp[p1,e1]
  simp[p1,e1,h1]
 simp[h0]
theorem agp{w0 w:World}{fn:Func}{L:List bu}{i p:Nat}{q:Value->World->Prop}{d:TypeDesc}{ty:TypeId}(h:fn.results=#[.cell p ty])(hp:σ p= .pointer (some ⟨b,0,none⟩))(hH:Hp w0 w L)
  (hi:L[i]?=some (.blk b (.cells (dS r) e fr))) (hu:P.underlying ty=some d) (hd:d.isRow=true) (hz:(P.info? ty).map (·.size)=some 65) (hq:q (.agg (dS r)) w):Out P fn q σ w:=
 fun n a ha=>⟨_,results_cell_row h _ w b e (dS r) fr d (by rw[ha.get,hp]) (hH.blk hi) hu (by cases d<;>simp_all) (by rw[HW];exact hz),hq⟩
def prL(l:List (Int×Int)):List Value:=l.flatMap fun p=>[I p.1,I p.2]
@[simp] theorem awh(l:List (Int×Int))(a b:Int):prL (l++[(a,b)])=prL l++[I a,I b]:=by simp[prL]
end runs
end
end Go.Proofs.YtlhjdflgjbkpmaaGreatDoor.E
namespace Go.Proofs.YtlhjdflgjbkpmaaGreatDoor.M
theorem agq(m:Nat)(n:Int)(u:Nat->BitVec 64)(i j:Nat):(jX m n u i).getLsbD j=((u i).getLsbD j||(decide ((i:Int)<n)&&(u i).getLsbD m&&(u m).getLsbD j)):=by grind[jX]
structure Thr(n:Int)(u0 u:Nat->BitVec 64)(m:Nat):Prop where
 Fg:∀i j:Nat,(u i).getLsbD j=true->(i:Int)<n/\(j:Int)<n
 base:∀i j:Nat,(u0 i).getLsbD j=true->(u i).getLsbD j=true
 thr:∀k:Nat,k<m->∀i j:Nat,(u i).getLsbD k=true->(u k).getLsbD j=true->(u i).getLsbD j=true
 sound:∀S:Nat->Prop,(∀x y:Nat,S x->(u0 x).getLsbD y=true->S y)->∀x y:Nat,S x->(u x).getLsbD y=true->S y
theorem Thr.pass{n:Int}{u0 u:Nat->BitVec 64}{m:Nat}(h:Thr n u0 u m):Thr n u0 (jX m n u) (m+1):=by
 have bit:∀i j:Nat,(jX m n u i).getLsbD j=true↔((u i).getLsbD j=true\/((u i).getLsbD m=true/\(u m).getLsbD j=true)):=fun i j=>by
  rw[agq]
  simp only[p8,cL,eE]
  constructor
  .rintro(h1|⟨⟨h1,h2⟩,h3⟩)
   .exact .inl h1
   exact .inr ⟨h2,h3⟩
  rintro(h1|⟨h1,h2⟩)
  .exact .inl h1
  exact .inr ⟨⟨(h.Fg _ _ h1).1,h1⟩,h2⟩
 refine⟨fun i j hb=> ?_,fun i j hb=>(bit i j).2 (.inl (h.base i j hb)),fun k hk i j h1 h2=> ?_,fun S hS x y hx hb=> ?_⟩
 .rcases(bit i j).1 hb with h1|⟨h1,h2⟩
  .exact h.Fg i j h1
  exact⟨(h.Fg i m h1).1,(h.Fg m j h2).2⟩
 .rw[bit]at*
  by_cases e:k=m
  .subst e
   have a1:(u i).getLsbD k=true:=by rcases h1 with h1|h1;exact h1;exact h1.1
   have a2:(u k).getLsbD j=true:=by rcases h2 with h2|h2;exact h2;exact h2.2
   exact .inr ⟨a1,a2⟩
  have hk':k<m:=J
  rcases h1 with h1|⟨h1,h1'⟩<;>rcases h2 with h2|⟨h2,h2'⟩
  .exact .inl (h.thr k hk' i j h1 h2)
  .exact .inr ⟨h.thr k hk' i m h1 h2,h2'⟩
  .exact .inr ⟨h1,h.thr k hk' m j h1' h2⟩
  exact .inr ⟨h1,h2'⟩
 rcases(bit x y).1 hb with h1|⟨h1,h2⟩
 .exact h.sound S hS x y hx h1
 exact h.sound S hS m y (h.sound S hS x m hx h1) h2
theorem Thr.wall{n:Int}{u0:Nat->BitVec 64}(hi:∀i j:Nat,(u0 i).getLsbD j=true->(i:Int)<n/\(j:Int)<n):∀m,Thr n u0 (wall n u0 m) m
 |0=>⟨hi,fun _ _ h=>h,fun k hk=>J,fun S hS x y hx hb=>hS x y hx hb⟩
 |m+1=>(Thr.wall hi m).pass
theorem Gh(r:Rl)(i j:Nat):(qd (eI r).up (pts r) i).getLsbD j=true↔((i:Int)<pts r/\(j:Int)<pts r/\(bK r i j=true\/i=j)):=by grind[Rl,qd,eI,pts,bK,dA,Ej,vC,x8,uO,rj]
theorem DA(r:Rl):Thr (pts r) (qd (eI r).up (pts r)) (jq r).up (pts r).toNat:=Thr.wall (fun i j h=>by have:=(Gh r i j).1 h;exact⟨this.1,this.2.1⟩) _
theorem aaZ{r:Rl}{u:Nat->BitVec 64}:pts ⟨pts r,u⟩=pts r:=by unfold pts;simp;omega
theorem zL(r:Rl):pts (jq r)=pts r:=aaZ
theorem Ij(r:Rl):pts (eI r)=pts r:=aaZ
theorem jP{r:Rl}{i j:Int}(h:bK r i j=true):(0<=i/\i<pts r)/\(0<=j/\j<pts r)/\(r.up i.toNat).getLsbD j.toNat=true:=by grind[bK,rj]
theorem Ky{r:Rl}{i j:Int}(hi:0<=i/\i<pts r)(hj:0<=j/\j<pts r)(h:(r.up i.toNat).getLsbD j.toNat=true):bK r i j=true:=by grind[bK,rj]
theorem aa0{r:Rl}{i j:Nat}:((jq r).up i).getLsbD j=true↔bK (jq r) i j=true:=by
 constructor
 .intro h
  have:=(DA r).Fg i j h
  exact Ky HY HY xZ
 intro h
 have:=(jP h).2.2;simpa using this
theorem yF{r:Rl}{i:Int}(h:0<=i/\i<pts r):bK (jq r) i i=true:=
 Ky HY HY ((DA r).base _ _ ((Gh r _ _).2 ⟨J,J,.inr O⟩))
theorem Gi{r:Rl}{i j:Int}(h:bK r i j=true):bK (jq r) i j=true:=by
 obtain⟨h1,h2,-⟩:=jP h
 refine Ky HY HY ((DA r).base _ _ ((Gh r _ _).2 ⟨J,J,.inl ?_⟩))
 rw[gk h1.1,gk h2.1];exact h
theorem nn{r:Rl}{i j k:Int}(h1:bK (jq r) i j=true)(h2:bK (jq r) j k=true):bK (jq r) i k=true:=by
 obtain⟨a1,a2,a3⟩:=jP h1
 obtain⟨b1,b2,b3⟩:=jP h2
 exact Ky a1 b2 ((DA r).thr _ (by rw[zL]at a2;omega) _ _ a3 b3)
theorem DB{r:Rl}{i j:Int}(h:bK (jq r) i j=true)(S:Int->Prop)(hS:∀x y,S x->bK r x y=true->S y)(hi:S i):S j:=by
 obtain⟨a1,a2,a3⟩:=jP h
 have:=(DA r).sound (fun x=>S (x:Int)) (fun x y hx hb=>by
  obtain⟨-,-,h1|h1⟩:=(Gh r x y).1 hb
  .exact hS _ _ hx h1
  subst h1;exact hx) i.toNat j.toNat (by rw[gk a1.1];exact hi) a3
 rwa[gk a2.1]at this
def scan(r:Rl)(x:Int)(l:List Int):Nat->List Int
 |0=>l
 |b+1=>if(bK r x b&& !(scan r x l b).contains (b:Int))=true then scan r x l b++[(b:Int)]else scan r x l b
def Xi(r:Rl):Nat->Nat->List Int->List Int
 |0,_,l=>l
 |f+1,a,l=>if a<l.length then Xi r f (a+1) (scan r (l.getD a 0) l (pts r).toNat)else l
def yb(r:Rl)(i:Int):List Int:=if Bv r i then Xi r 65 0 [i]else[]
theorem Pu{r:Rl}{i:Int}(h:¬(0<=i/\i<pts r)):yb r i=[]:=aT fun h'=>h (rj.1 h')
def Up(r:Rl)(l:List Int):Prop:=l.Nodup/\∀x∈l,0<=x/\x<pts r
theorem DC:∀(n:Nat) (l:List Int),l.Nodup->(∀x∈l,0<=x/\x<(n:Int))->l.length<=n
 |0,l,_,h=>by
  cases l with
  |nil=>simp
  |cons x l=>have:=h x aJ;omega
 |n+1,l,hn,h=>by
  by_cases hm:(n:Int)∈l
  .have h1:=Xz hm
   have h2:=DC n (l.erase (n:Int)) (hn.erase _) fun x hx=>by
    have h3:=(hn.mem_erase_iff).1 hx
    have:=h x h3.2;omega
   have:0<l.length:=Rb hm
   omega
  have:=DC n l hn fun x hx=>by
   have:=h x hx
   have:x≠n:=fun e=>hm (e▸hx)
   omega
  omega
theorem Up.len{r:Rl}{l:List Int}(h:Up r l):l.length<=64:=by
 have hp:=dA r
 have:=DC (pts r).toNat l h.1 fun x hx=>by have:=h.2 x hx;omega
 omega
theorem Up.one{r:Rl}{i:Int}(h:0<=i/\i<pts r):Up r [i]:=by grind[Rl,pts,Up]
theorem Up.add{r:Rl}{l:List Int}{b:Int}(h:Up r l)(hb:0<=b/\b<pts r)(hc:l.contains b=false):Up r (l++[b]):=by grind[Rl,Up,pts]
theorem aa1{r:Rl}{x:Int}{l:List Int}(h:Up r l):∀k:Nat,(k:Int)<=pts r->Up r (scan r x l k)
 |0,_=>h
 |k+1,hk=>by
  have ih:=aa1 (x:=x) h k J
  unfold scan
  split
  .rename_i hc
   simp only[cL,B4]at hc
   exact ih.add ⟨J,J⟩ hc.2
  exact ih
theorem L6{r:Rl}{x:Int}{l:List Int}:∀k:Nat,∃t,scan r x l k=l++t/\∀y∈t,bK r x y=true
 |0=>⟨[],by simp[scan],aJ⟩
 |k+1=>by
  obtain⟨t,h1,h2⟩:=L6 (r:=r) (x:=x) (l:=l) k
  unfold scan
  split
  .rename_i hc
   simp only[cL]at hc
   refine⟨t++[(k:Int)],by rw[h1,dG],fun y hy=> ?_⟩
   rcases fg.1 hy with hy|hy
   .exact h2 y hy
   simp at hy;subst hy;exact hc.1
  exact⟨t,h1,h2⟩
theorem Uq{r:Rl}{x:Int}{l:List Int}:∀(k:Nat) (b:Nat),b<k->bK r x b=true->(b:Int)∈scan r x l k
 |0,b,hb,_=>by omega
 |k+1,b,hb,h=>by
  have ih:=Uq (r:=r) (x:=x) (l:=l) k b
  unfold scan
  split
  .rename_i hc
   by_cases e:b=k
   .subst e;simp
   exact dL _ (ih J h)
  rename_i hc
  by_cases e:b=k
  .subst e
   rw[h]at hc;simp at hc;exact hc
  exact ih J h
theorem aa2{r:Rl}(Q:Int->Prop)(hQ:∀x y,Q x->bK r x y=true->Q y):∀(f a:Nat) (l:List Int),(∀x∈l,Q x)->∀x∈Xi r f a l,Q x
 |0,a,l,h=>h
 |f+1,a,l,h=>by
  unfold Xi
  split
  .rename_i ha
   refine aa2 Q hQ f (a+1) _ ?_
   obtain⟨t,h1,h2⟩:=L6 (r:=r) (x:=l.getD a 0) (l:=l) (pts r).toNat
   rw[h1]
   intro y hy
   rcases fg.1 hy with hy|hy
   .exact h y hy
   refine hQ _ _ (h (l.getD a 0) ?_) (h2 y hy)
   rw[eT,eD ha];exact r8 _
  exact h
theorem L7{r:Rl}:∀(f a:Nat) (l:List Int),f+a=65->Up r l->a<=l.length->(∀k,k<a->∀b,bK r (l.getD k 0) b=true->b∈l)->
  Up r (Xi r f a l)/\(∀x∈l,x∈Xi r f a l)/\∀x∈Xi r f a l,∀b,bK r x b=true->b∈Xi r f a l
 |0,a,l,hf,hok,ha,h=>by have:=hok.len;omega
 |f+1,a,l,hf,hok,ha,h=>by
  have hp:=dA r
  unfold Xi
  split
  .rename_i hlt
   obtain⟨t,h1,h2⟩:=L6 (r:=r) (x:=l.getD a 0) (l:=l) (pts r).toNat
   have Ur:∀k,k<l.length->(l++t).getD k 0=l.getD k 0:=fun k hk=>by
    rw[eT,eT,zw hk]
   have ih:=L7 f (a+1) (scan r (l.getD a 0) l (pts r).toNat) J (aa1 hok _ J) (by rw[h1,dZ];omega) (fun k hk b hb=>by
    rw[h1,Ur k J]at hb
    by_cases e:k=a
    .subst e
     obtain⟨-,b2,-⟩:=jP hb
     have:=Uq (r:=r) (x:=l.getD k 0) (l:=l) (pts r).toNat b.toNat J (by rw[gk b2.1];exact hb)
     rwa[gk b2.1]at this
    rw[h1];exact dL _ (h k J b hb))
   refine⟨ih.1,fun x hx=>ih.2.1 x (by rw[h1];exact dL _ hx),ih.2.2⟩
  rename_i hge
  refine⟨hok,fun x hx=>hx,fun x hx b hb=> ?_⟩
  obtain⟨k,hk,rfl⟩:=ud hx
  refine h k J b ?_
  rw[eT,eD hk];exact hb
theorem adg(r:Rl)(i j:Int):j∈yb r i↔bK (jq r) i j=true:=by
 by_cases h:0<=i/\i<pts r
 .rw[yb,aX (rj.2 h)]
  have hc:=L7 65 0 [i] O (Up.one h) aJ (fun k hk=>J)
  constructor
  .intro hj
   exact aa2 (fun x=>bK (jq r) i x=true) (fun x y hx hy=>nn hx (Gi hy)) 65 0 [i] (fun x hx=>by simp at hx;subst hx;exact yF h) j hj
  intro hj
  exact DB hj (fun x=>x∈Xi r 65 0 [i]) (fun x y hx hy=>hc.2.2 x hx y hy) (hc.2.1 i aJ)
 rw[Pu h]
 constructor
 .intro hj;cases hj
 intro hj
 have:=(jP hj).1
 rw[zL]at this;exact absurd this h
theorem agr{r:Rl}{a:Int}{l:List Int}(h0:0<=a)(h:a<l.length)(hl:l.length<=64):Xi r (65-a.toNat) a.toNat l=Xi r (65-(a+1).toNat) (a+1).toNat (scan r (l.getD a.toNat 0) l (pts r).toNat):=by
 rw[show 65-a.toNat=(65-(a+1).toNat)+1 by omega,show(a+1).toNat=a.toNat+1 by omega]
 rw[Xi,aX J]
theorem aa3{r:Rl}{a:Int}{l:List Int}(h0:0<=a)(h:¬a<l.length):Xi r (65-a.toNat) a.toNat l=l:=by
 cases 65-a.toNat with
 |zero=>rfl
 |succ f=>rw[Xi,aT J]
theorem ags{r:Rl}{x b:Int}{l:List Int}(h0:0<=b)(h:bK r x b=true)(hc:(scan r x l b.toNat).contains b=false):scan r x l b.toNat++[b]=scan r x l (b+1).toNat:=by
 rw[show(b+1).toNat=b.toNat+1 by omega]
 rw[scan,gk h0,h,hc];rfl
theorem agt{r:Rl}{x b:Int}{l:List Int}(h0:0<=b)(h:bK r x b=false):scan r x l b.toNat=scan r x l (b+1).toNat:=by
 rw[show(b+1).toNat=b.toNat+1 by omega]
 rw[scan,gk h0,h];rfl
theorem agu{r:Rl}{x b:Int}{l:List Int}(h0:0<=b)(hc:(scan r x l b.toNat).contains b=true):scan r x l b.toNat=scan r x l (b+1).toNat:=by
 rw[show(b+1).toNat=b.toNat+1 by omega]
 rw[scan,gk h0,hc];simp
theorem adh(r:Rl){i:Nat}(h:(i:Int)<pts r):kT (yb r i)=(jq r).up i:=eG fun j hj=>by
 rw[ic,gW hj,mG,gV,aa0,<-adg]
 simp[EU]
theorem Us(r:Rl){i:Nat}(h:¬(i:Int)<pts r):(jq r).up i=0#64:=eG fun j hj=>by
 cases hc:((jq r).up i).getLsbD j with
 |false=>simp
 |true=>exact absurd ((DA r).Fg i j hc).1 h
theorem al7(r:Rl):Ej (pts r) (fun i=>kT (yb r i)) (pts r)=jq r:=by
 refine x9 fun i=> ?_
 by_cases h:(i:Int)<pts r
 .rw[aX h];exact adh r h
 rw[aT h];exact(Us r h).symm
theorem adi(r:Rl):eI (jq r)=jq r:=by
 have hp:=dA r
 unfold eI
 rw[zL]
 refine x9 fun i=> ?_
 show(if(i:Int)<pts r then vC (jq r) i else 0#64)=(jq r).up i
 by_cases h:(i:Int)<pts r
 .rw[aX h]
  refine eG fun j hj=> ?_
  rw[uO (jq r) ⟨J,by rw[zL];exact h⟩,gV,aa0]
 rw[aT h];exact(Us r h).symm
def agv(n:Int):Rl:=⟨pts ⟨n,fun _=>0#64⟩,fun _=>0#64⟩
def aCX(r:Rl)(p:Int×Int):Rl:=if Bv r p.1&&Bv r p.2 then r.put p.1.toNat (vB (r.up p.1.toNat) p.2)else r
def ofR(n:Int)(l:List (Int×Int)):Rl:=l.foldl aCX (agv n)
def aI7(r:Rl)(i j:Int):Rl:=if Bv r i&&Bv r j then(eI r).put i.toNat (vB ((eI r).up i.toNat) j)else eI r
def DD(r:Rl)(i:Int):BitVec 64:=upR r (kT [i])&&&Ek r (kT [i])
def gq(r:Rl):Bool:=decide ((eI r).eq (jq r))&&decide (∀i:Nat,i<(pts r).toNat->∀j:Nat,j<i->(bK r i j&&bK r j i)=false)
theorem adj(r:Rl)(i j:Int):bK (eI r) i j=bK r i j:=by
 have hp:=dA r
 by_cases hi:0<=i/\i<pts r
 .by_cases hj:0<=j/\j<pts r
  .rw[bK,Bv,Bv,Ij,gW hi,gW hj]
   have e:(eI r).up i.toNat=vC r i:=by
    show(if((i.toNat:Nat):Int)<pts r then vC r (i.toNat:Nat)else 0#64)=vC r i
    rw[gk hi.1,aX hi.2]
   rw[e,uO r hi,gk hj.1];rfl
  rw[Sb (by rw[Bv,Ij];exact gZ hj),Sb (by rw[Bv];exact gZ hj)]
 rw[Ku (by rw[Bv,Ij];exact gZ hi),Ku (by rw[Bv];exact gZ hi)]
theorem has_eq{a b:Rl}(h:a.eq b)(i j:Int):bK a i j=bK b i j:=by
 have hp:pts a=pts b:=by unfold pts;rw[h.1]
 have hb:=dA b
 by_cases hi:0<=i/\i<pts b
 .rw[bK,bK,Bv,Bv,Bv,Bv,hp,h.2 i.toNat J]
 rw[Ku (by rw[Bv,hp];exact gZ hi),Ku (by rw[Bv];exact gZ hi)]
theorem sF{r:Rl}(h:(eI r).eq (jq r))(i j:Int):bK r i j=bK (jq r) i j:=by rw[<-adj,has_eq h]
theorem agw(r:Rl)(s:BitVec 64)(j:Nat):(upR r s).getLsbD j=true↔∃i:Int,hasB s i=true/\bK r i j=true:=by
 rw[upR,Ii,EW]
 constructor
 .rintro⟨i,h1,h2⟩
  rw[fC,hasB,sx,fG,cL,cL,eE,zQ,eE]at h1
  have hi:0<=i/\i<pts r:=J
  refine⟨i,by rw[hasB,h1.2.1,zQ,gW J];rfl,?_⟩
  rwa[uO r hi]at h2
 rintro⟨i,h1,h2⟩
 have hi:=(jP h2).1
 have hb:=uP h1
 refine⟨i,?_,by rw[uO r hi];exact h2⟩
 rw[fC,hasB,sx,fG]
 rw[hasB,cL]at h1
 rw[h1.1,h1.2,gW J];rfl
theorem Ut{s:BitVec 64}:s≠0#64↔∃i:Nat,s.getLsbD i=true:=by
 constructor
 .intro h
  by_cases hc:∃i:Nat,s.getLsbD i=true
  .exact hc
  refine absurd (eG fun i _=> ?_) h
  cases hb:s.getLsbD i with
  |false=>simp
  |true=>exact absurd ⟨i,hb⟩ hc
 rintro⟨i,h⟩ e
 rw[e]at h;simp at h
theorem L8(r:Rl)(s:BitVec 64)(j:Nat):(Ek r s).getLsbD j=true↔∃i:Int,hasB s i=true/\bK r j i=true:=by
 have hp:=dA r
 rw[Ek,ya,ku,cL,cL,eE,eE,eE]
 rw[Ut]
 constructor
 .rintro⟨⟨h1,h2⟩,i,h3⟩
  rw[sx,cL,uO r ⟨J,J⟩]at h3
  have hi:=(jP h3.1).2.1
  exact⟨i,by rw[hasB,zQ,gW J];simpa using h3.2,h3.1⟩
 rintro⟨i,h1,h2⟩
 obtain⟨a1,a2,-⟩:=jP h2
 refine⟨⟨J,J⟩,i.toNat,?_⟩
 rw[sx,uO r a1,gk a2.1,h2]
 rw[hasB,cL]at h1
 rw[h1.2];rfl
theorem Uu{i j:Int}(h:0<=i/\i<64):hasB (kT [i]) j=true↔j=i:=by grind[fC,uP,hasB,ic,zQ]
theorem L9{r:Rl}{i:Int}(h:0<=i/\i<pts r)(j:Nat):(DD r i).getLsbD j=true↔(bK r i j=true/\bK r j i=true):=by grind[Rl,pts,DD,bK,dA,agw,L8,Uu]
theorem adk{r:Rl}(h:¬(eI r).eq (jq r)):gq r=false:=by grind[gq]
theorem Fh{r:Rl}:(∀i:Nat,i<(pts r).toNat->∀j:Nat,j<i->(bK r i j&&bK r j i)=false)↔∀i j:Int,bK r i j=true->bK r j i=true->i=j:=by
 constructor
 .intro h i j h1 h2
  obtain⟨a1,a2,-⟩:=jP h1
  by_cases e:i=j
  .exact e
  by_cases hlt:j<i
  .have:=h i.toNat J j.toNat J
   rw[gk a1.1,gk a2.1,h1,h2]at this;cases this
  have:=h j.toNat J i.toNat J
  rw[gk a1.1,gk a2.1,h1,h2]at this;cases this
 intro h i hi j hj
 cases h1:bK r i j with
 |false=>rfl
 |true=>
  cases h2:bK r j i with
  |false=>rfl
  |true=>have:=h i j h1 h2;omega
theorem agx{r:Rl}{k:Int}(hc:(eI r).eq (jq r))(hk:0<=k/\k<pts r)(h:DD r k≠kT [k]):gq r=false:=by
 rw[gq,Bool.and_eq_false_iff]
 refine .inr (gZ fun ha=>h ?_)
 have hp:=dA r
 rw[Fh]at ha
 refine eG fun j hj=> ?_
 rw[gV,L9 hk]
 constructor
 .rintro⟨h1,h2⟩
  have:=ha _ _ h1 h2
  rw[ic];simp[EU];omega
 intro h1
 have:(j:Int)=k:=by rw[ic]at h1;simp[EU]at h1;omega
 rw[this,sF hc,yF hk];simp
theorem adl{r:Rl}(hc:(eI r).eq (jq r))(h:∀j:Int,0<=j->j<pts r->DD r j=kT [j]):gq r=true:=by
 rw[gq,gW hc,mG,eE,Fh]
 intro i j h1 h2
 obtain⟨a1,a2,-⟩:=jP h1
 have hp:=dA r
 have h3:=(L9 a1 j.toNat).2 (by rw[gk a2.1];exact⟨h1,h2⟩)
 rw[h i a1.1 a1.2,ic]at h3
 simp[EU]at h3;omega
theorem Ma{r:Rl}{i:Int}(h:0<=i/\i<pts r)(j:Nat):(zU r i).getLsbD j=true↔bK r i j=true/\¬(j:Int)=i:=by
 rw[zU,OY,uO r h];simp
theorem agy{n:Int}(j:Nat)(h:(below n).getLsbD j=true):(j:Int)<n:=by grind[fG]
def xb(r:Rl)(s:BitVec 64):BitVec 64:=wZ (zU r) (gK s)&&&s
def Mb(r:Rl):Nat->BitVec 64->Int->Int
 |0,_,n=>n
 |f+1,s,n=>if xb r s=0#64 then n else Mb r f (xb r s) (n+1)
def aa4(r:Rl):Int×Bool:=if gq r then(Mb r 65 (below (pts r)) 0,true)else(0,false)
theorem al8{r:Rl}{s:BitVec 64}(hs:∀j:Nat,s.getLsbD j=true->(j:Int)<pts r)(j:Nat)(h:(xb r s).getLsbD j=true):(j:Int)<pts r:=by grind[xb]
theorem Ik:∀(l m:List Int),l.Nodup->(∀x∈l,x∈m)->l.length<=m.length
 |[],m,_,_=>by simp
 |x::l,m,hn,h=>by
  rw[og]at hn
  have hx:=h x aJ
  have:=Ik l (m.erase x) hn.2 fun y hy=>(List.mem_erase_of_ne (show y≠x from fun e=>hn.1 (by rw[<-e];exact hy))).2 (h y (by simp[hy]))
  have h2:=Xz hx
  have:0<m.length:=Rb hx
  simp;omega
theorem Il(s:BitVec 64):(gK s).Nodup:=by
 have:=qc s
 exact this.imp fun h=>by omega
theorem agz{a b:BitVec 64}{j:Int}(h:∀i:Int,hasB a i=true->hasB b i=true)(hb:hasB b j=true)(ha:hasB a j=false):(gK a).length<(gK b).length:=by
 have:=Ik (j::gK a) (gK b) (by
  rw[og]
  exact⟨fun hm=>absurd ((fC _ _).1 hm) (by rw[ha];simp),Il a⟩) fun x hx=>by
   rcases c8.1 hx with rfl|hx
   .exact(fC _ _).2 hb
   exact(fC _ _).2 (h x ((fC _ _).1 hx))
 simp at this;omega
theorem Mc(lt:Int->Int->Prop)(hi:∀x,¬lt x x)(ht:∀x y z,lt x y->lt y z->lt x z):∀l:List Int,l≠[]->∃m∈l,∀x∈l,¬lt x m
 |[],h=>absurd O h
 |[a],_=>⟨a,aJ,fun x hx=>by simp at hx;subst hx;exact hi _⟩
 |a::b::l,_=>by
  obtain⟨m,hm,h⟩:=Mc lt hi ht (b::l) aJ
  by_cases ha:lt a m
  .refine⟨a,aJ,fun x hx=> ?_⟩
   rcases c8.1 hx with rfl|hx
   .exact hi _
   exact fun hxa=>h x hx (ht _ _ _ hxa ha)
  refine⟨m,fX _ hm,fun x hx=> ?_⟩
  rcases c8.1 hx with rfl|hx
  .exact ha
  exact h x hx
theorem vD{r:Rl}(h:gq r=true):(eI r).eq (jq r)/\∀i j:Int,bK r i j=true->bK r j i=true->i=j:=by
 rw[gq,cL,eE,eE,Fh]at h;exact h
theorem s8{r:Rl}(h:gq r=true){i j k:Int}(h1:bK r i j=true)(h2:bK r j k=true):bK r i k=true:=by grind[vD,sF,nn]
theorem fx(a b:BitVec 64)(i:Int):hasB (a&&&b) i=(hasB a i&&hasB b i):=by grind[hasB,zQ]
theorem KA(a b:BitVec 64)(i:Int):hasB (a|||b) i=(hasB a i||hasB b i):=by grind[hasB,zQ]
theorem Md{s:BitVec 64}{i:Int}(h:hasB s i=true):s.getLsbD i.toNat=true:=by grind[hasB]
theorem al9{s:BitVec 64}{j:Nat}(h:s.getLsbD j=true):hasB s j=true:=by grind[hasB,zQ]
theorem ama{r:Rl}{s:BitVec 64}(ho:gq r=true)(hs:∀j:Nat,s.getLsbD j=true->(j:Int)<pts r)(h:¬xb r s=0#64):(gK (xb r s)).length<(gK s).length:=by
 have hne:gK s≠[]:=fun e=>by
  rw[zS]at e;subst e
  exact h (by rw[xb];simp)
 obtain⟨m,hm,hmin⟩:=Mc (fun x y=>bK r x y=true/\x≠y) (fun x hx=>hx.2 O) (fun x y z h1 h2=>⟨s8 ho h1.1 h2.1,fun e=>by
  subst e
  exact h1.2 ((vD ho).2 _ _ h1.1 h2.1)⟩) (gK s) hne
 rw[fC]at hm
 refine agz (j:=m) (fun i hi=>by rw[xb,fx,cL]at hi;exact hi.2) hm ?_
 cases hc:hasB (xb r s) m with
 |false=>rfl
 |true=>
  rw[xb,fx,cL]at hc
  have h1:=Md hc.1
  rw[Ii,EW]at h1
  obtain⟨x,hx,hb⟩:=h1
  have hxs:=(fC _ _).1 hx
  have hbd:=uP hxs
  have hxp:=hs _ (Md hxs)
  have hmb:=uP hm
  rw[Ma ⟨hbd.1,J⟩,gk hmb.1]at hb
  exact absurd ⟨hb.1,fun e=>hb.2 e.symm⟩ (hmin x hx)
def aCY(r:Rl)(i:Int):BitVec 64:=zU r i&&& ~~~wZ (zU r) (gK (zU r i))
def agA(r:Rl)(k:Int):List (Int×Int):=(upto k).flatMap fun i=>(gK (aCY r i)).map fun y=>(i,y)
def aBY(r:Rl):List (Int×Int):=if gq r then agA r (pts r)else[]
def aCZ:Rl:=⟨3,fun i=>[7#64,6#64,4#64].getD i 0#64⟩
def aI8(p:Int->Bool)(l:List Int)(a:Int):Bool:=(l.take a.toNat).any p
theorem adm{r:Rl}{k:Int}(hk:¬k<pts r)(hf:∀i j:Int,0<=j->j<i->i<k->(bK r i j&&bK r j i)=false):gq r=decide ((eI r).eq (jq r)):=by grind[gq,pts,bK]
theorem Uv{r:Rl}{i j:Int}(h1:bK r i j=true)(h2:bK r j i=true)(h:j<i):gq r=false:=by grind[gq,vD]
def Uw(r:Rl)(k j:Int):Bool:=(upto j).all fun x=> !(bK r k x&&bK r x k)
def A6(r:Rl)(k:Int):Int:=(((upto k).filter fun i=>Uw (jq r) i i).length:Nat)
theorem aro{r:Rl}{k:Int}(h0:0<=k):0<=A6 r k/\A6 r k<=k:=by grind[Uw,jq,upto,m6,A6]
theorem Ux{s:BitVec 64}{k:Int}(hk:hasB s k=true):(YG s).1=k↔∀j:Int,0<=j->j<k->hasB s j=false:=by
 have hkb:=uP hk
 have hs:s≠0#64:=fun e=>by
  have:=Md hk
  rw[e]at this;simp at this
 have h1:(YG s).1=tz s:=by rw[YG,aT hs]
 rw[h1]
 have hl:=LZ hs
 have hmem:hasB s (tz s)=true:=(fC _ _).1 (by rw[hl];simp)
 have hsort:=qc s
 rw[hl,lQ]at hsort
 constructor
 .intro e j h0 hj
  cases hc:hasB s j with
  |false=>rfl
  |true=>
   have:=(fC _ _).2 hc
   rw[hl]at this
   rcases c8.1 this with e2|h2
   .omega
   have:=hsort.1 j h2;omega
 intro h
 have hb:=uP hmem
 have hkm:=(fC _ _).2 hk
 rw[hl]at hkm
 rcases c8.1 hkm with e2|h2
 .exact e2.symm
 have:=hsort.1 k h2
 have:=h (tz s) hb.1 this
 rw[hmem]at this;cases this
theorem kY{s:BitVec 64}{j:Int}:hasB s j=true↔(0<=j/\j<64)/\s.getLsbD j.toNat=true:=by grind[hasB,zQ]
theorem Me(f:Int->BitVec 64)(l:List Int)(j:Int):hasB (wZ f l) j=true↔∃i∈l,hasB (f i) j=true:=by grind[kY,Ii]
theorem kH{r:Rl}{i j:Int}(h:bK r i j=true):(0<=i/\i<pts r)/\(0<=j/\j<pts r):=by have:=jP h;exact⟨this.1,this.2.1⟩
theorem Mf{r:Rl}{i:Int}(h:0<=i/\i<pts r)(j:Int):hasB (zU r i) j=true↔bK r i j=true/\j≠i:=by grind[kY,Ma,kH,dA]
theorem lZ(n j:Int):hasB (below n) j=true↔0<=j/\j<64/\j<n:=by grind[kY,fG]
def zq(r:Rl):Nat->BitVec 64
 |0=>below (pts r)
 |k+1=>xb r (zq r k)
theorem Sd(r:Rl):∀k j:Nat,(zq r k).getLsbD j=true->(j:Int)<pts r
 |0,j,h=>agy j h
 |k+1,j,h=>al8 (Sd r k) j h
theorem agB{r:Rl}{k:Nat}{j:Int}(h:hasB (zq r k) j=true):0<=j/\j<pts r:=by
 have:=kY.1 h
 have h2:=Sd r k _ this.2
 omega
theorem KB{r:Rl}(k:Nat)(j:Int):hasB (zq r (k+1)) j=true↔hasB (zq r k) j=true/\∃i:Int,hasB (zq r k) i=true/\bK r i j=true/\j≠i:=by
 rw[zq,xb,fx,cL,Me,and_comm]
 refine X5 fun hj=> ?_
 constructor
 .rintro⟨i,hi,h⟩
  have hi2:=(fC _ _).1 hi
  exact⟨i,hi2,(Mf (agB hi2) j).1 h⟩
 rintro⟨i,hi,h⟩
 exact⟨i,(fC _ _).2 hi,(Mf (agB hi) j).2 h⟩
theorem agC{r:Rl}:∀(k:Nat) {i j:Int},hasB (zq r k) i=true->bK r i j=true->j≠i->hasB (zq r (k+1)) j=true
 |0,i,j,hi,h,hne=>by
  have hb:=kH h;have hp:=dA r
  exact(KB 0 j).2 ⟨(lZ _ _).2 J,i,hi,h,hne⟩
 |k+1,i,j,hi,h,hne=>by
  have h1:=(KB k i).1 hi
  exact(KB (k+1) j).2 ⟨agC k h1.1 h hne,i,hi,h,hne⟩
theorem Uy{r:Rl}{j:Int}{a b:Nat}(h:a<=b)(hb:hasB (zq r b) j=true):hasB (zq r a) j=true:=by
 induction b with
 |zero=>rwa[show a=0 by omega]
 |succ b ih=>
  by_cases he:a=b+1
  .rwa[he]
  exact ih J ((KB b j).1 hb).1
theorem vE(j:Int):hasB 0#64 j=false:=by rw[hasB];simp
theorem arp{r:Rl}{k:Nat}(h:zq r (k+1)≠0#64):zq r k≠0#64:=by grind[zq,xb]
theorem YI{s:BitVec 64}{n:Int}(h0:0<=n)(h:∀j:Nat,s.getLsbD j=true->(j:Int)<n):(gK s).length<=n.toNat:=
 DC n.toNat (gK s) (Il s) fun x hx=>by
  have h1:=kY.1 ((fC _ _).1 hx)
  have:=h _ h1.2
  omega
theorem aa5{s:BitVec 64}(h:s≠0#64):0<(gK s).length:=by grind[zS]
theorem KC{r:Rl}(ho:gq r=true):∀k:Nat,zq r k≠0#64->(gK (zq r k)).length+k<=(pts r).toNat
 |0,_=>by have:=YI (dA r).1 (Sd r 0);omega
 |k+1,h=>by
  have h1:=KC ho k (arp h)
  have h2:(gK (zq r (k+1))).length<(gK (zq r k)).length:=ama ho (Sd r k) h
  omega
theorem aa6{s:BitVec 64}{j:Int}(h:hasB s j=true):s≠0#64:=by grind[vE]
theorem agD{r:Rl}(ho:gq r=true){k:Nat}{j:Int}(h:hasB (zq r k) j=true):(k:Int)<pts r:=by
 have h1:=KC ho k (aa6 h)
 have h2:=aa5 (aa6 h)
 have:=dA r
 omega
theorem Im{r:Rl}(ho:gq r=true):∀f k:Nat,f+k=65->(k=0\/zq r k≠0#64)->∃m:Nat,Mb r f (zq r k) k=(m:Int)/\zq r (m+1)=0#64/\(m=0\/zq r m≠0#64)
 |0,k,h,h2=>by
  have hp:=dA r
  rcases h2 with h2|h2
  .omega
  have:=KC ho k h2;omega
 |f+1,k,h,h2=>by
  by_cases hs:xb r (zq r k)=0#64
  .exact⟨k,by rw[Mb,aX hs],hs,h2⟩
  obtain⟨m,h3,h4⟩:=Im ho f (k+1) J (.inr hs)
  refine⟨m,?_,h4⟩
  rw[Mb,aT hs,<-h3];rfl
def aI9(r:Rl)(F:Nat->Int):Prop:=∀j:Int,0<=j->j<pts r->0<=F j.toNat/\hasB (zq r (F j.toNat).toNat) j=true
def YJ(F:Nat->Int)(i:Nat)(x:Int):Nat->Int:=fun j=>if j=i then x else F j
theorem agE{F:Nat->Int}{i:Nat}{x:Int}(h:F i<=x)(k:Nat):F k<=YJ F i x k:=by grind[YJ]
def sG(r:Rl)(F0 F:Nat->Int)(i k:Int):Prop:=∀j:Int,j<k->bK r i j=true->i≠j->F0 i.toNat+1<=F j.toNat
def zV(r:Rl)(F0 F:Nat->Int)(k:Int):Prop:=∀i:Int,i<k->sG r F0 F i (pts r)
def PB(F0 F:Nat->Int):Prop:=∀k,F0 k<=F k
theorem PB.refl(F:Nat->Int):PB F F:=fun _=>lW _
theorem PB.put{F0 F:Nat->Int}{i:Nat}{x:Int}(h:PB F0 F)(hx:F i<=x):PB F0 (YJ F i x):=by grind[PB,YJ,agE]
theorem sG.put{r:Rl}{F0 F:Nat->Int}{i k:Int}{j:Nat}{x:Int}(h:sG r F0 F i k)(hx:F j<=x):sG r F0 (YJ F j x) i k:=by grind[Rl,sG,YJ,agE]
theorem zV.put{r:Rl}{F0 F:Nat->Int}{k:Int}{j:Nat}{x:Int}(h:zV r F0 F k)(hx:F j<=x):zV r F0 (YJ F j x) k:=fun i hi=>(h i hi).put hx
theorem sG.next{r:Rl}{F0 F:Nat->Int}{i k:Int}(h:sG r F0 F i k)(hk:bK r i k=true->i≠k->F0 i.toNat+1<=F k.toNat):sG r F0 F i (k+1):=by grind[Rl,sG,bK]
theorem sG.none(r:Rl)(F0 F:Nat->Int)(i:Int):sG r F0 F i 0:=fun j h1 h2 _=>by have:=(kH h2).2;omega
theorem zV.none(r:Rl)(F0 F:Nat->Int):zV r F0 F 0:=fun i hi j _ h2 _=>by have:=(kH h2).1;omega
theorem zV.next{r:Rl}{F0 F:Nat->Int}{i k:Int}(h:zV r F0 F i)(hk:¬k<pts r)(h2:sG r F0 F i k):zV r F0 F (i+1):=by grind[Rl,zV,pts,sG]
def aJa(r:Rl)(F:Nat->Int)(k:Int):Prop:=∀(v:Nat) (j:Int),(v:Int)<=k->hasB (zq r v) j=true->(v:Int)<=F j.toNat
def aC0(r:Rl)(i j k:Int):Bool:=(upto k).any fun x=>decide (x≠i)&&decide (x≠j)&&bK r i x&&bK r x j
def aC1(r:Rl)(i j:Int):Bool:=decide (i≠j)&&bK r i j&& !aC0 r i j (pts r)
def aC2(r:Rl)(i k:Int):List (Int×Int):=((upto k).filter (aC1 r i ·)).map fun y=>(i,y)
theorem xd(k:Int):(upto k).Pairwise (· <·):=by
 rw[upto,HF]
 exact XD.imp fun h=>by omega
def Tidy(r:Rl):Prop:=r.n=pts r/\∀i j:Nat,(r.up i).getLsbD j=true->(i:Int)<pts r/\(j:Int)<pts r
theorem Tidy.plain{r:Rl}(h:Tidy r):eI r=r:=by
 obtain⟨n,u⟩:=r
 have hn:n=pts ⟨n,u⟩:=h.1
 show(⟨pts ⟨n,u⟩,_⟩:Rl)=⟨n,u⟩
 rw[<-hn]
 refine x9 fun i=>eG fun j hj=> ?_
 rw[gV]
 by_cases hi:(i:Int)<n
 .rw[aX hi,aaY,cL,eE]
  exact⟨fun h2=>h2.1,fun h2=>⟨h2,J,(h.2 i j h2).2⟩⟩
 rw[aT hi]
 constructor
 .intro h2;simp at h2
 intro h2;exact absurd (by have:=(h.2 i j h2).1;rw[<-hn]at this;exact this) hi
def inQ(n:Int)(q:Int×Int):Bool:=decide (0<=q.1/\0<=q.2/\q.1<pts ⟨n,fun _=>0#64⟩/\q.2<pts ⟨n,fun _=>0#64⟩)
def inR(r:Rl)(q:Int×Int):Bool:=decide (0<=q.1/\0<=q.2/\q.1<pts r/\q.2<pts r)
def aC3(n:Int)(p:Int×Int)(l:List (Int×Int))(k:Int):Bool:=(l.take k.toNat).any fun q=>decide (q=p)&&inQ n q
end Go.Proofs.YtlhjdflgjbkpmaaGreatDoor.M
namespace Go.Proofs.YtlhjdflgjbkpmaaGreatDoor.E
section
open Go Go.RowKit Go.Proofs.YtlhjdflgjbkpmaaGreatDoor.M
section ext
variable{w0 w:World}{L:List bu}{b off:Nat}{c:Array Value}{e:TypeId}{fr:Nat×Nat}{v:Value}{o:Obj}
theorem keep{o:Obj}(hb:Below w0.heap.size w0 w)(h:w0.heap[b]?=some o):w.heap[b]?=some o:=by
 rw[hb.block b (B0.1 h).1];exact h
theorem Hp.ext(h:Hp w0 w L)(hb:w0.heap[b]?=some o):w.heap[b]?=some o:=by
 rw[h.below.block b (B0.1 hb).1];exact hb
theorem Hp.eP(h:Hp w0 w L)(hb:w0.heap[b]?=some (.cells c e fr))(hc:c[off]?=some v):w.cell? ⟨b,off,none⟩=some v:=by
 rw[xS w b off c e fr (h.ext hb)];exact hc
end ext
def aC4(f:Nat->Int):List Value:=(List.range 64).map fun i=>I (f i)
@[irreducible] def aMd(f:Nat->Int):Array Value:=(aC4 f).toArray
section runs
variable{P:Program}{σ:Env}{w:World}{dst:Option Tmp}{ty t u:TypeId}{pos:String}{bO:Array Edge}{g:Option (Nat×Bool)}{x y:Operand}{b:Nat}{e:TypeId}{r:Rl}{fr:Nat×Nat}
theorem s0{sz:Nat}(hu:P.underlying t=some (.slice e))(hs:∀w,(sizeOf e).run P w= .ok sz w):
  (execOp (ev σ) ⟨dst,.buildSlice t 0 #[],ty,pos,bO,g⟩).run P w= .ok (.value (.slice (some ⟨w.heap.size,0,none⟩) 0 0)) (w.alloc (.cells #[] e)):=by
 have h:(Instr.buildSlice t 0 #[]).run P w= .ok (.slice (some ⟨w.heap.size,0,none⟩) 0 0) (w.alloc (.cells #[] e)):=by
  simp[Instr.buildSlice,kf hu,hs,Instr.fill,newRow,newObj,Sem.run,show Array.range 0=#[]by decide]
 simp[execOp,h]
def rlL(l:List Rl):List Value:=l.flatMap wH
theorem Fi{f:FuncId}{cs vs:List Value}{Hx:List Operand}{ats:Array TypeId}(hf:∀args w,(callFunc f args).run P w= .ok (.enter f args) w)(hx:ev σ x= .func (.func f) #[] cs.toArray)(h:Hx.map (ev σ)=vs):
  (execOp (ev σ) ⟨dst,.call {callee:= .value x,args:=Hx.toArray,argTypes:=ats},ty,pos,bO,g⟩).run P w= .ok (.enter f (vs++cs).toArray) w:=by
 have:=Pv (P:=P) (w:=w) (dst:=dst) (ty:=ty) (pos:=pos) (bO:=bO) (g:=g) (ats:=ats) hf hx h
 rw[this,List.append_toArray]
theorem Mg{f:FuncId}{cs:List Value}{ats:Array TypeId}(hf:∀args w,(callFunc f args).run P w= .ok (.enter f args) w)(hx:ev σ x= .func (.func f) #[] cs.toArray):
 (execOp (ev σ) ⟨dst,.call {callee:= .value x,args:=#[],argTypes:=ats},ty,pos,bO,g⟩).run P w= .ok (.enter f cs.toArray) w:=Fi (Hx:=[]) hf hx O
theorem lB{f:FuncId}{cs:List Value}{v1:Value}{x1:Operand}{ats:Array TypeId}(hf:∀args w,(callFunc f args).run P w= .ok (.enter f args) w)(hx:ev σ x= .func (.func f) #[] cs.toArray)(h1:ev σ x1=v1):
 (execOp (ev σ) ⟨dst,.call {callee:= .value x,args:=#[x1],argTypes:=ats},ty,pos,bO,g⟩).run P w= .ok (.enter f (v1::cs).toArray) w:=Fi (Hx:=[x1]) (vs:=[v1]) hf hx (by simp[h1])
theorem iZ{f:FuncId}{cs:List Value}{v1 v2:Value}{x1 x2:Operand}{ats:Array TypeId}(hf:∀args w,(callFunc f args).run P w= .ok (.enter f args) w)(hx:ev σ x= .func (.func f) #[] cs.toArray)(h1:ev σ x1=v1)(h2:ev σ x2=v2):
 (execOp (ev σ) ⟨dst,.call {callee:= .value x,args:=#[x1,x2],argTypes:=ats},ty,pos,bO,g⟩).run P w= .ok (.enter f (v1::v2::cs).toArray) w:=Fi (Hx:=[x1,x2]) (vs:=[v1,v2]) hf hx (by simp[h1,h2])
end runs
section awi
variable{P:Program}{n:Nat}{l:List Oper}{k:K}{σ:Env}{w w0:World}{L' Xh:List bu}{fuel i d:Nat}{listed:Array Bool}{ty:TypeId}{pos:String}{bO:Array Edge}{g:Option (Nat×Bool)}{x y:Operand}
theorem fT{t e:TypeId}{j:Nat}{ie:TypeInfo}{z:Value}{size bytes:Nat}{v u:Value}{m m':Nat}{xs news:List Value}(hi:l[i]?=some ⟨some d,.call {callee:= .builtin .append,args:=#[x,y],argTypes:=#[t,t]},ty,pos,bO,g⟩)
  (hg:∀a,Is n σ a->Region.wanted ⟨some d,.call {callee:= .builtin .append,args:=#[x,y],argTypes:=#[t,t]},ty,pos,bO,g⟩ (yielded l.toArray a.tmps)=true) (hd:Nat.blt d n=true) (hH:Hp w0 w Xh) (hL:Xh[j]?=some (.row v e size m xs))
  (hs:∀v',L'.Sublist (Xh.set j (.row v' e size (m+m') (xs++news)))) (hS:Sl w u size m' news)
  (hx:ev σ x=v) (hy:ev σ y=u) (ht:P.underlying t=some (.slice e)) (hie:P.info? e=some ie) (hz:ie.zero=some z)
  (hsize:ie.size=size) (hby:ie.bytes=bytes) (hzs:z.cells.size=size) (hsz:0<size) (h1:∀u∈news,u.oneCell'=true)
  (hbytes:(m+m')*bytes<=140737488355328) (h63:m+m'<=maxLen)
  (hk:∀v' w',Hp w0 w' (Xh.set j (.row v' e size (m+m') (xs++news)))->AN P n l (fun w=>Hp w0 w L') k fuel (listed.setIfInBounds i true) (lX σ d v') w'):AO P n l (fun w=>Hp w0 w L') k fuel listed σ w i:=by
 obtain⟨v',w',hr,h2,h3,h4⟩:=s6 (P:=P) (ty:=ty) ht hie hz hsize hby hzs hsz (hH.get hL) hS h1 h63 hbytes hH.size
 have hH':=hH.yD hL h2 h3 h4
 exact Cr hi hg hd (sZ hx hy hr) (hH'.sub (hs v')) (hk v' w' hH')
end awi
end
end Go.Proofs.YtlhjdflgjbkpmaaGreatDoor.E
namespace Go.Proofs.YtlhjdflgjbkpmaaGreatDoor.M
def vF(P:Int->Bool)(n:Int):Int×Bool:=match(upto n).find? P with
 |some u=>(u,true)
 |none=>(0,false)
theorem adn{n:Int}:∀(k:Nat),(k:Int)<=n->upto n=upto k++((List.range (n.toNat-k)).map fun(i:Nat)=>((k+i:Nat):Int)):=fun k h=>by
 rw[upto,upto,show n.toNat=k+(n.toNat-k)by omega,X8,gU]
 simp
theorem qu{P:Int->Bool}{n k:Int}(h0:0<=k)(hk:k<n)(hp:P k=true)(hf:∀j:Int,0<=j->j<k->P j=false):vF P n=(k,true):=by
 have h:(upto n).find? P=some k:=by
  rw[adn k.toNat J,List.find?_append]
  have h1:(upto (k.toNat:Int)).find? P=none:=by
   rw[List.find?_eq_none]
   intro x hx
   have:=cK.1 hx
   rw[hf x this.1 J];simp
  rw[h1,show n.toNat-k.toNat=(n.toNat-k.toNat-1)+1 by omega,XE]
  simp only[Option.none_or,lR,Lr,gk h0,List.find?_cons,hp]
 rw[vF,h]
theorem tg{P:Int->Bool}{n:Int}(hf:∀j:Int,0<=j->j<n->P j=false):vF P n=(0,false):=by grind[upto,cK,vF]
theorem oq(P:Int->Bool)(n:Int):(∃k:Int,0<=k/\k<n/\P k=true/\(∀j:Int,0<=j->j<k->P j=false)/\vF P n=(k,true))\/((∀j:Int,0<=j->j<n->P j=false)/\vF P n=(0,false)):=by
 have key:∀m:Nat,(∃k:Int,0<=k/\k<m/\P k=true/\∀j:Int,0<=j->j<k->P j=false)\/∀j:Int,0<=j->j<m->P j=false:=fun m=>by
  induction m with
  |zero=>exact .inr fun j h1 h2=>by omega
  |succ m ih=>
   rcases ih with⟨k,h1,h2,h3,h4⟩|h
   .exact .inl ⟨k,h1,J,h3,h4⟩
   .cases hm:P m with
    |true=>exact .inl ⟨m,J,J,hm,h⟩
    |false=>
     refine .inr fun j h1 h2=> ?_
     by_cases e:j=m
     .rw[e];exact hm
     exact h j h1 J
 rcases key n.toNat with⟨k,h1,h2,h3,h4⟩|h
 .exact .inl ⟨k,h1,J,h3,h4,qu h1 J h3 h4⟩
 exact .inr ⟨fun j h1 h2=>h j h1 J,tg fun j h1 h2=>h j h1 J⟩
def gx(r:Rl)(i:Int):BitVec 64:=upR r (kT [i])
def bQ(r:Rl)(i:Int):BitVec 64:=if Bv r i then Ek r (kT [i])else 0#64
theorem Se(i j:Int):hasB (kT [i]) j=true↔j=i/\0<=i/\i<64:=by grind[uP,hasB,ic,Uu]
theorem eW(r:Rl)(i j:Int):hasB (gx r i) j=bK r i j:=by
 have hp:=dA r
 rw[gV,kY,gx,agw]
 constructor
 .rintro⟨h1,x,h2,h3⟩
  rw[gk h1.1]at h3
  rw[<-((Se i x).1 h2).1];exact h3
 intro h
 have hb:=kH h
 refine⟨J,i,(Se i i).2 ⟨rfl,J⟩,?_⟩
 rw[gk hb.2.1];exact h
theorem agF(r:Rl)(i j:Int):hasB (Ek r (kT [i])) j=bK r j i:=by
 have hp:=dA r
 rw[gV,kY,L8]
 constructor
 .rintro⟨h1,x,h2,h3⟩
  rw[gk h1.1]at h3
  rw[<-((Se i x).1 h2).1];exact h3
 intro h
 have hb:=kH h
 refine⟨J,i,(Se i i).2 ⟨rfl,J⟩,?_⟩
 rw[gk hb.1.1];exact h
theorem dI(r:Rl)(i j:Int):hasB (bQ r i) j=bK r j i:=by grind[bQ,Bv,agF,vE,Sb]
theorem rq{a b:BitVec 64}(h:∀j:Int,hasB a j=hasB b j):a=b:=eG fun j hj=>by
 have:=h j
 rw[hasB,hasB,zQ,gW J]at this
 simpa using this
theorem eV{a b:BitVec 64}:eu a b=true↔∀j:Int,hasB a j=true->hasB b j=true:=by
 rw[Ge]
 constructor
 .intro h j hj
  have:=kY.1 hj
  exact kY.2 ⟨this.1,h _ J this.2⟩
 intro h i hi hb
 have:=kY.1 (h i (al9 hb))
 simpa using this.2
def ot(g:Int->BitVec 64)(i j u:Int):Bool:=hasB (g i&&&g j) u&&eu (g i&&&g j) (g u)
def A7(g:Int->BitVec 64)(n i j:Int):Int×Bool:=vF (ot g i j) n
theorem awk{s:BitVec 64}{a b:Int}(h0:0<=a)(hb:b<(gK s).length)(h:a<b):(gK s).getD a.toNat 0<(gK s).getD b.toNat 0:=by grind[List.pairwise_iff_getElem,qc,List.getElem?_eq_getElem]
theorem aa7{s:BitVec 64}{j:Int}(h:hasB s j=true):∃a:Int,0<=a/\a<(gK s).length/\(gK s).getD a.toNat 0=j:=by
 obtain⟨k,hk,he⟩:=ud ((fC _ _).2 h)
 refine⟨k,J,J,?_⟩
 rw[eT,eA,eD hk,he];rfl
theorem agG{g:Int->BitVec 64}{n i j a:Int}(hn:∀u,hasB (g i&&&g j) u=true->u<n)(a0:0<=a)(a1:a<(gK (g i&&&g j)).length)(h:eu (g i&&&g j) (g ((gK (g i&&&g j)).getD a.toNat 0))=true)
  (hf:∀b:Int,0<=b->b<a->eu (g i&&&g j) (g ((gK (g i&&&g j)).getD b.toNat 0))=false):A7 g n i j=((gK (g i&&&g j)).getD a.toNat 0,true):=by
 have h1:=YH a0 a1
 have h2:=PA a0 a1
 refine qu h2.1 (hn _ h1) (by rw[ot,h1,h];rfl) fun x x0 x1=> ?_
 rw[ot]
 cases hc:hasB (g i&&&g j) x with
 |false=>rfl
 |true=>
  obtain⟨b,b0,b1,hb⟩:=aa7 hc
  have hba:b<a:=by
   rcases XU b a with h3|h3|h3
   .exact h3
   .subst h3;omega
   have:=awk a0 b1 h3;omega
  rw[<-hb,hf b b0 hba];rfl
theorem amb{g:Int->BitVec 64}{n i j a:Int}(a1:¬a<(gK (g i&&&g j)).length)(hf:∀b:Int,0<=b->b<a->eu (g i&&&g j) (g ((gK (g i&&&g j)).getD b.toNat 0))=false):A7 g n i j=(0,false):=by grind[gK,eu,A7,tg,ot,hasB,aa7]
def jh(r:Rl)(i j:Int):Int×Bool:=A7 (gx r) (pts r) i j
def q7(r:Rl)(i j:Int):Int×Bool:=A7 (bQ r) (pts r) i j
theorem agH{r:Rl}{i j u:Int}(h:hasB (gx r i&&&gx r j) u=true):u<pts r:=by
 rw[fx,cL,eW]at h;exact(kH h.1).2.2
theorem ado{r:Rl}{i j u:Int}(h:hasB (bQ r i&&&bQ r j) u=true):u<pts r:=by
 rw[fx,cL,dI]at h;exact(kH h.1).1.2
def Em(r:Rl)(i j u v:Int):Bool:=bK r i u&&bK r j u&&(upto v).all fun x=> !(bK r i x&&bK r j x&& !bK r u x)
def En(r:Rl)(i j u v:Int):Bool:=bK r u i&&bK r u j&&(upto v).all fun x=> !(bK r x i&&bK r x j&& !bK r x u)
theorem Yh{r:Rl}{i j u v:Int}(h0:0<=v):Em r i j u (v+1)=(Em r i j u v&& !(bK r i v&&bK r j v&& !bK r u v)):=by grind[Em,iY]
theorem Yi{r:Rl}{i j u v:Int}(h0:0<=v):En r i j u (v+1)=(En r i j u v&& !(bK r v i&&bK r v j&& !bK r v u)):=by grind[En,iY]
theorem Io(r:Rl)(i j u:Int){v:Int}(hv:v=pts r):ot (gx r) i j u=Em r i j u v:=by
 subst hv
 rw[ot,Em,fx,eW,eW,gV,cL,cL (_&&_)]
 refine X5 fun _=> ?_
 rw[eV,iS]
 constructor
 .intro h x hx
  have:=h x
  rw[fx,eW,eW,eW,cL]at this
  cases h1:bK r i x with
  |false=>rfl
  |true=>cases h2:bK r j x with
   |false=>rfl
   |true=>rw[this ⟨h1,h2⟩];rfl
 intro h x hx
 rw[fx,eW,eW,cL]at hx
 have h3:=h x (cK.2 (kH hx.1).2)
 rw[hx.1,hx.2]at h3
 rw[eW];simpa using h3
theorem Ip(r:Rl)(i j u:Int){v:Int}(hv:v=pts r):ot (bQ r) i j u=En r i j u v:=by
 subst hv
 rw[ot,En,fx,dI,dI,gV,cL,cL (_&&_)]
 refine X5 fun _=> ?_
 rw[eV,iS]
 constructor
 .intro h x hx
  have:=h x
  rw[fx,dI,dI,dI,cL]at this
  cases h1:bK r x i with
  |false=>rfl
  |true=>cases h2:bK r x j with
   |false=>rfl
   |true=>rw[this ⟨h1,h2⟩];rfl
 intro h x hx
 rw[fx,dI,dI,cL]at hx
 have h3:=h x (cK.2 (kH hx.1).1)
 rw[hx.1,hx.2]at h3
 rw[dI];simpa using h3
theorem Uz{r:Rl}{i j u v:Int}(u0:0<=u)(u1:u<pts r)(hv:v=pts r)(h:Em r i j u v=true)(hf:∀x:Int,0<=x->x<u->ot (gx r) i j x=false):jh r i j=(u,true):=
 qu u0 u1 (by rw[Io r i j u hv];exact h) hf
theorem amc{r:Rl}{i j u:Int}(u1:¬u<pts r)(hf:∀x:Int,0<=x->x<u->ot (gx r) i j x=false):jh r i j=(0,false):=tg fun x h1 h2=>hf x h1 J
theorem UA{r:Rl}{i j u v:Int}(u0:0<=u)(u1:u<pts r)(hv:v=pts r)(h:En r i j u v=true)(hf:∀x:Int,0<=x->x<u->ot (bQ r) i j x=false):q7 r i j=(u,true):=
 qu u0 u1 (by rw[Ip r i j u hv];exact h) hf
theorem amd{r:Rl}{i j u:Int}(u1:¬u<pts r)(hf:∀x:Int,0<=x->x<u->ot (bQ r) i j x=false):q7 r i j=(0,false):=tg fun x h1 h2=>hf x h1 J
def uH(r:Rl)(i j:Int):Bool:=(jh r i j).2&&(q7 r i j).2
def th(r:Rl):Bool:=decide (1<=r.n/\r.n<=64)&&gq r&&(upto r.n).all fun i=>(upto i).all fun j=>uH r i j
theorem KD{r:Rl}(h:¬(1<=r.n/\r.n<=64)):th r=false:=by grind[th]
theorem aa8{r:Rl}(h:gq r=false):th r=false:=by rw[th,h];simp
theorem KE{r:Rl}{i j:Int}(i0:i<r.n)(j0:0<=j)(j1:j<i)(h:uH r i j=false):th r=false:=by
 cases hc:th r with
 |false=>rfl
 |true=>
  rw[th,cL,iS]at hc
  have h1:=hc.2 i (cK.2 ⟨J,i0⟩)
  rw[iS]at h1
  rw[h1 j (cK.2 ⟨j0,j1⟩)]at h;cases h
theorem aa9{r:Rl}{k:Int}(hn:1<=r.n/\r.n<=64)(ho:gq r=true)(hk:¬k<r.n)(hf:∀i j:Int,0<=j->j<i->i<k->uH r i j=true):th r=true:=by grind[th,cK]
def eY(r:Rl)(w:BitVec 64):Int×Bool:=vF (fun i=>decide (bQ r i=w)) (pts r)
theorem DE{r:Rl}{w:BitVec 64}{k:Int}(h0:0<=k)(hk:k<pts r)(h:bQ r k=w)(hf:∀j:Int,0<=j->j<k->bQ r j≠w):eY r w=(k,true):=by grind[Rl,pts,bQ,eY,qu]
theorem Gj{r:Rl}{w:BitVec 64}{k:Int}(hk:¬k<pts r)(hf:∀j:Int,0<=j->j<k->bQ r j≠w):eY r w=(0,false):=by grind[Rl,pts,bQ,eY,tg]
def js(r:Rl)(a b:BitVec 64):BitVec 64:=if((eY r a).2&&(eY r b).2&&(jh r (eY r a).1 (eY r b).1).2)=true then bQ r (jh r (eY r a).1 (eY r b).1).1 else a|||b
theorem Iq{r:Rl}{a b:BitVec 64}(h1:(eY r a).2=true)(h2:(eY r b).2=true)(h3:(jh r (eY r a).1 (eY r b).1).2=true):js r a b=bQ r (jh r (eY r a).1 (eY r b).1).1:=by grind[js]
theorem Ir{r:Rl}{a b:BitVec 64}(h1:(eY r a).2=false):js r a b=a|||b:=by rw[js,h1];rfl
theorem It{r:Rl}{a b:BitVec 64}(h1:(eY r b).2=false):js r a b=a|||b:=by rw[js,h1];simp
theorem PC{r:Rl}{a b:BitVec 64}(h1:(jh r (eY r a).1 (eY r b).1).2=false):js r a b=a|||b:=by rw[js,h1];simp
def wI(r:Rl)(g:Int->BitVec 64):Int×Bool:=vF (fun i=>decide (g i=below (pts r))) (pts r)
theorem aba{r:Rl}{g:Int->BitVec 64}{k:Int}(h0:0<=k)(hk:k<pts r)(h:g k=below (pts r))(hf:∀j:Int,0<=j->j<k->g j≠below (pts r)):wI r g=(k,true):=by grind[Rl,pts,below,wI,qu]
theorem agI{r:Rl}{g:Int->BitVec 64}{k:Int}(hk:¬k<pts r)(hf:∀j:Int,0<=j->j<k->g j≠below (pts r)):wI r g=(0,false):=by grind[Rl,pts,below,wI,tg]
def ru(r:Rl)(i k:Int):List Int:=(upto k).filter (bK r · i)
theorem adp{r:Rl}{i k:Int}(h0:0<=k)(h:bK r k i=true):ru r i k++[k]=ru r i (k+1):=by grind[ru,iY]
theorem agJ{r:Rl}{i k:Int}(h0:0<=k)(h:bK r k i=false):ru r i k=ru r i (k+1):=by grind[ru,iY]
theorem PD{r:Rl}{i k:Int}:(ru r i k).length<=k.toNat:=by grind[ru,m6]
theorem Mh(l:List Int)(j:Int):hasB (kT l) j=true↔(0<=j/\j<64)/\j∈l:=by grind[kY,ic]
theorem adq{r:Rl}{i k:Int}(hk:k=pts r):kT (ru r i k)=bQ r i:=rq fun j=>by
 subst hk
 have hp:=dA r
 rw[gV,Mh,dI,ru,xP,cK]
 constructor
 .exact fun h=>h.2.2
 intro h
 have:=(kH h).1
 exact⟨J,this,h⟩
def Fj(r:Rl)(t:Bool)(i k:Int):Bool:=(upto k).all fun x=>if t then bK r x i else bK r i x
theorem acU{r:Rl}{t:Bool}{i k:Int}(h0:0<=k):Fj r t i (k+1)=(Fj r t i k&&if t then bK r k i else bK r i k):=by grind[Fj,iY]
theorem zX{r:Rl}{i k:Int}(hk:k=pts r):Fj r false i k=true↔gx r i=below (pts r):=by
 subst hk
 rw[Fj,iS]
 constructor
 .intro h
  refine rq fun j=> ?_
  rw[gV,eW,lZ]
  constructor
  .intro h1;have:=kH h1;have:=dA r;omega
  intro h1;simpa using h j (cK.2 J)
 intro h x hx
 have h1:=cK.1 hx
 have hp:=dA r
 have h2:hasB (gx r i) x=true:=by rw[h,lZ];omega
 rw[eW]at h2;simpa using h2
theorem Mi{r:Rl}{i k:Int}(hk:k=pts r):Fj r true i k=true↔bQ r i=below (pts r):=by
 subst hk
 rw[Fj,iS]
 constructor
 .intro h
  refine rq fun j=> ?_
  rw[gV,dI,lZ]
  constructor
  .intro h1;have:=kH h1;have:=dA r;omega
  intro h1;simpa using h j (cK.2 J)
 intro h x hx
 have h1:=cK.1 hx
 have hp:=dA r
 have h2:hasB (bQ r i) x=true:=by rw[h,lZ];omega
 rw[dI]at h2;simpa using h2
theorem agK{r:Rl}{t:Bool}{i k:Int}(i0:0<=i)(i1:i<pts r)(hk:k=pts r)(h:Fj r t i k=true)(hg:∀x:Int,0<=x->x<i->Fj r t x (pts r)=false):wI r (if t=true then bQ r else gx r)=(i,true):=by grind[aba,Mi,zX]
theorem agL{r:Rl}{t:Bool}{i:Int}(i1:¬i<pts r)(hg:∀x:Int,0<=x->x<i->Fj r t x (pts r)=false):wI r (if t=true then bQ r else gx r)=(0,false):=by grind[agI,Mi,zX]
def aMe:Rl:=⟨5,fun i=>[31#64,18#64,20#64,24#64,16#64].getD i 0#64⟩
theorem PE(g:Int->BitVec 64)(n i j:Int):A7 g n i j=A7 g n j i:=by
 rw[A7,A7]
 congr 1
 funext u
 rw[ot,ot,BitVec.and_comm]
theorem join_comm(r:Rl)(i j:Int):jh r i j=jh r j i:=PE _ _ _ _
theorem meet_comm(r:Rl)(i j:Int):q7 r i j=q7 r j i:=PE _ _ _ _
theorem jt{r:Rl}(h:th r=true):(1<=r.n/\r.n<=64)/\gq r=true/\pts r=r.n/\∀i j:Int,0<=j->j<i->i<r.n->uH r i j=true:=by
 rw[th,cL,cL,eE,iS]at h
 refine⟨h.1.1,h.1.2,by unfold pts;omega,fun i j h1 h2 h3=> ?_⟩
 have h4:=h.2 i (cK.2 ⟨J,h3⟩)
 rw[iS]at h4
 exact h4 j (cK.2 ⟨h1,h2⟩)
structure IsJ(r:Rl)(i j k:Int):Prop where
 a:bK r i k=true
 b:bK r j k=true
 l:∀v:Int,bK r i v=true->bK r j v=true->bK r k v=true
structure IsM(r:Rl)(i j k:Int):Prop where
 a:bK r k i=true
 b:bK r k j=true
 g:∀v:Int,bK r v i=true->bK r v j=true->bK r v k=true
theorem UB{r:Rl}{i j k:Int}:ot (gx r) i j k=true↔IsJ r i j k:=by
 rw[ot,fx,eW,eW,cL,cL,eV]
 constructor
 .rintro⟨⟨h1,h2⟩,h3⟩
  refine⟨h1,h2,fun v h4 h5=> ?_⟩
  have:=h3 v
  rw[fx,eW,eW,eW,cL]at this
  exact this ⟨h4,h5⟩
 rintro⟨h1,h2,h3⟩
 refine⟨⟨h1,h2⟩,fun v hv=> ?_⟩
 rw[fx,eW,eW,cL]at hv
 rw[eW];exact h3 v hv.1 hv.2
theorem UC{r:Rl}{i j k:Int}:ot (bQ r) i j k=true↔IsM r i j k:=by
 rw[ot,fx,dI,dI,cL,cL,eV]
 constructor
 .rintro⟨⟨h1,h2⟩,h3⟩
  refine⟨h1,h2,fun v h4 h5=> ?_⟩
  have:=h3 v
  rw[fx,dI,dI,dI,cL]at this
  exact this ⟨h4,h5⟩
 rintro⟨h1,h2,h3⟩
 refine⟨⟨h1,h2⟩,fun v hv=> ?_⟩
 rw[fx,dI,dI,cL]at hv
 rw[dI];exact h3 v hv.1 hv.2
theorem yG{r:Rl}(h:gq r=true){i:Int}(hi:0<=i/\i<pts r):bK r i i=true:=by grind[sF,vD,yF]
theorem KF{r:Rl}(h:th r=true){i j:Int}(hi:0<=i/\i<r.n)(hj:0<=j/\j<r.n):(jh r i j).2=true/\IsJ r i j (jh r i j).1:=by
 obtain⟨hn,ho,hp,hb⟩:=jt h
 rcases oq (ot (gx r) i j) (pts r)with⟨k,k0,k1,k2,-,k3⟩|⟨h1,h2⟩
 .have h3:jh r i j=(k,true):=k3
  rw[h3];exact⟨rfl,UB.1 k2⟩
 have h3:jh r i j=(0,false):=h2
 exfalso
 rcases XU i j with hl|hl|hl
 .have:=hb j i hi.1 hl hj.2
  rw[uH,cL,join_comm,h3]at this;cases this.1
 .subst hl
  have h4:=h1 i hi.1 J
  have h5:=yG ho (show 0<=i/\i<pts r by omega)
  rw[UB.2 ⟨h5,h5,fun v hv _=>hv⟩]at h4;cases h4
 have:=hb i j hj.1 hl hi.2
 rw[uH,cL,h3]at this;cases this.1
theorem KG{r:Rl}(h:th r=true){i j:Int}(hi:0<=i/\i<r.n)(hj:0<=j/\j<r.n):(q7 r i j).2=true/\IsM r i j (q7 r i j).1:=by
 obtain⟨hn,ho,hp,hb⟩:=jt h
 rcases oq (ot (bQ r) i j) (pts r)with⟨k,k0,k1,k2,-,k3⟩|⟨h1,h2⟩
 .have h3:q7 r i j=(k,true):=k3
  rw[h3];exact⟨rfl,UC.1 k2⟩
 have h3:q7 r i j=(0,false):=h2
 exfalso
 rcases XU i j with hl|hl|hl
 .have:=hb j i hi.1 hl hj.2
  rw[uH,cL,meet_comm,h3]at this;cases this.2
 .subst hl
  have h4:=h1 i hi.1 J
  have h5:=yG ho (show 0<=i/\i<pts r by omega)
  rw[UC.2 ⟨h5,h5,fun v hv _=>hv⟩]at h4;cases h4
 have:=hb i j hj.1 hl hi.2
 rw[uH,cL,h3]at this;cases this.2
section aC5
variable{r:Rl}(h:th r=true){a b c:Int}(ha:0<=a/\a<r.n)(hb:0<=b/\b<r.n)(hc:0<=c/\c<r.n)
include h ha hb
theorem abb:0<=(jh r a b).1/\(jh r a b).1<r.n:=by
 have:=(kH (KF h ha hb).2.a).2
 rw[(jt h).2.2.1]at this;exact this
theorem ao1:0<=(q7 r a b).1/\(q7 r a b).1<r.n:=by
 have:=(kH (KG h ha hb).2.a).1
 rw[(jt h).2.2.1]at this;exact this
theorem adr:bQ r (q7 r a b).1=bQ r a&&&bQ r b:=rq fun j=>by
 have ho:=(jt h).2.1
 have hm:=(KG h ha hb).2
 rw[fx,dI,dI,dI,gV,cL]
 exact⟨fun h1=>⟨s8 ho h1 hm.a,s8 ho h1 hm.b⟩,fun h1=>hm.g j h1.1 h1.2⟩
include hc
end aC5
theorem ame{r:Rl}(h:th r=true){a b:Int}(ha:0<=a/\a<r.n)(hb:0<=b/\b<r.n):(bK r a b==eu (bQ r a) (bQ r b))=true:=by
 have ho:=(jt h).2.1
 rw[Cc,gV,eV]
 constructor
 .intro h1 j hj
  rw[dI]at hj⊢;exact s8 ho hj h1
 intro h1
 have:=h1 a
 rw[dI,dI]at this
 exact this (yG ho (by rw[(jt h).2.2.1];exact ha))
theorem amf{r:Rl}(h:th r=true):∃m:Int,(0<=m/\m<r.n)/\∀x:Int,0<=x->x<r.n->bK r m x=true:=by
 have hs:=jt h
 have key:∀k:Nat,(k:Int)<r.n->∃m:Int,(0<=m/\m<r.n)/\∀x:Int,0<=x->x<=k->bK r m x=true:=fun k=>by
  induction k with
  |zero=>exact fun hk=>⟨0,J,fun x h1 h2=>by rw[show x=0 by omega];exact yG hs.2.1 J⟩
  |succ k ih=>
   intro hk
   obtain⟨m,h1,h2⟩:=ih J
   have hm:=(KG h h1 (show 0<=((k+1:Nat):Int)/\((k+1:Nat):Int)<r.n by omega)).2
   refine⟨_,ao1 h h1 (show 0<=((k+1:Nat):Int)/\((k+1:Nat):Int)<r.n by omega),fun x h3 h4=> ?_⟩
   by_cases he:x=((k+1:Nat):Int)
   .rw[he];exact hm.b
   exact s8 hs.2.1 hm.a (h2 x h3 J)
 obtain⟨m,h1,h2⟩:=key (r.n-1).toNat J
 exact⟨m,h1,fun x h3 h4=>h2 x h3 J⟩
theorem amg{r:Rl}(h:th r=true):(wI r (gx r)).2=true/\(0<=(wI r (gx r)).1/\(wI r (gx r)).1<r.n)/\∀x:Int,0<=x->x<r.n->bK r (wI r (gx r)).1 x=true:=by
 have hs:=jt h
 rcases oq (fun i=>decide (gx r i=below (pts r))) (pts r)with⟨k,k0,k1,k2,-,k3⟩|⟨h1,-⟩
 .have h3:wI r (gx r)=(k,true):=k3
  rw[h3]
  refine⟨rfl,by rw[hs.2.2.1]at k1;exact⟨k0,k1⟩,fun x h4 h5=> ?_⟩
  have:=(zX (r:=r) (i:=k) O).2 (Li k2)
  rw[Fj,iS]at this
  simpa using this x (cK.2 J)
 obtain⟨m,hm,hx⟩:=amf h
 have h4:=h1 m hm.1 J
 rw[wW]at h4
 exact absurd ((zX (r:=r) (i:=m) O).1 (by
  rw[Fj,iS]
  intro x hx2
  have:=cK.1 hx2
  simpa using hx x this.1 J)) h4
theorem word_inj{r:Rl}(ho:gq r=true){a b:Int}(ha:0<=a/\a<pts r)(hb:0<=b/\b<pts r)(e:bQ r a=bQ r b):a=b:=by
 have h1:hasB (bQ r b) a=true:=by rw[<-e,dI];exact yG ho ha
 have h2:hasB (bQ r a) b=true:=by rw[e,dI];exact yG ho hb
 rw[dI]at h1 h2
 exact(vD ho).2 _ _ h1 h2
theorem vG{r:Rl}(ho:gq r=true){a:Int}(ha:0<=a/\a<pts r):eY r (bQ r a)=(a,true):=by grind[DE,word_inj]
theorem ads{r:Rl}(h:th r=true){a b:Int}(ha:0<=a/\a<r.n)(hb:0<=b/\b<r.n):js r (bQ r a) (bQ r b)=bQ r (jh r a b).1:=by grind[Rl,th,js,bQ,jh,jt,vG,pts,Iq,KF]
def cV(r:Rl):Bool:=decide (1<=r.n/\r.n<=8)&&decide ((eI r).eq (jq r))
theorem eZ{r:Rl}(h:cV r=true):(1<=r.n/\r.n<=8)/\pts r=r.n/\(eI r).eq (jq r):=by grind[cV,pts]
theorem Iu{r:Rl}(h:cV r=true){i:Int}(hi:0<=i/\i<r.n):bK r i i=true:=by simp_all[eZ,sF,yF]
theorem KH{r:Rl}(h:cV r=true){i j k:Int}(h1:bK r i j=true)(h2:bK r j k=true):bK r i k=true:=by grind[Rl,cV,bK,eZ,sF,nn]
theorem Bw{r:Rl}(h:cV r=true){i j:Int}(h1:bK r i j=true):(0<=i/\i<r.n)/\(0<=j/\j<r.n):=by
 have:=kH h1
 rw[(eZ h).2.1]at this;exact this
theorem PF(r:Rl)(s:BitVec 64)(j:Int):hasB (Ek r s) j=true↔∃i:Int,hasB s i=true/\bK r j i=true:=by
 have hp:=dA r
 rw[kY,L8]
 constructor
 .rintro⟨h1,i,h2,h3⟩;rw[gk h1.1]at h3;exact⟨i,h2,h3⟩
 rintro⟨i,h2,h3⟩
 have hb:=kH h3
 exact⟨J,i,h2,by rw[gk hb.1.1];exact h3⟩
def Jx(r:Rl)(w:BitVec 64)(o:Int):BitVec 64:=(w>>>(BitVec.ofInt 64 (8*o)).toNat)&&&below r.n
theorem UD{r:Rl}{w:BitVec 64}{o:Int}(ho:0<=o/\o<8)(hn:r.n<=8)(x:Int):hasB (Jx r w o) x=true↔(0<=x/\x<r.n)/\hasB w (8*o+x)=true:=by grind[Jx,fx,lZ,kY,om]
def xe(f:Int->BitVec 64)(k:Int):BitVec 64:=(upto k).foldl (fun a o=>a|||(f o<<<(BitVec.ofInt 64 (8*o)).toNat)) 0#64
theorem Iv{f:Int->BitVec 64}{k:Int}(h0:0<=k):xe f k|||(f k<<<(BitVec.ofInt 64 (8*k)).toNat)=xe f (k+1):=by grind[xe,iY]
theorem amh{a:BitVec 64}{o:Int}(ho:0<=o/\o<8)(z:Int):hasB (a<<<(BitVec.ofInt 64 (8*o)).toNat) z=true↔(0<=z/\z<64)/\hasB a (z-8*o)=true:=by grind[kY,om]
theorem UE{f:Int->BitVec 64}(z:Int):∀k:Nat,k<=8->(hasB (xe f k) z=true↔∃o:Int,(0<=o/\o<k)/\(0<=z/\z<64)/\hasB (f o) (z-8*o)=true)
 |0,_=>by
  rw[show xe f ((0:Nat):Int)=0#64 from O,vE]
  constructor
  .intro h;cases h
  rintro⟨o,h,-⟩;omega
 |k+1,hk=>by
  have e:xe f ((k+1:Nat):Int)=xe f (k:Int)|||(f k<<<(BitVec.ofInt 64 (8*(k:Int))).toNat):=(Iv (k:=(k:Int)) J).symm
  rw[e,KA,p8,UE z k J,amh J]
  constructor
  .rintro(⟨o,h1,h2⟩|⟨h1,h2⟩)
   .exact⟨o,J,h2⟩
   exact⟨k,J,h1,h2⟩
  rintro⟨o,h1,h2,h3⟩
  by_cases he:o=k
  .subst he;exact .inr ⟨h2,h3⟩
  exact .inl ⟨o,J,h2,h3⟩
theorem UF{f:Int->BitVec 64}{n:Int}(hn:0<=n/\n<=8)(hf:∀o y:Int,0<=o->o<n->hasB (f o) y=true->y<8)(z:Int):hasB (xe f n) z=true↔∃o y:Int,(0<=o/\o<n)/\hasB (f o) y=true/\z=8*o+y:=by
 have h:=UE (f:=f) z n.toNat J
 rw[gk hn.1]at h
 rw[h]
 constructor
 .rintro⟨o,h1,h2,h3⟩;exact⟨o,z-8*o,h1,h3,J⟩
 rintro⟨o,y,h1,h2,h3⟩
 have:=uP h2
 have:=hf o y h1.1 h1.2 h2
 exact⟨o,h1,J,by rw[show z-8*o=y by omega];exact h2⟩
def Iw(r:Rl)(w:BitVec 64)(o:Int):BitVec 64:=wZ (fun p=>Ek r (Jx r w p)) (gK (gx r o))
def gh(r:Rl)(w:BitVec 64):BitVec 64:=if cV r then xe (Iw r w) r.n else 0#64
theorem Fk{r:Rl}(h:cV r=true)(w:BitVec 64)(o x:Int):hasB (Iw r w o) x=true↔∃p y:Int,bK r o p=true/\bK r x y=true/\hasB w (8*p+y)=true:=by
 have hs:=eZ h
 rw[Iw,Me]
 constructor
 .rintro⟨p,hp,h1⟩
  rw[fC,eW]at hp
  have hb:=Bw h hp
  rw[PF]at h1
  obtain⟨y,h2,h3⟩:=h1
  rw[UD J hs.1.2]at h2
  exact⟨p,y,hp,h3,h2.2⟩
 rintro⟨p,y,h1,h2,h3⟩
 have hb:=Bw h h1
 refine⟨p,by rw[fC,eW];exact h1,?_⟩
 rw[PF]
 exact⟨y,(UD J hs.1.2 y).2 ⟨(Bw h h2).2,h3⟩,h2⟩
theorem jF{r:Rl}(h:cV r=true)(w:BitVec 64)(z:Int):hasB (gh r w) z=true↔∃o x p y:Int,z=8*o+x/\bK r o p=true/\bK r x y=true/\hasB w (8*p+y)=true:=by
 have hs:=eZ h
 rw[gh,aX h,UF J (fun o y _ _ hy=>by
  obtain⟨p,q,-,h2,-⟩:=(Fk h w o y).1 hy
  have:=Bw h h2;omega)]
 constructor
 .rintro⟨o,x,h1,h2,h3⟩
  obtain⟨p,y,h4⟩:=(Fk h w o x).1 h2
  exact⟨o,x,p,y,h3,h4⟩
 rintro⟨o,x,p,y,h3,h4⟩
 exact⟨o,x,(Bw h h4.1).1,(Fk h w o x).2 ⟨p,y,h4⟩,h3⟩
theorem UG{r:Rl}{w:BitVec 64}(h:cV r=false):gh r w=0#64:=by rw[gh,h];rfl
theorem adt{r:Rl}{w:BitVec 64}(h:cV r=true):xe (Iw r w) r.n=gh r w:=by rw[gh,h];rfl
def Gk(r:Rl)(w:BitVec 64)(o x:Int):Bool:=decide (0<=o/\0<=x/\o<r.n/\x<r.n)&&hasB w (8*o+x)
theorem DF{r:Rl}{w:BitVec 64}{o x:Int}:Gk r w o x=true↔(0<=o/\0<=x/\o<r.n/\x<r.n)/\hasB w (8*o+x)=true:=by grind[Gk]
def Sf(r:Rl)(w:BitVec 64)(o x:Int):Bool:=(upto r.n).any fun p=>(upto r.n).any fun y=>Gk r w p y&&bK r o p&&bK r x y
theorem KI{r:Rl}{w:BitVec 64}{o x:Int}:Sf r w o x=true↔∃p y:Int,Gk r w p y=true/\bK r o p=true/\bK r x y=true:=by
 rw[Sf,EW]
 constructor
 .rintro⟨p,-,h⟩
  rw[EW]at h
  obtain⟨y,-,h⟩:=h
  rw[cL,cL]at h
  exact⟨p,y,h.1.1,h.1.2,h.2⟩
 rintro⟨p,y,h1,h2,h3⟩
 have hb:=(DF.1 h1).1
 refine⟨p,cK.2 J,?_⟩
 rw[EW]
 exact⟨y,cK.2 J,by rw[h1,h2,h3];rfl⟩
theorem agM{r:Rl}{w:BitVec 64}{o x k:Int}(hk:¬k<r.n)(hf:∀p y:Int,0<=p->p<k->¬(Gk r w p y=true/\bK r o p=true/\bK r x y=true)):Sf r w o x=false:=by grind[Sf,KI,DF]
def Fl(r:Rl)(w:BitVec 64)(o k:Int):List Int:=((upto k).filter (Sf r w o ·)).map (8*o+·)
def Cw(r:Rl)(w:BitVec 64)(k:Int):List Int:=(upto k).flatMap fun o=>Fl r w o r.n
theorem agN{r:Rl}{w:BitVec 64}{o k:Int}(h0:0<=k)(h:Sf r w o k=true):Fl r w o k++[8*o+k]=Fl r w o (k+1):=by grind[Fl,iY]
theorem ami{r:Rl}{w:BitVec 64}{o k:Int}(h0:0<=k)(h:Sf r w o k=false):Fl r w o k=Fl r w o (k+1):=by grind[Fl,iY]
theorem UH{r:Rl}{w:BitVec 64}{k x:Int}(h0:0<=k)(hx:x=r.n):Cw r w k++Fl r w k x=Cw r w (k+1):=by grind[Cw,iY]
theorem Mj{r:Rl}{w:BitVec 64}{o k:Int}:(Fl r w o k).length<=k.toNat:=by grind[Fl,m6]
theorem Sg{f:Int->List Int}{m:Nat}(h:∀o,(f o).length<=m):∀l:List Int,(l.flatMap f).length<=l.length*m
 |[]=>by simp
 |o::l=>by
  have:=Sg h l
  have:=h o
  rw[uF,dZ,fq,lm];omega
theorem Ml{r:Rl}{w:BitVec 64}{k:Int}(hn:r.n<=8)(hk:k<=8):(Cw r w k).length<=64:=by
 have h:=Sg (f:=fun o=>Fl r w o r.n) (m:=8) (fun o=>kX Mj J) (upto k)
 rw[m6]at h
 have:k.toNat*8<=64:=J
 exact kX h this
theorem UI{r:Rl}{w:BitVec 64}{o k z:Int}:z∈Fl r w o k↔∃x:Int,(0<=x/\x<k)/\Sf r w o x=true/\z=8*o+x:=by
 rw[Fl,fZ]
 constructor
 .rintro⟨x,hx,rfl⟩
  rw[xP,cK]at hx
  exact⟨x,hx.1,hx.2,rfl⟩
 rintro⟨x,h1,h2,rfl⟩
 exact⟨x,xP.2 ⟨cK.2 h1,h2⟩,rfl⟩
theorem adu{r:Rl}{w:BitVec 64}{k:Int}(h:cV r=true)(hk:k=r.n):kT (Cw r w k)=gh r w:=rq fun z=>by
 subst hk
 have hs:=eZ h
 rw[gV,Mh,jF h,Cw,List.mem_flatMap]
 constructor
 .rintro⟨h1,o,ho,hz⟩
  rw[UI]at hz
  obtain⟨x,hx,hf,rfl⟩:=hz
  obtain⟨p,y,h2,h3,h4⟩:=KI.1 hf
  exact⟨o,x,p,y,rfl,h3,h4,(DF.1 h2).2⟩
 rintro⟨o,x,p,y,rfl,h2,h3,h4⟩
 have b1:=Bw h h2;have b2:=Bw h h3
 refine⟨J,o,cK.2 b1.1,?_⟩
 rw[UI]
 exact⟨x,b2.1,KI.2 ⟨p,y,DF.2 ⟨J,h4⟩,h2,h3⟩,rfl⟩
def pZ(r:Rl)(w:BitVec 64):Bool:=cV r&&decide (gh r w=w)
def aJd(r:Rl)(s:BitVec 64)(x k:Int):Bool:=(upto k).any fun y=>hasB s y&&bK r y x
def aJe(r:Rl)(s:BitVec 64)(o k:Int):List Int:=((upto k).filter fun x=> !hasB (upR r s) x).map (8*o+·)
def aC6(o:Int)(s:BitVec 64):Int->BitVec 64:=fun x=>if x=o then s else 0#64
def ao2(r:Rl)(o:Int):Bool:=cV r&&decide (0<=o/\o<r.n)
def awl(r:Rl)(o:Int)(s:BitVec 64):BitVec 64:=if ao2 r o then gh r (xe (aC6 o (below r.n&&& ~~~upR r s)) r.n)else 0#64
def agO(r:Rl)(w:BitVec 64)(o:Int):BitVec 64:=if ao2 r o then below r.n&&& ~~~Jx r w o else 0#64
def aJf(r:Rl)(w:BitVec 64)(o k:Int):List Int:=(upto k).filter fun x=> !Gk r w o x
def aC7(r:Rl)(w:BitVec 64)(k:Int):List Int:=(upto k).filter fun o=>decide (Jx r w o≠0#64)
def Si(r:Rl)(w:BitVec 64):BitVec 64:=if cV r then kT (aC7 r w r.n)else 0#64
def JW(r:Rl):BitVec 64:=if cV r then xe (fun _=>below r.n) r.n else 0#64
theorem arq{r:Rl}(h:cV r=false):JW r=0#64:=by rw[JW,h];rfl
theorem Sj{r:Rl}(h:cV r=true)(z:Int):hasB (JW r) z=true↔∃o x:Int,(0<=o/\o<r.n)/\(0<=x/\x<r.n)/\z=8*o+x:=by
 have hs:=eZ h
 rw[JW,aX h,UF J fun o y _ _ hy=>by rw[lZ]at hy;omega]
 constructor
 .rintro⟨o,x,h1,h2,h3⟩
  rw[lZ]at h2
  exact⟨o,x,h1,J,h3⟩
 rintro⟨o,x,h1,h2,h3⟩
 exact⟨o,x,h1,(lZ _ _).2 J,h3⟩
def UJ(r:Rl)(k:Int):List Int:=(upto k).flatMap fun o=>(upto r.n).map (8*o+·)
theorem adv{r:Rl}{k x:Int}(h0:0<=k)(hx:x=r.n):UJ r k++(upto x).map (8*k+·)=UJ r (k+1):=by grind[UJ,iY]
theorem adw{o x:Int}(h0:0<=x):(upto x).map (8*o+·)++[8*o+x]=(upto (x+1)).map (8*o+·):=by grind[iY]
theorem UK{r:Rl}{k:Int}(hn:r.n<=8)(hk:k<=8):(UJ r k).length<=64:=by
 have h:=Sg (f:=fun o=>(upto r.n).map (8*o+·)) (m:=8) (fun o=>by rw[gF,m6];omega) (upto k)
 rw[m6]at h
 have:k.toNat*8<=64:=J
 exact kX h this
theorem amj{r:Rl}{k:Int}(h:cV r=true)(hk:k=r.n):kT (UJ r k)=JW r:=rq fun z=>by
 subst hk
 have hs:=eZ h
 rw[gV,Mh,Sj h,UJ,List.mem_flatMap]
 constructor
 .rintro⟨h1,o,ho,hz⟩
  rw[fZ]at hz
  obtain⟨x,hx,rfl⟩:=hz
  exact⟨o,x,cK.1 ho,cK.1 hx,rfl⟩
 rintro⟨o,x,h1,h2,rfl⟩
 exact⟨J,o,cK.2 h1,fZ.2 ⟨x,cK.2 h2,rfl⟩⟩
def KJ(r:Rl):Int:=if cV r then A6 r (pts r)*A6 r (pts r)else 0
theorem Mm{r:Rl}(h:cV r=true):A6 r (pts r)*A6 r (pts r)=KJ r:=by rw[KJ,h];rfl
theorem agP{r:Rl}(h:cV r=true)(v:BitVec 64):eu (v&&&JW r) (gh r v)=true:=eV.2 fun z hz=>by
 rw[fx,cL,Sj h]at hz
 obtain⟨h1,o,x,h2,h3,rfl⟩:=hz
 exact(jF h v _).2 ⟨o,x,o,x,rfl,Iu h h2,Iu h h3,h1⟩
theorem YK{r:Rl}(h:cV r=true)(v:BitVec 64):eu (gh r v) (JW r)=true:=eV.2 fun z hz=>by
 obtain⟨o,x,p,y,rfl,h1,h2,-⟩:=(jF h v z).1 hz
 exact(Sj h _).2 ⟨o,x,(Bw h h1).1,(Bw h h2).1,rfl⟩
theorem aC8{o x p y:Int}(hx:0<=x/\x<8)(hy:0<=y/\y<8)(h:8*o+x=8*p+y):o=p/\x=y:=J
theorem Sk{r:Rl}(h:cV r=true)(v:BitVec 64):gh r (gh r v)=gh r v:=rq fun z=>by
 have hs:=eZ h
 rw[gV,jF h,jF h]
 constructor
 .rintro⟨o,x,p,y,rfl,h1,h2,h3⟩
  obtain⟨p',y',q,t,e,h4,h5,h6⟩:=(jF h v _).1 h3
  have b1:=Bw h h1;have b2:=Bw h h2;have b3:=Bw h h4;have b4:=Bw h h5
  obtain⟨rfl,rfl⟩:=aC8 J J e
  exact⟨o,x,q,t,rfl,KH h h1 h4,KH h h2 h5,h6⟩
 rintro⟨o,x,p,y,rfl,h1,h2,h3⟩
 have b1:=Bw h h1;have b2:=Bw h h2
 exact⟨o,x,o,x,rfl,Iu h b1.1,Iu h b2.1,(jF h v _).2 ⟨o,x,p,y,rfl,h1,h2,h3⟩⟩
theorem Mn{r:Rl}(h:cV r=true){v w:BitVec 64}(hv:eu v w=true):eu (gh r v) (gh r w)=true:=by grind[eV,jF]
theorem Ix{r:Rl}(h:cV r=true){w:BitVec 64}(e:gh r w=w):pZ r w=true:=by grind[pZ]
theorem awm{r:Rl}(h:cV r=true)(v w:BitVec 64):pZ r (gh r v|||gh r w)=true:=Ix h (rq fun z=>by
 rw[gV]
 constructor
 .intro hz
  obtain⟨o,x,p,y,e,h1,h2,h3⟩:=(jF h _ z).1 hz
  rw[KA,p8]at h3⊢
  rcases h3 with h3|h3
  .left;rw[<-Sk h v];exact(jF h _ z).2 ⟨o,x,p,y,e,h1,h2,h3⟩
  right;rw[<-Sk h w];exact(jF h _ z).2 ⟨o,x,p,y,e,h1,h2,h3⟩
 intro hz
 have h1:hasB (JW r) z=true:=by
  rw[KA,p8]at hz
  rcases hz with hz|hz
  .exact eV.1 (YK h v) z hz
  exact eV.1 (YK h w) z hz
 exact eV.1 (agP h _) z (by rw[fx,hz,h1];rfl))
theorem ars{r:Rl}(h:cV r=true)(v w:BitVec 64):pZ r (gh r v&&&gh r w)=true:=Ix h (rq fun z=>by
 rw[gV]
 constructor
 .intro hz
  have h1:=eV.1 (Mn h (Gg (gh r v) (gh r w))) z hz
  have h2:=eV.1 (Mn h (v:=gh r v&&&gh r w) (w:=gh r w) (by rw[BitVec.and_comm];exact Gg _ _)) z hz
  rw[Sk h]at h1 h2
  rw[fx,h1,h2];rfl
 intro hz
 have h1:hasB (JW r) z=true:=by
  have hz2:=hz
  rw[fx,cL]at hz2
  exact eV.1 (YK h v) z hz2.1
 exact eV.1 (agP h _) z (by rw[fx (gh r v&&&gh r w),hz,h1];rfl))
def aC9(r:Rl)(i:Int):BitVec 64:=gh r (kT [i])
def Mo(r:Rl)(p:Int):Bool:=decide (0<=p/\p<r.n)&&Uw (jq r) p p
theorem Mp{r:Rl}(h:cV r=true)(p:Int):Mo r p=true↔(0<=p/\p<r.n)/\∀x:Int,0<=x->x<p->¬(bK r p x=true/\bK r x p=true):=by grind[Rl,cV,Mo,bK,eZ,Uw,cK,sF]
theorem YL{r:Rl}(h:cV r=true):∀(n:Nat) (p:Int),p<=n->0<=p->p<r.n->∃q:Int,q<=p/\Mo r q=true/\bK r p q=true/\bK r q p=true
 |n,p,hn,h0,h1=>by
  cases hc:Mo r p with
  |true=>exact⟨p,lW _,hc,Iu h ⟨h0,h1⟩,Iu h ⟨h0,h1⟩⟩
  |false=>
   have hex:∃x:Int,0<=x/\x<p/\bK r p x=true/\bK r x p=true:=Hz fun hno=>by
    have:Mo r p=true:=(Mp h p).2 ⟨⟨h0,h1⟩,fun x x0 x1 hx=>hno ⟨x,x0,x1,hx⟩⟩
    rw[hc]at this;cases this
   obtain⟨x,x0,x1,x2,x3⟩:=hex
   cases n with
   |zero=>omega
   |succ n=>
    obtain⟨q,q1,q2,q3,q4⟩:=YL h n x J x0 J
    exact⟨q,J,q2,KH h x2 q3,KH h q4 x3⟩
def Mq(r:Rl)(i:Int):Bool:=Mo r (i/8)&&Mo r (i%8)
def art(r:Rl)(k:Int):List (BitVec 64):=((upto k).filter (Mq r)).map (aC9 r)
def aMf(c:BitVec 64)(l:List (BitVec 64))(j:Int):Bool:=decide (c=0#64)||(l.take j.toNat).any fun w=>decide (w=c)
theorem agQ{r:Rl}(h:cV r=true){o p:Int}(hp:hasB (gx r o) p=true):0<=p/\p<8:=by
 have hs:=eZ h
 rw[eW]at hp
 have:=Bw h hp;omega
def aDa:Rl:=⟨2,fun i=>[3#64,2#64].getD i 0#64⟩
theorem agR(A:Int->Bool):((upto 64).filter fun i=>A (i/8)&&A (i%8)).length=((upto 8).filter A).length*((upto 8).filter A).length:=by
 have e:upto 64=(upto 8).flatMap fun p=>(upto 8).map (8*p+·):=by decide+kernel
 have key:∀l:List Int,((l.flatMap fun p=>(upto 8).map (8*p+·)).filter fun i=>A (i/8)&&A (i%8)).length=(l.filter A).length*((upto 8).filter A).length:=fun l=>by
  induction l with
  |nil=>simp
  |cons p l ih=>
   rw[uF,Rh,dZ,ih]
   have h1:(((upto 8).map (8*p+·)).filter fun i=>A (i/8)&&A (i%8))=((upto 8).filter fun y=>A p&&A y).map (8*p+·):=by
    rw[List.filter_map]
    congr 1
    refine List.filter_congr fun y hy=> ?_
    have:=cK.1 hy
    simp only[Function.comp]
    rw[show(8*p+y)/8=p by omega,show(8*p+y)%8=y by omega]
   rw[h1,gF]
   cases hp:A p with
   |true=>
    rw[xJ hp,fq,lm]
    simp only[mG]
    show((upto 8).filter A).length+_=_
    omega
   |false=>simp[hp]
 rw[e,key]
theorem adx{r:Rl}(h:cV r=true){k:Int}(hk:k=64):((art r k).length:Int)=KJ r:=by
 subst hk
 have hs:=eZ h
 have h1:(upto 8).filter (Mo r)=(upto (pts r)).filter fun i=>Uw (jq r) i i:=by
  refine zR ((xd _).filter _) ((xd _).filter _) fun x=> ?_
  rw[xP,xP,cK,cK,Mo,cL,eE,hs.2.1]
  constructor
  .rintro⟨h2,h3,h4⟩;exact⟨h3,h4⟩
  rintro⟨h2,h3⟩;exact⟨J,h2,h3⟩
 rw[<-Mm h,art,gF,show Mq r=fun i=>Mo r (i/8)&&Mo r (i%8)from O,agR,h1,A6]
 push_cast;rfl
abbrev Tx:=ByteArray
def sB(s:Tx)(i:Int):Int:=((s.data.toList.getD i.toNat 0).toNat:Int)
def jD(c:Int):Bool:=decide (97<=c/\c<=122)
def uG(c:Int):Bool:=decide ((97<=c/\c<=122)\/(48<=c/\c<=57)\/c=95)
def iQ(s:Tx):Bool:=decide (1<=s.size/\s.size<=16)&&jD (sB s 0)&&(upto s.size).all fun i=>uG (sB s i)
theorem DG{s:Tx}(h:¬(1<=s.size/\s.size<=16)):iQ s=false:=by grind[iQ]
theorem PG{s:Tx}(h:jD (sB s 0)=false):iQ s=false:=by rw[iQ,h];simp
theorem Iy{s:Tx}{i:Int}(i0:0<=i)(i1:i<s.size)(h:uG (sB s i)=false):iQ s=false:=by grind[iQ,cK]
theorem PI{s:Tx}{k:Int}(h1:1<=s.size/\s.size<=16)(h2:jD (sB s 0)=true)(hk:¬k<s.size)(hf:∀j:Int,0<=j->j<k->uG (sB s j)=true):iQ s=true:=by grind[iQ,cK]
theorem Cx{c:Int}(h:jD c=true):uG c=true:=by grind[jD,uG]
def tj(P:Int->Bool)(n:Int):Int:=if(vF P n).2 then(vF P n).1 else-1
theorem vH{P:Int->Bool}{n k:Int}(h0:0<=k)(hk:k<n)(hp:P k=true)(hf:∀j:Int,0<=j->j<k->P j=false):tj P n=k:=by
 rw[tj,qu h0 hk hp hf];rfl
theorem Gl{P:Int->Bool}{n:Int}(hf:∀j:Int,0<=j->j<n->P j=false):tj P n= -1:=by
 rw[tj,tg hf];rfl
theorem YM(P:Int->Bool)(n:Int):(∃k:Int,0<=k/\k<n/\P k=true/\(∀j:Int,0<=j->j<k->P j=false)/\tj P n=k)\/((∀j:Int,0<=j->j<n->P j=false)/\tj P n= -1):=by grind[tj,oq,vH,Gl]
abbrev qe:Tx:=⟨#[]⟩
def ry(l:List Tx)(s:Tx):Int:=tj (fun i=>decide (l.getD i.toNat qe=s)) l.length
theorem fD{α:Type}{l:List α}{d:α}{i:Int}(h0:0<=i)(h:i<l.length):l[i.toNat]?=some (l.getD i.toNat d):=by grind
theorem getD_take{α:Type}{l:List α}{d:α}{i k:Int}(h0:0<=i)(h:i<k):(l.take k.toNat).getD i.toNat d=l.getD i.toNat d:=by grind
def yH(l:List Tx):Int:=tj (fun i=>decide (ry l (l.getD i.toNat qe)<i)) l.length
theorem agS{l:List Tx}{i:Int}(i0:0<=i)(i1:i<l.length):decide (ry (l.take i.toNat) (l.getD i.toNat qe)>=0)=decide (ry l (l.getD i.toNat qe)<i):=by
 rw[gV,eE,eE]
 have hl:((l.take i.toNat).length:Int)=i:=by rw[er];omega
 rw[ry,hl]
 rcases YM (fun j=>decide ((l.take i.toNat).getD j.toNat qe=l.getD i.toNat qe)) i with⟨k,k0,k1,k2,k3,e⟩|⟨h,e⟩
 .rw[e]
  have h1:ry l (l.getD i.toNat qe)=k:=vH k0 J (by rw[<-k2,getD_take k0 k1]) fun j a b=>by
   rw[<-k3 j a b,getD_take a J]
  rw[h1];omega
 rw[e]
 have h1:ry l (l.getD i.toNat qe)=i:=vH i0 i1 aJ fun j a b=>by
  rw[<-h j a b,getD_take a b]
 rw[h1];omega
def aJg(a b:List Tx):Bool:=decide (a=b)
end Go.Proofs.YtlhjdflgjbkpmaaGreatDoor.M
namespace Go.Proofs.YtlhjdflgjbkpmaaGreatDoor.E
section
open Go Go.RowKit Go.Proofs.YtlhjdflgjbkpmaaGreatDoor.M
abbrev S(s:Tx):Value:= .string s
abbrev Jy(l:List Tx):List Value:=l.map Value.string
theorem Cy{l:List Tx}{k:Int}(h:0<=k/\k<l.length):(Jy l)[k.toNat*1]?=some (S (l.getD k.toNat qe)):=by grind
theorem iq{w:World}{v:Value}{sz n:Nat}{c:List Value}(h:Sl w v sz n c):v.oneCell'=true/\v.cells=#[v]:=by
 obtain⟨a,cap,rfl,-,-⟩:=h.shape;exact⟨rfl,rfl⟩
theorem Sl.aDb{w:World}{v:Value}{l:List Tx}{n:Int}(h:Sl w v 1 l.length (Jy l))(hn:0<=n/\n<=l.length):Sl w (zT v n.toNat) 1 (l.take n.toNat).length (Jy (l.take n.toNat)):=
 (h.cut n.toNat J).conv (by rw[er];omega) (by rw[lU];exact B8.symm)
theorem aru{s:Tx}:s=qe↔s.size=0:=by
 constructor
 .intro h;rw[h];rfl
 intro h
 cases s with
 |mk d=>
  have:d.size=0:=h
  have e:d=#[]:=afi this
  rw[e]
section runs
variable{P:Program}{σ:Env}{w:World}{dst:Option Tmp}{ty t u:TypeId}{pos:String}{bO:Array Edge}{g:Option (Nat×Bool)}{x y:Operand}{a b:Tx}{k:IntKind}{i:Int}
theorem arv(a b:Tx):(a.toList==b.toList)=decide (a=b):=by
 rw[ByteArray.toList_eq,ByteArray.toList_eq,gV,Cc,eE]
 constructor
 .exact fun h=>WideShapes.bytes_inj h
 exact fun h=>by rw[h]
theorem agT{op:BinOp}{v:Value}(hx:ev σ x=S a)(hy:ev σ y=S b)(h:(binOp op t (S a) (S b)).run P w= .ok v w):
  (execOp (ev σ) ⟨dst,.binOp op t x y u,ty,pos,bO,g⟩).run P w= .ok (.value v) w:=by
 have he:(eqGuard op t x y (S a) (S b))=pure ():=by cases op<;>rfl
 simp[execOp,hx,hy,he,h]
theorem Mr(hx:ev σ x=S a)(hy:ev σ y=S b):(execOp (ev σ) ⟨dst,.binOp .eql t x y u,ty,pos,bO,g⟩).run P w= .ok (.value (.bool (decide (a=b)))) w:=
 agT hx hy (by rw[binOp_string_eql,arv];rfl)
theorem tw(ht:P.underlying t=some .string)(hx:ev σ x=S a)(hy:ev σ y= .int k i)(h:0<=i/\i<a.size):(execOp (ev σ) ⟨dst,.index t x y,ty,pos,bO,g⟩).run P w= .ok (.value (.int .u8 (sB a i))) w:=by
 have h1:=run_index_string (P:=P) w t a k i ht
 rw[dif_pos h]at h1
 have h2:((a[i.toNat]'J).toNat:Int)=sB a i:=by
  have hl:i.toNat<a.data.toList.length:=by
   have:a.data.toList.length=a.size:=by cases a;rfl
   omega
  rw[sB,eT,eD hl]
  cases a;rfl
 rw[h2]at h1
 simp[execOp,hx,hy,h1]
end runs
abbrev Vu:=Nat->Obj->Prop
def Kw(w:World):Vu:=fun b o=>w.heap[b]?=some o
def Kz(K:Vu)(Z:List bu):Vu:=fun b o=>K b o\/bu.blk b o∈Z
def UL(K:Vu)(b j:Nat)(c:Value):Prop:=∃cs e fr,K b (.cells cs e fr)/\cs[j]?=some c
structure pB(K:Vu)(v:Value)(sz n:Nat)(cells:List Value):Prop where
 shape:∃a cap,v= .slice a n cap/\n<=cap/\(0<n->a=some ⟨sb v,so v,none⟩)
 len:cells.length=n*sz
 cell:∀j c,cells[j]?=some c->UL K (sb v) (so v+j) c
 small:n<=maxLen
def Le(K K':Vu):Prop:=∀b o,K b o->K' b o
theorem Le.refl(K:Vu):Le K K:=fun _ _ h=>h
theorem Le.trans{K K' K'':Vu}(h:Le K K')(h':Le K' K''):Le K K'':=fun b o hb=>h' b o (h b o hb)
theorem Le.z(K:Vu)(Z:List bu):Le K (Kz K Z):=fun _ _ h=> .inl h
theorem Le.zz{K:Vu}{Z Z':List bu}(h:∀x,x∈Z->x∈Z'):Le (Kz K Z) (Kz K Z'):=fun b o hb=>hb.imp id (h _)
theorem Le.kk{K:Vu}{Z Z':List bu}:Le (Kz (Kz K Z) Z') (Kz K (Z'++Z)):=fun b o hb=>by
 rcases hb with(hb|hb)|hb
 .exact .inl hb
 .exact .inr (by simp[hb])
 exact .inr (by simp[hb])
theorem UL.mono{K K':Vu}{b j:Nat}{c:Value}(h:UL K b j c)(hl:Le K K'):UL K' b j c:=by
 obtain⟨cs,e,fr,h1,h2⟩:=h;exact⟨cs,e,fr,hl _ _ h1,h2⟩
theorem pB.mono{K K':Vu}{v:Value}{sz n:Nat}{cells:List Value}(h:pB K v sz n cells)(hl:Le K K'):pB K' v sz n cells:=⟨h.shape,h.len,fun j c hc=>(h.cell j c hc).mono hl,h.small⟩
theorem pB.nil(K:Vu)(sz:Nat):pB K (.slice none 0 0) sz 0 []:=⟨⟨none,0,rfl,eU _,fun h=>J⟩,aJ,fun j c h=>by simp at h,gd⟩
section
variable{w0 w w':World}{L L' Z:List bu}{K:Vu}{v:Value}{sz n:Nat}{cells:List Value}
theorem pB.sl(h:pB (Kw w) v sz n cells):Sl w v sz n cells:=⟨h.shape,h.len,fun j c hc=>by
 obtain⟨cs,e,fr,h1,h2⟩:=h.cell j c hc
 rw[xS w _ _ cs e fr h1];exact h2,h.small⟩
theorem ady{b j:Nat}{c:Value}(h1:w.cell? ⟨b,j,none⟩=some c):UL (Kw w) b j c:=by
 unfold World.cell? at h1
 cases hq:w.heap[b]? with
 |none=>simp[hq]at h1
 |some o=>
  cases o with
  |cells cs e fr=>simp[hq]at h1;exact⟨cs,e,fr,hq,h1⟩
  |_=>simp[hq]at h1
theorem Sl.slv(h:Sl w v sz n cells):pB (Kw w) v sz n cells:=⟨h.shape,h.len,fun j c hc=>ady (h.cell j c hc),h.small⟩
theorem Kw.below(hb:Below w.heap.size w w'):Le (Kw w) (Kw w'):=fun b o h=>by
 show w'.heap[b]?=some o
 rw[hb.block b (B0.1 h).1];exact h
theorem Hp.kw(h:Hp w0 w L):Le (Kw w0) (Kw w):=Kw.below h.below
theorem Hp.kz(h:Hp w0 w L)(hK:Le K (Kw w0))(hZ:∀x,x∈Z->x∈L):Le (Kz K Z) (Kw w):=fun b o hb=>by
 rcases hb with hb|hb
 .exact h.kw _ _ (hK _ _ hb)
 exact(h.ok _ (hZ _ hb)).2
theorem Hp.Gm(h:Hp w0 w L)(hz:Hp w w' Z):Hp w0 w' (Z++L):=by
 have h':=h.call hz.below
 refine⟨h'.below,fun x hx=> ?_,EV.2 ⟨hz.LP,h'.LP,fun x hx y hy=> ?_⟩⟩
 .rcases fg.1 hx with hx|hx
  .have h1:=hz.ok x hx
   rcases x with⟨b,o⟩|⟨v,e,sz,n,xs⟩
   .exact⟨kX h.size h1.1,h1.2⟩
   refine⟨h1.1,?_⟩
   rcases h1.2 with hn|⟨gb,cap,cur,rfl,h2,rest⟩
   .exact .inl hn
   exact .inr ⟨gb,cap,cur,rfl,kX h.size h2,rest⟩
  exact h'.ok x hx
 .cases hf:x.sC with
  |none=>exact .inl O
  |some b=>
   refine .inr fun e=> ?_
   have h1:=(bu.Jv (hz.ok x hx) b hf).1
   have h2:=(bu.Jv (h.ok y hy) b (by rw[<-e])).2
   omega
theorem Hp.Iz(h:Hp w0 w (Z++(L++L'))):Hp w0 w (L++(Z++L')):=by grind[Hp]
theorem Hp.TY{e:TypeId}{xs:List Value}(h:Hp w0 w (.row v e sz n xs::L))(K:Vu):∃Z:List bu,Hp w0 w (Z++L)/\pB (Kz K Z) v sz n xs/\(∀x∈Z,∃b c e,x= .blk b (.cells c e (0,0))):=by
 have h1:=h.ok _ (qT ..)
 obtain⟨hl,h2⟩:=h1
 rcases h2 with⟨rfl,rfl⟩|⟨gb,cap,cur,rfl,hb,hg,hn,hm,hs,ht⟩
 .have:xs=[]:=F6 (by simpa using hl)
  subst this
  exact⟨[],h.tail,pB.nil _ _,fun x hx=>by simp at hx⟩
 refine⟨[.blk gb (.cells cur e (0,0))],⟨h.below,fun x hx=> ?_,?_⟩,⟨⟨_,cap,rfl,hn,fun _=>rfl⟩,hl,fun j c hj=>⟨cur,e,(0,0),.inr (by simp[sb]),?_⟩,kX hn hm⟩,fun x hx=> ?_⟩
 .rcases c8.1 hx with rfl|hx
  .exact⟨hb,hg⟩
  exact h.ok x (fX _ hx)
 .exact List.Pairwise.cons (fun y hy=>(lQ.1 h.LP).1 y hy) (lQ.1 h.LP).2
 .simp only[so,gN]
  rw[<-ht,qS]at hj
  split at hj
  .simpa using hj
  .cases hj
 simp at hx;exact⟨_,_,_,hx⟩
theorem Gn{b:Nat}{c:List Value}{e:TypeId}(hZ:bu.blk b (.cells c.toArray e (0,0))∈Z)(hl:c.length=n*sz)(hn:n<=maxLen):pB (Kz K Z) (.slice (some ⟨b,0,none⟩) n n) sz n c:=
 ⟨⟨_,n,rfl,eU _,fun _=>rfl⟩,hl,fun j u hu=>⟨c.toArray,e,(0,0),.inr hZ,by simp only[so,gN];simpa using hu⟩,hn⟩
end
def Gp(K:Vu)(p:Vu->Value->Prop)(w:World):Ending->World->Prop:=jW fun u w'=>∃Z:List bu,Hp w w' Z/\p (Kz K Z) u
section calls
variable{P:Program}{n:Nat}{ops:Array Oper}{k:K}{rest:List Oper}{σ:Env}{w0 w:World}{L:List bu}{op:Op}{ty:TypeId}{pos:String}{bO:Array Edge}{d:Nat}{Kv:Vu}{p:Vu->Value->Prop}
theorem IA{f:FuncId}{args:Array Value}(hd:Nat.blt d n=true)(hH:Hp w0 w L)(hc:Calls P f args w (Gp Kv p w))
  (hr:(execOp (ev σ) ⟨some d,op,ty,pos,bO,none⟩).run P w= .ok (.enter f args) w)
  (hk:∀v w' Z,Hp w0 w' (Z++L)->p (Kz Kv Z) v->RL P n ops k rest (lX σ d v) w'):RL P n ops k (⟨some d,op,ty,pos,bO,none⟩::rest) σ w:=
 H8 hd hr hc fun u w' ⟨Z,hz,hp⟩=>hk u w' Z (hH.Gm hz) hp
variable{l:List Oper}{i fuel:Nat}{listed:Array Bool}{g:Option (Nat×Bool)}{L':List bu}
theorem agU{f:FuncId}{args:Array Value}(hi:l[i]?=some ⟨some d,op,ty,pos,bO,g⟩)(hg:∀a,Is n σ a->Region.wanted ⟨some d,op,ty,pos,bO,g⟩ (yielded l.toArray a.tmps)=true)(hd:Nat.blt d n=true)
  (hH:Hp w0 w L') (hs:L.Sublist L') (hc:Calls P f args w (Gp Kv p w)) (hr:(execOp (ev σ) ⟨some d,op,ty,pos,bO,g⟩).run P w= .ok (.enter f args) w)
  (h:∀v w' Z,Hp w0 w' (Z++L')->p (Kz Kv Z) v->AN P n l (fun w=>Hp w0 w L) k fuel (listed.setIfInBounds i true) (lX σ d v) w'):AO P n l (fun w=>Hp w0 w L) k fuel listed σ w i:=
 R7 hi hg hd hc hr fun u w' ⟨Z,hz,hp⟩=>⟨(hH.Gm hz).sub (List.Sublist.trans hs (Xx _ _)),h u w' Z (hH.Gm hz) hp⟩
end calls
section flat
variable{α:Type}{cl:α->List Value}{sz:Nat}
theorem flat_get(hsz:∀a,(cl a).length=sz):∀(l:List α) (k:Nat) (a:α),l[k]?=some a->∀j c,(cl a)[j]?=some c->(l.flatMap cl)[k*sz+j]?=some c
 |[],k,a,h=>by simp at h
 |p::l,0,a,h=>fun j c hj=>by
  simp at h;subst h
  rw[uF,zw (by have:=(nX.1 hj).1;omega),Ry,gN];exact hj
 |p::l,k+1,a,h=>fun j c hj=>by
  have:=flat_get hsz l k a xZ j c hj
  rw[uF,ET (by rw[hsz,lm];omega),hsz,show(k+1)*sz+j-sz=k*sz+j by rw[lm];omega];exact this
theorem fK(hsz:∀a,(cl a).length=sz)(l:List α):(l.flatMap cl).length=l.length*sz:=by
 induction l with
 |nil=>simp
 |cons a l ih=>rw[uF,dZ,hsz,ih,fq,lm];omega
variable{P:Program}{σ:Env}{w:World}{dst:Option Tmp}{ty t:TypeId}{pos:String}{bO:Array Edge}{g:Option (Nat×Bool)}{x:Operand}{v:Value}{l:List α}{k:Int}
theorem dY{d:TypeDesc}{dv:α}(hsz:∀a,(cl a).length=sz)(hS:Sl w v sz l.length (l.flatMap cl))(hu:P.underlying t=some d)(hd:d.isRow=true)(hi:(P.info? t).map (·.size)=some sz)
  (hx:ev σ x= .pointer (some ⟨sb v,so v+k.toNat*sz,none⟩)) (hk:0<=k/\k<l.length):
  (execOp (ev σ) ⟨dst,.load t x,ty,pos,bO,g⟩).run P w= .ok (.value (.agg (cl (l.getD k.toNat dv)).toArray)) w:=by
 refine cF hu hd (by rw[hsz];exact hi) hx fun j c hj=> ?_
 have:=hS.cell _ _ (flat_get hsz l k.toNat _ (fD hk.1 hk.2) j c hj)
 rw[xR];exact this
theorem gB{d:TypeDesc}{dv:α}{off:Nat}{c:Value}(hsz:∀a,(cl a).length=sz)(hS:Sl w v sz l.length (l.flatMap cl))(hu:P.underlying t=some d)(hd:d.isRow=false)
  (hx:ev σ x= .pointer (some ⟨sb v,so v+k.toNat*sz+off,none⟩)) (hk:0<=k/\k<l.length) (hc:(cl (l.getD k.toNat dv))[off]?=some c):
  (execOp (ev σ) ⟨dst,.load t x,ty,pos,bO,g⟩).run P w= .ok (.value c) w:=by
 refine aG hu hd hx ?_
 have:=hS.cell _ _ (flat_get hsz l k.toNat _ (fD hk.1 hk.2) off c hc)
 rw[xR];exact this
theorem kZ{d:TypeDesc}{dv:α}{off:Nat}{cs:List Value}(hsz:∀a,(cl a).length=sz)(hS:Sl w v sz l.length (l.flatMap cl))(hu:P.underlying t=some d)(hd:d.isRow=true)(hi:(P.info? t).map (·.size)=some cs.length)
  (hx:ev σ x= .pointer (some ⟨sb v,so v+k.toNat*sz+off,none⟩)) (hk:0<=k/\k<l.length) (hc:∀j c,cs[j]?=some c->(cl (l.getD k.toNat dv))[off+j]?=some c):
  (execOp (ev σ) ⟨dst,.load t x,ty,pos,bO,g⟩).run P w= .ok (.value (.agg cs.toArray)) w:=by
 refine cF hu hd hi hx fun j c hj=> ?_
 have:=hS.cell _ _ (flat_get hsz l k.toNat _ (fD hk.1 hk.2) (off+j) c (hc j c hj))
 rw[xR,xR];exact this
end flat
end
end Go.Proofs.YtlhjdflgjbkpmaaGreatDoor.E
namespace Go.Proofs.YtlhjdflgjbkpmaaGreatDoor.M
section
open Go
abbrev El:=Nat->BitVec 64
def rS(a b:El):Prop:=∀i,i<8->a i=b i
instance(a b:El):Decidable (rS a b):=inferInstanceAs (Decidable (∀i,i<8->a i=b i))
def dg:El:=fun _=>0#64
def tA(e:El)(i:Nat)(x:BitVec 64):El:=fun j=>if j=i then x else e j
structure Fc where
 kind:Int
 names:List Tx
 rel:Rl
structure Sh where
 tuple:Bool
 aY:List Fc
def vI:Fc:=⟨0,[],Rl.none⟩
def ir(l:List Tx):Bool:=decide (1<=l.length/\l.length<=64)&&decide (yH l<0)&&l.all iQ
theorem DH{l:List Tx}(h:¬(1<=l.length/\l.length<=64)):ir l=false:=by grind[ir]
theorem PJ{l:List Tx}(h:¬yH l<0):ir l=false:=by grind[ir]
theorem PK{l:List Tx}{k:Int}(k0:0<=k)(k1:k<l.length)(h:iQ (l.getD k.toNat qe)=false):ir l=false:=by
 cases hc:ir l with
 |false=>rfl
 |true=>
  rw[ir,cL,iS]at hc
  rw[hc.2 _ (lO (fD (d:=qe) k0 k1))]at h;cases h
theorem qv{l:List Tx}{k:Int}(h1:1<=l.length/\l.length<=64)(h2:yH l<0)(hk:¬k<l.length)(hf:∀j:Int,0<=j->j<k->iQ (l.getD j.toNat qe)=true):ir l=true:=by
 rw[ir,gW h1,gW h2,mG,mG,iS]
 intro x hx
 obtain⟨i,hi,rfl⟩:=ud hx
 have:=hf i J J
 rw[eA,eT,eD hi]at this
 exact this
def cZ(f:Fc):Bool:=ir f.names&&
 (if f.kind=1\/f.kind=2 then decide (pts f.rel=0)else if f.kind=3 then decide (f.rel.n=f.names.length)&&cV f.rel else if f.kind=4 then decide (f.rel.n=f.names.length)&&th f.rel else false)
theorem adz(r:Rl):(eI r).eq (eI Rl.none)↔pts r=0:=by
 have hp:=dA r
 constructor
 .intro h;exact h.1
 intro h
 refine⟨h,fun i hi=> ?_⟩
 show(if(i:Int)<pts r then vC r i else 0#64)=(if(i:Int)<0 then vC Rl.none i else 0#64)
 rw[aT J,aT J]
def mC(s:Sh):Bool:=decide (1<=s.aY.length/\s.aY.length<=8)&&(s.tuple||decide (s.aY.length=1))&&s.aY.all cZ
theorem KK{s:Sh}(h:¬(1<=s.aY.length/\s.aY.length<=8)):mC s=false:=by grind[mC]
theorem abc{s:Sh}(h:s.tuple=false)(h2:¬s.aY.length=1):mC s=false:=by grind[mC]
theorem KL{s:Sh}{k:Int}(k0:0<=k)(k1:k<s.aY.length)(h:cZ (s.aY.getD k.toNat vI)=false):mC s=false:=by
 cases hc:mC s with
 |false=>rfl
 |true=>
  rw[mC,cL,iS]at hc
  rw[hc.2 _ (lO (fD (d:=vI) k0 k1))]at h;cases h
theorem KM{s:Sh}{k:Int}(h1:1<=s.aY.length/\s.aY.length<=8)(h2:s.tuple=true\/s.aY.length=1)(hk:¬k<s.aY.length)(hf:∀j:Int,0<=j->j<k->cZ (s.aY.getD j.toNat vI)=true):mC s=true:=by
 have h3:(s.tuple||decide (s.aY.length=1))=true:=by rcases h2 with h2|h2<;>simp[h2]
 rw[mC,gW h1,h3,mG,mG,iS]
 intro x hx
 obtain⟨i,hi,rfl⟩:=ud hx
 have:=hf i J J
 rw[eA,eT,eD hi]at this
 exact this
theorem n4{s:Sh}(h:mC s=true):(1<=s.aY.length/\s.aY.length<=8)/\(s.tuple=true\/s.aY.length=1)/\∀f∈s.aY,cZ f=true:=by grind[mC]
theorem Pt{s:Sh}(h:mC s=true){k:Int}(k0:0<=k)(k1:k<s.aY.length):cZ (s.aY.getD k.toNat vI)=true:=by simp_all[Sh,mC,cZ,vI,n4,fD,k1]
theorem pE{f:Fc}(h:cZ f=true):(1<=f.names.length/\f.names.length<=64)/\((f.kind=1/\pts f.rel=0)\/(f.kind=2/\pts f.rel=0)\/(f.kind=3/\f.rel.n=f.names.length/\cV f.rel=true)\/(f.kind=4/\f.rel.n=f.names.length/\th f.rel=true)):=by grind[cZ,ir]
def arx(a b:Fc):Bool:=decide (a.kind=b.kind)&&decide (a.names=b.names)&&decide ((eI a.rel).eq (eI b.rel))
def aJi(a b:Sh):Bool:=decide (a.tuple=b.tuple)&&decide (a.aY.length=b.aY.length)&&(upto a.aY.length).all fun i=>arx (a.aY.getD i.toNat vI) (b.aY.getD i.toNat vI)
def kx(f:Fc)(w:BitVec 64):Bool:=if f.kind=1 then(level f.names.length w).2 else if f.kind=2 then eu w (below f.names.length)else if f.kind=3 then pZ f.rel w else(eY f.rel w).2
def cJ(s:Sh)(e:El):Bool:=mC s&&(upto 8).all fun i=>if i<s.aY.length then kx (s.aY.getD i.toNat vI) (e i.toNat)else decide (e i.toNat=0#64)
theorem UM{s:Sh}{e:El}(h:mC s=false):cJ s e=false:=by rw[cJ,h];rfl
theorem UN{s:Sh}{e:El}{k:Int}(k0:0<=k)(k1:k<8)(h:k<s.aY.length)(h2:kx (s.aY.getD k.toNat vI) (e k.toNat)=false):cJ s e=false:=by
 cases hc:cJ s e with
 |false=>rfl
 |true=>
  rw[cJ,cL,iS]at hc
  have:=hc.2 k (cK.2 ⟨k0,k1⟩)
  rw[aX h,h2]at this;cases this
theorem Ms{s:Sh}{e:El}{k:Int}(k0:0<=k)(k1:k<8)(h:¬k<s.aY.length)(h2:e k.toNat≠0#64):cJ s e=false:=by
 cases hc:cJ s e with
 |false=>rfl
 |true=>
  rw[cJ,cL,iS]at hc
  have:=hc.2 k (cK.2 ⟨k0,k1⟩)
  rw[aT h,eE]at this;exact absurd this h2
def Eo(s:Sh)(e:El)(k:Int):Prop:=∀j:Int,0<=j->j<k->(j<s.aY.length->kx (s.aY.getD j.toNat vI) (e j.toNat)=true)/\(¬j<s.aY.length->e j.toNat=0#64)
theorem Mt{s:Sh}{e:El}{k:Int}(h:mC s=true)(hk:¬k<8)(hf:Eo s e k):cJ s e=true:=by
 rw[cJ,h,mG,iS]
 intro i hi
 have h1:=cK.1 hi
 have h2:=hf i h1.1 J
 split
 .rename_i h3;exact h2.1 h3
 rename_i h3;exact gW (h2.2 h3)
theorem Eo.none(s:Sh)(e:El):Eo s e 0:=fun j a b=>absurd b J
theorem Eo.next{s:Sh}{e:El}{k:Int}(h:Eo s e k)(h1:k<s.aY.length->kx (s.aY.getD k.toNat vI) (e k.toNat)=true)(h2:¬k<s.aY.length->e k.toNat=0#64):Eo s e (k+1):=fun j a b=>by
 by_cases he:j=k
 .subst he;exact⟨h1,h2⟩
 exact h j a J
def cS(a b:El):Bool:=(upto 8).all fun i=>eu (a i.toNat) (b i.toNat)
theorem agV{a b:El}{k:Int}(k0:0<=k)(k1:k<8)(h:eu (a k.toNat) (b k.toNat)=false):cS a b=false:=by
 cases hc:cS a b with
 |false=>rfl
 |true=>
  rw[cS,iS]at hc
  rw[hc k (cK.2 ⟨k0,k1⟩)]at h;cases h
theorem abd{a b:El}{k:Int}(hk:¬k<8)(hf:∀j:Int,0<=j->j<k->eu (a j.toNat) (b j.toNat)=true):cS a b=true:=by grind[cS,cK]
def UO(s:Sh)(a b:El)(i:Nat):BitVec 64:=if(i:Int)<s.aY.length/\(s.aY.getD i vI).kind=4 then js (s.aY.getD i vI).rel (a i) (b i)else a i|||b i
def ef(s:Sh)(a b:El):El:=fun i=>UO s a b i
def o4(a b:El):El:=fun i=>a i&&&b i
def m7(a b:El)(k:Int):El:=fun i=>if(i:Int)<k then a i else b i
theorem vJ(a b:El):m7 a b 0=b:=funext fun i=>aT J
theorem uQ{a b:El}{k:Int}{x:BitVec 64}(k0:0<=k)(h:x=a k.toNat):tA (m7 a b k) k.toNat x=m7 a b (k+1):=by grind[tA,m7]
theorem YN{a b:El}{k:Int}(k0:0<=k):m7 a b k k.toNat=b k.toNat:=aT J
theorem alR{a b:El}{k:Int}(hk:¬k<8):rS (m7 a b k) a:=fun i hi=>aX J
def ew(f:Fc):BitVec 64:=if f.kind≠4 then 0#64 else bQ f.rel (wI f.rel (gx f.rel)).1
def Fm(f:Fc):BitVec 64:=if f.kind=1 then awc f.names.length else if f.kind=2 then below f.names.length else if f.kind=3 then JW f.rel else bQ f.rel (wI f.rel (bQ f.rel)).1
def gI(s:Sh)(f:Fc->BitVec 64):El:=fun i=>if mC s=true/\(i:Int)<s.aY.length then f (s.aY.getD i vI)else 0#64
def yI(f:Fc):Int:=if f.kind=1 then f.names.length-1 else if f.kind=2 then f.names.length else if f.kind=3 then KJ f.rel else(aa4 f.rel).1
def Cz(s:Sh)(k:Int):Int:=((upto k).map fun i=>yI (s.aY.getD i.toNat vI)).sum
theorem agW{s:Sh}{k:Int}(k0:0<=k):Cz s k+yI (s.aY.getD k.toNat vI)=Cz s (k+1):=by grind[Cz,iY]
def gJ(s:Sh):Int:=if mC s then Cz s s.aY.length else 0
end
end Go.Proofs.YtlhjdflgjbkpmaaGreatDoor.M
namespace Go.Proofs.YtlhjdflgjbkpmaaGreatDoor.E
section
open Go Go.RowKit Go.Proofs.YtlhjdflgjbkpmaaGreatDoor.M
def pH(e:El):List Value:=(List.range 8).map fun i=>U (e i)
@[irreducible] def iM(e:El):Array Value:=(pH e).toArray
theorem ig(e:El):iM e=(pH e).toArray:=by unfold iM;rfl
theorem cY(e:El):(pH e).length=8:=by simp[pH]
theorem F7(e:El):(iM e).size=8:=by rw[ig];simp[pH]
theorem jJ(e:El){i:Nat}(h:i<8):(iM e)[0+i*1]?=some (U (e i)):=by grind[ig,pH]
theorem ary(e:El){k:Int}(h:0<=k/\k<8):(iM e)[k.toNat]?=some (U (e k.toNat)):=by grind[ig,pH]
theorem n5(e:El)(i:Nat)(x:BitVec 64):(iM e).setIfInBounds (0+i*1) (U x)=iM (tA e i x):=by grind[ig,cY,pH,tA]
theorem l6{a b:El}(h:rS a b):iM a=iM b:=by simp_all[El,rS,iM,ig,pH]
theorem agX:iM dg=Array.replicate 8 (U 0#64):=by rw[ig];rfl
theorem abe(e:El):∀u∈iM e,u.oneCell'=true:=by
 rw[ig];simp[pH]
 exact fun _ _=>rfl
structure qw where
 kind:Int
 nv:Value
 names:List Tx
 rel:Rl
def qw.fc(f:qw):Fc:=⟨f.kind,f.names,f.rel⟩
def sH(f:qw):List Value:=I f.kind::f.nv::wH f.rel
theorem fy(f:qw):(sH f).length=67:=by simp[sH,pG]
abbrev uR(f:qw):Array Value:=(sH f).toArray
def iB:qw:=⟨0,.slice none 0 0,[],Rl.none⟩
theorem Mu(f:qw):∀j c,(wH f.rel)[j]?=some c->(sH f)[2+j]?=some c:=by grind[sH]
structure wJ(K:Vu)(f:qw):Prop where
 names:pB K f.nv 1 f.names.length (Jy f.names)
theorem wJ.mono{K K':Vu}{f:qw}(h:wJ K f)(hl:Le K K'):wJ K' f:=⟨h.names.mono hl⟩
structure kP where
 tuple:Bool
 fv:Value
 aY:List qw
def kP.sh(s:kP):Sh:=⟨s.tuple,s.aY.map qw.fc⟩
abbrev qJ(s:kP):Array Value:=#[B s.tuple,s.fv]
structure k7(K:Vu)(s:kP):Prop where
 aY:pB K s.fv 67 s.aY.length (s.aY.flatMap sH)
 each:∀f∈s.aY,wJ K f
theorem k7.mono{K K':Vu}{s:kP}(h:k7 K s)(hl:Le K K'):k7 K' s:=⟨h.aY.mono hl,fun f hf=>(h.each f hf).mono hl⟩
theorem po(s:kP):s.sh.aY.length=s.aY.length:=by simp[kP.sh]
theorem iF(s:kP)(k:Int):s.sh.aY.getD k.toNat vI=(s.aY.getD k.toNat iB).fc:=by
 rw[kP.sh,eT,eT,qp]
 cases s.aY[k.toNat]?<;>rfl
theorem k7.at{K:Vu}{s:kP}(h:k7 K s){k:Int}(h0:0<=k)(h1:k<s.aY.length):wJ K (s.aY.getD k.toNat iB):=h.each _ (lO (fD (d:=iB) h0 h1))
section runs
variable{P:Program}{σ:Env}{w:World}{dst:Option Tmp}{ty t u e:TypeId}{pos:String}{bO:Array Edge}{g:Option (Nat×Bool)}{x y:Operand}{b:Nat}{fr:Nat×Nat}
structure ElT(P:Program)(t e:TypeId):Prop where
 u:P.underlying t=some (.array 8 e)
 ue:P.underlying e=some (.int .u64)
 se:∀w,(sizeOf e).run P w= .ok 1 w
 ae:∀w,(isAgg e).run P w= .ok false w
 eg:P.eqGuardType P.depth t=false
theorem ElT.eql(T:ElT P t e)(a b:El)(w:World):(Op.equalIn 10000 t (.agg (iM a)) (.agg (iM b))).run P w= .ok (decide (rS a b)) w:=by
 rw[ig,ig]
 exact aoY 9998 a b T.u T.ue T.se T.ae
theorem IB{a b:El}(T:ElT P t e)(hx:ev σ x= .agg (iM a))(hy:ev σ y= .agg (iM b)):
  (execOp (ev σ) ⟨dst,.binOp .eql t x y u,ty,pos,bO,g⟩).run P w= .ok (.value (.bool (decide (rS a b)))) w:=by
 have h:=run_eql_struct (P:=P) w t (iM a) (iM b)
 rw[T.eql]at h
 simp only[execOp,hx,hy,uh,X4 w .eql t x y _ _ T.eg,xL]
 simp[h]
theorem PL{a b:El}(T:ElT P t e)(hx:ev σ x= .agg (iM a))(hy:ev σ y= .agg (iM b)):
  (execOp (ev σ) ⟨dst,.binOp .neq t x y u,ty,pos,bO,g⟩).run P w= .ok (.value (.bool (!decide (rS a b)))) w:=by
 have h:=run_neq_struct (P:=P) w t (iM a) (iM b)
 rw[T.eql]at h
 simp only[execOp,hx,hy,uh,X4 w .neq t x y _ _ T.eg,xL]
 simp[h]
theorem cM{a:El}{d:TypeDesc}(hu:P.underlying t=some d)(hd:d.isRow=true)(hi:(P.info? t).map (·.size)=some 8)(hx:ev σ x= .pointer (some ⟨b,0,none⟩))
 (hg:w.heap[b]?=some (.cells (iM a) e fr)):(execOp (ev σ) ⟨dst,.load t x,ty,pos,bO,g⟩).run P w= .ok (.value (.agg (iM a))) w:=by grind[ig,cF,cY,bj]
theorem cR{a a0:El}(hi:(P.info? t).map (·.size)=some 8)(hx:ev σ x= .pointer (some ⟨b,0,none⟩))(hy:ev σ y= .agg (iM a))(hg:w.heap[b]?=some (.cells (iM a0) e (0,0))):
 (execOp (ev σ) ⟨dst,.store t x y,ty,pos,bO,g⟩).run P w= .ok .skip (w.setRow b (iM a)):=by grind[dO,F7,abe]
theorem yJ{f:qw}{d:TypeDesc}(hu:P.underlying t=some d)(hd:d.isRow=true)(hi:(P.info? t).map (·.size)=some 67)(hx:ev σ x= .pointer (some ⟨b,0,none⟩))
 (hg:w.heap[b]?=some (.cells (uR f) e fr)):(execOp (ev σ) ⟨dst,.load t x,ty,pos,bO,g⟩).run P w= .ok (.value (.agg (uR f))) w:=by grind[cF,fy,bj]
theorem l7{K:Vu}{v:Value}{sz n:Nat}{c:List Value}(h:pB K v sz n c):v.oneCell'=true/\v.cells=#[v]:=by
 obtain⟨a,cap,rfl,-,-⟩:=h.shape;exact⟨rfl,rfl⟩
theorem UP{K:Vu}{f:qw}(h:wJ K f):∀u∈sH f,u.oneCell'=true:=by
 intro u hu
 rw[sH,c8,c8]at hu
 rcases hu with rfl|rfl|hu
 .rfl
 .exact(l7 h.names).1
 exact L5 f.rel u (by rw[jr];simpa using hu)
theorem sI{K:Vu}{f f0:qw}(h:wJ K f)(hi:(P.info? t).map (·.size)=some 67)(hx:ev σ x= .pointer (some ⟨b,0,none⟩))(hy:ev σ y= .agg (uR f))(hg:w.heap[b]?=some (.cells (uR f0) e (0,0))):
 (execOp (ev σ) ⟨dst,.store t x y,ty,pos,bO,g⟩).run P w= .ok .skip (w.setRow b (uR f)):=by grind[dO,fy,UP]
theorem gy{d:TypeDesc}{v:Value}{l:List El}{k:Int}(hS:Sl w v 8 l.length (l.flatMap pH))(hu:P.underlying t=some d)(hd:d.isRow=true)(hi:(P.info? t).map (·.size)=some 8)
 (hx:ev σ x= .pointer (some ⟨sb v,so v+k.toNat*8,none⟩)) (hk:0<=k/\k<l.length):(execOp (ev σ) ⟨dst,.load t x,ty,pos,bO,g⟩).run P w= .ok (.value (.agg (iM (l.getD k.toNat dg)))) w:=by grind[ig,dY,cY]
theorem rz{w0:World}{fn:Func}{L:List bu}{i p:Nat}{q:Value->World->Prop}{d:TypeDesc}{c:Array Value}(h:fn.results=#[.cell p ty])(hp:σ p= .pointer (some ⟨b,0,none⟩))(hH:Hp w0 w L)
  (hi:L[i]?=some (.blk b (.cells c e fr))) (hu:P.underlying ty=some d) (hd:d.isRow=true) (hz:(P.info? ty).map (·.size)=some c.size) (hq:q (.agg c) w):Out P fn q σ w:=
 fun n a ha=>⟨_,results_cell_row h _ w b e c fr d (by rw[ha.get,hp]) (hH.blk hi) hu (by cases d<;>simp_all) hz,hq⟩
theorem UQ{d:TypeDesc}{v:Value}{l:List qw}{k:Int}(hS:Sl w v 67 l.length (l.flatMap sH))(hu:P.underlying t=some d)(hd:d.isRow=true)(hi:(P.info? t).map (·.size)=some 65)
  (hx:ev σ x= .pointer (some ⟨sb v,so v+k.toNat*67+2,none⟩)) (hk:0<=k/\k<l.length):
  (execOp (ev σ) ⟨dst,.load t x,ty,pos,bO,g⟩).run P w= .ok (.value (.agg (dS (l.getD k.toNat iB).rel))) w:=by
 rw[jr]
 exact kZ fy hS hu hd (by rw[pG];exact hi) hx hk (Mu _)
theorem iT{d:TypeDesc}{f:qw}(hu:P.underlying t=some d)(hd:d.isRow=true)(hi:(P.info? t).map (·.size)=some 65)(hx:ev σ x= .pointer (some ⟨b,0+2,none⟩))
  (hg:w.heap[b]?=some (.cells (uR f) e fr)):(execOp (ev σ) ⟨dst,.load t x,ty,pos,bO,g⟩).run P w= .ok (.value (.agg (dS f.rel))) w:=by
 rw[jr]
 refine cF hu hd (by rw[pG];exact hi) hx fun j c hj=> ?_
 rw[xS w b _ _ e fr hg]
 simpa using Mu f j c hj
end runs
end
end Go.Proofs.YtlhjdflgjbkpmaaGreatDoor.E
namespace Go.Proofs.YtlhjdflgjbkpmaaGreatDoor.M
theorem tB(a:BitVec 64):eu a a=true:=eV.2 fun _ h=>h
theorem l8{a b c:BitVec 64}(h:eu a b=true)(h':eu b c=true):eu a c=true:=by grind[eV]
theorem UR{a b:BitVec 64}(h:eu a b=true)(h':eu b a=true):a=b:=rq fun j=>gV.2 ⟨eV.1 h j,eV.1 h' j⟩
theorem Gq(a b:BitVec 64):eu b (a|||b)=true:=by grind[eu,Ig]
theorem agY(a b:BitVec 64):eu (a&&&b) b=true:=by grind[eu,Gg]
theorem YO{a b c:BitVec 64}(h:eu a c=true)(h':eu b c=true):eu (a|||b) c=true:=by grind[eV,KA]
theorem amk{a b c:BitVec 64}(h:eu c a=true)(h':eu c b=true):eu c (a&&&b)=true:=by grind[eV,fx]
theorem zero_sub(a:BitVec 64):eu 0#64 a=true:=by grind[eV,vE]
theorem CA{n:Int}{w:BitVec 64}(h:(level n w).2=true):(1<=n/\n<=64)/\∃k:Int,(0<=k/\k<n)/\w=below k:=by grind[Fe,LV]
theorem Mv{n k:Int}(hn:1<=n/\n<=64)(hk:0<=k/\k<n):(level n (below k)).2=true:=by
 have:=YE (n:=n) (k:=k) ⟨hn.1,hn.2,hk.1,hk.2⟩
 rw[u3 ⟨hn.1,hn.2,hk.1,hk.2⟩]at this
 rw[this]
theorem agZ{r:Rl}{w:BitVec 64}(h:(eY r w).2=true):∃k:Int,(0<=k/\k<pts r)/\w=bQ r k:=by
 rcases oq (fun i=>decide (bQ r i=w)) (pts r)with⟨k,k0,k1,k2,-,-⟩|⟨-,e⟩
 .exact⟨k,⟨k0,k1⟩,(Li k2).symm⟩
 have:eY r w=(0,false):=e
 rw[this]at h;cases h
def xf(f:Fc)(a b:BitVec 64):BitVec 64:=if f.kind=4 then js f.rel a b else a|||b
theorem PM{f:Fc}(h:f.kind=1)(w:BitVec 64):kx f w=(level f.names.length w).2:=by rw[kx,aX h]
theorem PN{f:Fc}(h:f.kind=2)(w:BitVec 64):kx f w=eu w (below f.names.length):=by grind[kx]
theorem PO{f:Fc}(h:f.kind=3)(w:BitVec 64):kx f w=pZ f.rel w:=by grind[kx]
theorem ao3{f:Fc}(h:f.kind=4)(w:BitVec 64):kx f w=(eY f.rel w).2:=by grind[kx]
theorem u5{r:Rl}{w:BitVec 64}(h:pZ r w=true):cV r=true/\gh r w=w:=by grind[pZ]
theorem Gr{f:Fc}(h:f.kind≠4)(a b:BitVec 64):xf f a b=a|||b:=by rw[xf,aT h]
structure aDc(f:Fc):Prop where
 l:th f.rel=true
 n:pts f.rel=f.rel.n
theorem JX{f:Fc}(h:cZ f=true)(h4:f.kind=4):aDc f:=by
 have hs:=(pE h).2
 rcases hs with hs|hs|hs|hs
 .omega
 .omega
 .omega
 exact⟨hs.2.2,(jt hs.2.2).2.2.1⟩
theorem l9{f:Fc}(h:cZ f=true)(h4:f.kind=4){w:BitVec 64}(hw:kx f w=true):∃k:Int,(0<=k/\k<f.rel.n)/\w=bQ f.rel k:=by
 rw[ao3 h4]at hw
 obtain⟨k,hk,e⟩:=agZ hw
 rw[(JX h h4).n]at hk
 exact⟨k,hk,e⟩
theorem Mw{f:Fc}(h:cZ f=true)(h4:f.kind=4){k:Int}(hk:0<=k/\k<f.rel.n):kx f (bQ f.rel k)=true:=by
 have ht:=JX h h4
 rw[ao3 h4,vG (jt ht.l).2.1 (by rw[ht.n];exact hk)]
theorem ag0{f:Fc}(h:cZ f=true)(h4:f.kind=4){i j:Int}(hi:0<=i/\i<f.rel.n)(hj:0<=j/\j<f.rel.n):xf f (bQ f.rel i) (bQ f.rel j)=bQ f.rel (jh f.rel i j).1:=by
 rw[xf,aX h4,ads (JX h h4).l hi hj]
theorem YP{f:Fc}(h:cZ f=true)(h4:f.kind=4){i j:Int}(hi:0<=i/\i<f.rel.n)(hj:0<=j/\j<f.rel.n):eu (bQ f.rel i) (bQ f.rel j)=bK f.rel i j:=by grind[Fc,cZ,eu,bQ,bK,ame,JX]
theorem vK{f:Fc}(h:cZ f=true):f.kind=1\/f.kind=2\/(f.kind=3/\cV f.rel=true)\/f.kind=4:=by grind[Fc,cZ,cV,pE]
section one
variable{f:Fc}(h:cZ f=true){a b c:BitVec 64}(ha:kx f a=true)(hb:kx f b=true)(hc:kx f c=true)
include h ha hb
theorem arz:kx f (xf f a b)=true:=by
 rcases vK h with k|k|⟨k,hr⟩|k
 .rw[Gr J]
  rw[PM k]at*
  obtain⟨hn,i,hi,rfl⟩:=CA ha
  obtain⟨-,j,hj,rfl⟩:=CA hb
  rw[af9];exact Mv hn J
 .rw[Gr J]
  rw[PN k]at*;exact YO ha hb
 .rw[Gr J]
  rw[PO k]at*
  have:=awm hr a b
  rwa[(u5 ha).2,(u5 hb).2]at this
 obtain⟨i,hi,rfl⟩:=l9 h k ha
 obtain⟨j,hj,rfl⟩:=l9 h k hb
 rw[ag0 h k hi hj];exact Mw h k (abb (JX h k).l hi hj)
theorem arA:kx f (a&&&b)=true:=by
 rcases vK h with k|k|⟨k,hr⟩|k
 .rw[PM k]at*
  obtain⟨hn,i,hi,rfl⟩:=CA ha
  obtain⟨-,j,hj,rfl⟩:=CA hb
  rw[ac6];exact Mv hn J
 .rw[PN k]at*;exact l8 (Gg a b) ha
 .rw[PO k]at*
  have:=ars hr a b
  rwa[(u5 ha).2,(u5 hb).2]at this
 obtain⟨i,hi,rfl⟩:=l9 h k ha
 obtain⟨j,hj,rfl⟩:=l9 h k hb
 rw[<-adr (JX h k).l hi hj];exact Mw h k (ao1 (JX h k).l hi hj)
theorem aDd:eu a (xf f a b)=true/\eu b (xf f a b)=true:=by
 by_cases k:f.kind=4
 .obtain⟨i,hi,rfl⟩:=l9 h k ha
  obtain⟨j,hj,rfl⟩:=l9 h k hb
  have hl:=JX h k
  have hJ:=(KF hl.l hi hj).2
  rw[ag0 h k hi hj,YP h k hi (abb hl.l hi hj),YP h k hj (abb hl.l hi hj)]
  exact⟨hJ.a,hJ.b⟩
 rw[Gr k];exact⟨Ig a b,Gq a b⟩
include hc
theorem awo(h1:eu a c=true)(h2:eu b c=true):eu (xf f a b) c=true:=by
 by_cases k:f.kind=4
 .obtain⟨i,hi,rfl⟩:=l9 h k ha
  obtain⟨j,hj,rfl⟩:=l9 h k hb
  obtain⟨m,hm,rfl⟩:=l9 h k hc
  have hl:=JX h k
  rw[YP h k hi hm]at h1;rw[YP h k hj hm]at h2
  rw[ag0 h k hi hj,YP h k (abb hl.l hi hj) hm]
  exact(KF hl.l hi hj).2.l m h1 h2
 rw[Gr k];exact YO h1 h2
end one
theorem aml{f:Fc}(h:cZ f=true):kx f (ew f)=true/\∀a,kx f a=true->eu (ew f) a=true:=by
 have hn:=(pE h).1
 rcases vK h with k|k|⟨k,hr⟩|k
 .rw[ew,aX J]
  refine⟨?_,fun a _=>zero_sub a⟩
  rw[PM k,show(0#64)=below 0 from O];exact Mv J J
 .rw[ew,aX J]
  exact⟨by rw[PN k];exact zero_sub _,fun a _=>zero_sub a⟩
 .rw[ew,aX J]
  refine⟨?_,fun a _=>zero_sub a⟩
  rw[PO k]
  refine Ix hr (rq fun z=> ?_)
  rw[vE]
  cases hc:hasB (gh f.rel 0#64) z with
  |false=>rfl
  |true=>
   obtain⟨o,x,p,y,-,-,-,h4⟩:=(jF hr _ z).1 hc
   rw[vE]at h4;cases h4
 have ht:=JX h k
 have he:=amg ht.l
 rw[ew,aT J]
 refine⟨Mw h k he.2.1,fun a ha=> ?_⟩
 obtain⟨i,hi,rfl⟩:=l9 h k ha
 rw[YP h k he.2.1 hi];exact he.2.2 i hi.1 hi.2
theorem qx{s:Sh}{e:El}(h:cJ s e=true):mC s=true/\∀i:Nat,i<8->(((i:Int)<s.aY.length->kx (s.aY.getD i vI) (e i)=true)/\(¬(i:Int)<s.aY.length->e i=0#64)):=by
 rw[cJ,cL,iS]at h
 refine⟨h.1,fun i hi=> ?_⟩
 have:=h.2 (i:Int) (cK.2 J)
 rw[eA]at this
 split at this
 .rename_i h3;exact⟨fun _=>this,fun h4=>absurd h3 h4⟩
 rename_i h3;exact⟨fun h4=>absurd h4 h3,fun _=>Li this⟩
theorem Sm{s:Sh}{e:El}(h:mC s=true)(hf:∀i:Nat,i<8->(((i:Int)<s.aY.length->kx (s.aY.getD i vI) (e i)=true)/\(¬(i:Int)<s.aY.length->e i=0#64))):cJ s e=true:=
 Mt h (k:=8) J fun j j0 j1=>by
  have:=hf j.toNat J
  rw[gk j0]at this;exact this
theorem p5{a b:El}:cS a b=true↔∀i:Nat,i<8->eu (a i) (b i)=true:=by grind[cS,List.all_eq_true,cK,Int.toNat_natCast]
theorem Mx{s:Sh}{a b:El}{i:Nat}(h:(i:Int)<s.aY.length):ef s a b i=xf (s.aY.getD i vI) (a i) (b i):=by simp_all[Sh,El,ef,xf,vI,UO]
theorem IC{s:Sh}{a b:El}{i:Nat}(h:¬(i:Int)<s.aY.length):ef s a b i=a i|||b i:=by
 show UO s a b i=_
 rw[UO,aT (fun hc=>h hc.1)]
theorem CB{s:Sh}(h:mC s=true){i:Nat}(hi:(i:Int)<s.aY.length):cZ (s.aY.getD i vI)=true:=by grind[Pt,Int.toNat_natCast]
section elems
variable{s:Sh}{a b c:El}(ha:cJ s a=true)(hb:cJ s b=true)(hc:cJ s c=true)
include ha hb
theorem ID:cJ s (ef s a b)=true:=by grind[qx,Sm,Mx,arz,CB,IC]
theorem arB:cJ s (o4 a b)=true:=by grind[cJ,o4,qx,Sm,arA,CB]
theorem YQ:cS a (ef s a b)=true/\cS b (ef s a b)=true:=by grind[qx,p5,Mx,aDd,CB,IC,Ig,Gq]
include hc
theorem abf(h1:cS a c=true)(h2:cS b c=true):cS (ef s a b) c=true:=by grind[qx,p5,Mx,awo,CB,IC,YO]
end elems
theorem arC(a b:El):cS (o4 a b) a=true/\cS (o4 a b) b=true:=by simp_all[El,cS,o4,p5,Gg,agY]
theorem awp{a b c:El}(h1:cS c a=true)(h2:cS c b=true):cS c (o4 a b)=true:=by simp_all[El,cS,o4,p5,amk]
theorem YR{a b:El}(h1:cS a b=true)(h2:cS b a=true):rS a b:=fun i hi=>UR (p5.1 h1 i hi) (p5.1 h2 i hi)
theorem Sn{s:Sh}{f:Fc->BitVec 64}{i:Nat}(h:mC s=true)(hi:(i:Int)<s.aY.length):gI s f i=f (s.aY.getD i vI):=aX ⟨h,hi⟩
theorem US{s:Sh}{f:Fc->BitVec 64}{i:Nat}(hi:¬(i:Int)<s.aY.length):gI s f i=0#64:=aT fun h=>hi h.2
theorem PR{s:Sh}(h:mC s=true):cJ s (gI s ew)=true/\∀a,cJ s a=true->cS (gI s ew) a=true:=by grind[Sm,US,p5,Sn,aml,CB,qx,zero_sub]
def My(r:Rl)(k:Int):Nat:=((List.range 65).filter fun v=>decide (1<=v)&&hasB (zq r v) k).length
theorem adA{r:Rl}(ho:gq r=true){k:Int}(hk:0<=k/\k<pts r):∀m:Nat,hasB (zq r m) k=true->(∀v,m<v->hasB (zq r v) k=false)->My r k=m:=fun m hm hno=>by
 have hp:=dA r
 have hlt:=agD ho hm
 have e:((List.range 65).filter fun v=>decide (1<=v)&&hasB (zq r v) k)=(List.range m).map (· +1):=by
  have h1:List.range 65=0::((List.range m).map (· +1)++(List.range (64-m)).map (· +(m+1))):=by
   rw[show 65=(m+(64-m))+1 by omega,XE,X8,gU,RA]
   simp only[Lm,true_and]
   congr 1
   refine HE fun x _=> ?_
   simp only[Function.comp];omega
  rw[h1,zx aJ,Rh]
  have h2:((List.range m).map (· +1)).filter (fun v=>decide (1<=v)&&hasB (zq r v) k)=(List.range m).map (· +1):=by
   rw[List.filter_eq_self]
   intro v hv
   rw[fZ]at hv
   obtain⟨x,hx,rfl⟩:=hv
   rw[qq]at hx
   rw[Uy (show x+1<=m by omega) hm];simp
  have h3:((List.range (64-m)).map (· +(m+1))).filter (fun v=>decide (1<=v)&&hasB (zq r v) k)=[]:=by
   rw[List.filter_eq_nil_iff]
   intro v hv
   rw[fZ]at hv
   obtain⟨x,-,rfl⟩:=hv
   rw[hno _ J];simp
  rw[h2,h3,mY]
 rw[My,e,gF,Rj]
theorem Sp{r:Rl}(ho:gq r=true){k:Int}(hk:0<=k/\k<pts r):∃m:Nat,hasB (zq r m) k=true/\(∀v,m<v->hasB (zq r v) k=false)/\My r k=m:=by
 have hp:=dA r
 have h0:hasB (zq r 0) k=true:=(lZ _ _).2 J
 have key:∀n:Nat,(∃m,m<=n/\hasB (zq r m) k=true/\∀v,m<v->v<=n->hasB (zq r v) k=false):=fun n=>by
  induction n with
  |zero=>exact⟨0,eU _,h0,fun v h1 h2=>J⟩
  |succ n ih=>
   obtain⟨m,h1,h2,h3⟩:=ih
   cases hc:hasB (zq r (n+1)) k with
   |true=>exact⟨n+1,eU _,hc,fun v h4 h5=>J⟩
   |false=>
    refine⟨m,J,h2,fun v h4 h5=> ?_⟩
    by_cases he:v=n+1
    .rw[he];exact hc
    exact h3 v h4 J
 obtain⟨m,h1,h2,h3⟩:=key 64
 have hno:∀v,m<v->hasB (zq r v) k=false:=fun v hv=>by
  by_cases hv2:v<=64
  .exact h3 v hv hv2
  .cases hc:hasB (zq r v) k with
   |false=>rfl
   |true=>have:=agD ho hc;omega
 exact⟨m,h2,hno,adA ho hk m h2 hno⟩
theorem amm{r:Rl}(ho:gq r=true){i j:Int}(h:bK r i j=true)(hne:j≠i):My r i<My r j:=by
 have hb:=kH h
 obtain⟨m,h1,h2,h3⟩:=Sp ho hb.1
 obtain⟨m',h4,h5,h6⟩:=Sp ho hb.2
 rw[h3,h6]
 have h7:=agC m h1 h hne
 by_cases hle:m'<=m
 .rw[h5 (m+1) J]at h7;cases h7
 omega
theorem adB{r:Rl}(ho:gq r=true){k:Int}(hk:0<=k/\k<pts r):(My r k:Int)<=(aa4 r).1:=by
 obtain⟨m,h1,h2,h3⟩:=Sp ho hk
 obtain⟨t,h4,h5,h6⟩:=Im ho 65 0 O (.inl O)
 have h4':Mb r 65 (below (pts r)) 0=(t:Int):=h4
 rw[aa4,aX ho,h4',h3]
 by_cases hle:m<=t
 .show(m:Int)<=t;omega
 have:=Uy (show t+1<=m by omega) h1
 rw[h5,vE]at this;cases this
def vM(f:Fc)(w:BitVec 64):Nat:=if f.kind=3 then((upto 64).filter fun i=>Mq f.rel i&&hasB w i).length else if f.kind=4 then My f.rel (eY f.rel w).1 else(gK w).length
theorem filter_lt{A B:Int->Bool}:∀l:List Int,(∀x∈l,A x=true->B x=true)->(∃x∈l,B x=true/\A x=false)->(l.filter A).length<(l.filter B).length
 |[],_,h=>by obtain⟨x,hx,_⟩:=h;simp at hx
 |y::l,h1,h2=>by
  have hle:∀m:List Int,(∀x∈m,A x=true->B x=true)->(m.filter A).length<=(m.filter B).length:=fun m hm=>by
   induction m with
   |nil=>simp
   |cons z m ih=>
    have:=ih fun x hx=>hm x q5
    have hz:=hm z aJ
    cases ha:A z with
    |true=>rw[xJ ha,xJ (hz ha)];simp;omega
    |false=>
     rw[zx (by simp[ha])]
     cases hb:B z with
     |true=>rw[xJ hb];simp;omega
     |false=>rw[zx (by simp[hb])];exact this
  have hl:=hle l fun x hx=>h1 x q5
  have hy:=h1 y aJ
  obtain⟨x,hx,hbx,hax⟩:=h2
  rcases c8.1 hx with rfl|hx
  .rw[zx (by simp[hax]),xJ hbx];simp;omega
  have ih:=filter_lt l (fun z hz=>h1 z (by simp[hz])) ⟨x,hx,hbx,hax⟩
  cases ha:A y with
  |true=>rw[xJ ha,xJ (hy ha)];simp;omega
  |false=>
   rw[zx (by simp[ha])]
   cases hb:B y with
   |true=>rw[xJ hb];simp;omega
   |false=>rw[zx (by simp[hb])];exact ih
theorem arD{a b:BitVec 64}(h:eu a b=true)(hne:a≠b):∃j:Int,hasB b j=true/\hasB a j=false:=by grind[UR,eV,hasB]
theorem Mz{r:Rl}(h:cV r=true){w:BitVec 64}(hw:gh r w=w){o x p y:Int}(h1:bK r o p=true)(h2:bK r x y=true)(h3:hasB w (8*p+y)=true):hasB w (8*o+x)=true:=by grind[jF]
theorem UU{f:Fc}(h:cZ f=true){a b:BitVec 64}(ha:kx f a=true)(hb:kx f b=true)(hs:eu a b=true)(hne:a≠b):vM f a<vM f b:=by
 obtain⟨j,hj1,hj2⟩:=arD hs hne
 by_cases k3:f.kind=3
 .have hr:cV f.rel=true:=by
   rcases vK h with k|k|⟨-,hr⟩|k
   .omega
   .omega
   .exact hr
   omega
  rw[PO k3]at ha hb
  have ca:=(u5 ha).2;have cb:=(u5 hb).2
  rw[vM,vM,aX k3,aX k3]
  refine filter_lt _ (fun x _ hx=> ?_) ?_
  .rw[cL]at hx⊢;exact⟨hx.1,eV.1 hs x hx.2⟩
  have hsp:=eZ hr
  have awq:=hj1
  rw[<-cb]at awq
  obtain⟨o,x,p,y,rfl,h1,h2,-⟩:=(jF hr b j).1 awq
  have b1:=Bw hr h1;have b2:=Bw hr h2
  obtain⟨q,q1,q2,q3,q4⟩:=YL hr o.toNat o J b1.1.1 b1.1.2
  obtain⟨t,t1,t2,t3,t4⟩:=YL hr x.toNat x J b2.1.1 b2.1.2
  have nq:=(Mp hr q).1 q2;have nt:=(Mp hr t).1 t2
  refine⟨8*q+t,cK.2 J,?_,?_⟩
  .rw[Mq,show(8*q+t)/8=q by omega,show(8*q+t)%8=t by omega,q2,t2,Mz hr cb q4 t4 hj1];rfl
  .cases hc:hasB a (8*q+t)with
   |false=>simp
   |true=>rw[Mz hr ca q3 t3 hc]at hj2;cases hj2
 by_cases k4:f.kind=4
 .obtain⟨i,hi,rfl⟩:=l9 h k4 ha
  obtain⟨m,hm,rfl⟩:=l9 h k4 hb
  have ht:=JX h k4
  have ho:=(jt ht.l).2.1
  rw[YP h k4 hi hm]at hs
  rw[vM,vM,aT k3,aT k3,aX k4,aX k4,vG ho (by rw[ht.n];exact hi),vG ho (by rw[ht.n];exact hm)]
  exact amm ho hs fun e=>hne (by have e2:m=i:=e;rw[e2])
 rw[vM,vM,aT k3,aT k3,aT k4,aT k4]
 exact agz (eV.1 hs) hj1 hj2
theorem PS{k:Int}(h0:0<=k)(h:k<=64):(gK (below k)).length=k.toNat:=by
 have e:gK (below k)=upto k:=zR (qc _) (xd _) fun x=>by rw[fC,lZ,cK];omega
 rw[e,m6]
theorem ag2{f:Fc}(h:cZ f=true){a:BitVec 64}(ha:kx f a=true):(vM f a:Int)<=yI f:=by
 have hn:=(pE h).1
 rcases vK h with k|k|⟨k,hr⟩|k
 .rw[PM k]at ha
  obtain⟨-,i,hi,rfl⟩:=CA ha
  rw[vM,aT J,aT J,yI,aX k,PS hi.1 J];omega
 .rw[PN k]at ha
  rw[vM,aT J,aT J,yI,aT J,aX k]
  have:=Ik (gK a) (gK (below f.names.length)) (Il a) fun x hx=>(fC _ _).2 (eV.1 ha x ((fC _ _).1 hx))
  rw[PS J J]at this;omega
 .rw[vM,aX k,yI,aT J,aT J,aX k,<-adx hr O,art,gF]
  have:∀l:List Int,(l.filter fun i=>Mq f.rel i&&hasB a i).length<=(l.filter (Mq f.rel)).length:=fun l=>by
   induction l with
   |nil=>simp
   |cons z l ih=>
    cases hg:Mq f.rel z with
    |true=>
     rw[xJ hg]
     cases hz:hasB a z with
     |true=>rw[xJ (by simp[hg,hz])];simp;omega
     |false=>rw[zx (by simp[hz])];simp;omega
    |false=>rw[zx (by simp[hg]),zx (by simp[hg])];exact ih
  have:=this (upto 64)
  omega
 obtain⟨i,hi,rfl⟩:=l9 h k ha
 have ht:=JX h k
 have ho:=(jt ht.l).2.1
 rw[vM,aT J,aX k,yI,aT J,aT J,aT J,vG ho (by rw[ht.n];exact hi)]
 exact adB ho (by rw[ht.n];exact hi)
def Fp(s:Sh)(e:El)(k:Int):Int:=((upto k).map fun i=>(vM (s.aY.getD i.toNat vI) (e i.toNat):Int)).sum
def m8(s:Sh)(e:El):Int:=Fp s e s.aY.length
theorem Sq{F G:Int->Int}:∀l:List Int,(∀x∈l,F x<=G x)->(l.map F).sum<=(l.map G).sum
 |[],_=>by simp
 |y::l,h=>by
  have:=Sq l fun x hx=>h x q5
  have:=h y aJ
  simp;omega
theorem ag3{F G:Int->Int}:∀l:List Int,(∀x∈l,F x<=G x)->(∃x∈l,F x<G x)->(l.map F).sum<(l.map G).sum
 |[],_,h=>by obtain⟨x,hx,_⟩:=h;simp at hx
 |y::l,h,h2=>by
  have hle:=Sq l fun x hx=>h x q5
  have hy:=h y aJ
  obtain⟨x,hx,UW⟩:=h2
  rcases c8.1 hx with rfl|hx
  .simp;omega
  have:=ag3 l (fun z hz=>h z (by simp[hz])) ⟨x,hx,UW⟩
  simp;omega
theorem ag4(s:Sh)(e:El):0<=m8 s e:=by
 have:=Sq (F:=fun _=>0) (G:=fun i=>(vM (s.aY.getD i.toNat vI) (e i.toNat):Int)) (upto s.aY.length) fun x _=>by omega
 rw[m8,Fp]
 refine Ls ?_ this
 have hz:∀l:List Int,(l.map fun _=>(0:Int)).sum=0:=fun l=>by
  induction l with
  |nil=>rfl
  |cons y l ih=>rw[lR,E1,ih];rfl
 rw[hz];exact lW _
theorem ag5{s:Sh}{e:El}(h:cJ s e=true):m8 s e<=gJ s:=by
 have hf:=qx h
 have hs:=n4 hf.1
 rw[gJ,aX hf.1,m8,Fp,Cz]
 refine Sq _ fun x hx=> ?_
 have:=cK.1 hx
 have h2:=(hf.2 x.toNat J).1 J
 exact ag2 (CB hf.1 J) h2
theorem ag6{s:Sh}{a b:El}(ha:cJ s a=true)(hb:cJ s b=true)(hl:cS a b=true)(hne:¬rS b a):m8 s a<m8 s b:=by
 have fa:=qx ha;have fb:=qx hb
 have hs:=n4 fa.1
 rw[p5]at hl
 have hex:∃i:Nat,i<8/\b i≠a i:=Hz fun hno=>hne fun i hi=>Hz fun h=>hno ⟨i,hi,h⟩
 obtain⟨i,hi,hd⟩:=hex
 have hin:(i:Int)<s.aY.length:=Hz fun h=>hd (by rw[(fb.2 i hi).2 h,(fa.2 i hi).2 h])
 rw[m8,m8,Fp,Fp]
 refine ag3 _ (fun x hx=> ?_) ⟨i,cK.2 J,?_⟩
 .have:=cK.1 hx
  have hx8:x.toNat<8:=J
  have UW:((x.toNat:Nat):Int)<s.aY.length:=J
  by_cases he:a x.toNat=b x.toNat
  .rw[he];exact lW _
  have:=UU (CB fa.1 UW) ((fa.2 _ hx8).1 UW) ((fb.2 _ hx8).1 UW) (hl _ hx8) he
  omega
 rw[eA]
 have:=UU (CB fa.1 hin) ((fa.2 i hi).1 hin) ((fb.2 i hi).1 hin) (hl i hi) (fun e=>hd e.symm)
 omega
theorem MA{f:Fc}(h:ir f.names=false):cZ f=false:=by rw[cZ,h];rfl
theorem YS{f:Fc}(h:ir f.names=true)(hk:f.kind=1\/f.kind=2):cZ f=decide (pts f.rel=0):=by grind[cZ]
theorem abg{f:Fc}(h:ir f.names=true)(hk:f.kind=1\/f.kind=2):cZ f=decide ((eI f.rel).eq (eI Rl.none)):=by grind[YS,adz]
theorem awr{f:Fc}(h:ir f.names=true)(hk:f.kind=3):cZ f=(decide (f.rel.n=f.names.length)&&cV f.rel):=by grind[cZ]
theorem aws{f:Fc}(h:ir f.names=true)(hk:f.kind=4):cZ f=(decide (f.rel.n=f.names.length)&&th f.rel):=by grind[cZ]
theorem ao4{f:Fc}(h1:¬f.kind=1)(h2:¬f.kind=2)(h3:¬f.kind=3)(h4:¬f.kind=4):cZ f=false:=by grind[cZ]
theorem ag7{f:Fc}(hk:f.kind=3)(h:¬f.rel.n=f.names.length):cZ f=false:=by grind[cZ]
theorem ag8{f:Fc}(hk:f.kind=4)(h:¬f.rel.n=f.names.length):cZ f=false:=by grind[cZ]
theorem ag9{f:Fc}(h:ir f.names=true)(hk:f.kind=3)(hn:f.rel.n=f.names.length):cZ f=cV f.rel:=by grind[awr]
theorem aha{f:Fc}(h:ir f.names=true)(hk:f.kind=4)(hn:f.rel.n=f.names.length):cZ f=th f.rel:=by grind[aws]
theorem ao5{f:Fc}(h1:¬f.kind=1)(h2:¬f.kind=2)(h3:¬f.kind=3)(w:BitVec 64):kx f w=(eY f.rel w).2:=by grind[kx]
theorem arE{f:Fc}(h:cZ f=true)(hk:f.kind=3)(w:BitVec 64):kx f w=decide (gh f.rel w=w):=by grind[PO,pZ,vK]
theorem amn{f:Fc}(h:cZ f=true):0<=yI f/\yI f<=64:=by
 have hn:=(pE h).1
 rcases(pE h).2 with k|k|⟨k,k2,k3⟩|⟨k,k2,k3⟩
 .rw[yI,aX k.1];omega
 .rw[yI,aT J,aX k.1];omega
 .rw[yI,aT J,aT J,aX k,<-Mm k3]
  have hs:=eZ k3
  have hb:= @aro f.rel (pts f.rel) J
  have h1:0<=A6 f.rel (pts f.rel)*A6 f.rel (pts f.rel):=Int.mul_nonneg hb.1 hb.1
  have h2:A6 f.rel (pts f.rel)*A6 f.rel (pts f.rel)<=8*8:=Int.mul_le_mul J J hb.1 J
  omega
 rw[yI,aT J,aT J,aT J]
 obtain⟨m,h1,-,h3⟩:=Im (jt k3).2.1 65 0 O (.inl O)
 have h1':Mb f.rel 65 (below (pts f.rel)) 0=(m:Int):=h1
 rw[aa4,aX (jt k3).2.1,h1']
 have hp:=dA f.rel
 rcases h3 with h3|h3
 .subst h3;exact⟨lW _,J⟩
 have:=KC (jt k3).2.1 m h3
 have:=aa5 h3
 show 0<=(m:Int)/\(m:Int)<=64
 omega
theorem Sr{s:Sh}(h:mC s=true):∀k:Nat,(k:Int)<=s.aY.length->0<=Cz s k/\Cz s k<=64*k
 |0,_=>⟨lW _,lW _⟩
 |k+1,hk=>by
  have ih:=Sr h k J
  have h1:=agW (s:=s) (k:=(k:Int)) J
  have h2:=amn (Pt h (k:=(k:Int)) J J)
  have h3:Cz s ((k+1:Nat):Int)=Cz s ((k:Int)+1):=rfl
  rw[h3,<-h1];omega
theorem amo{s:Sh}(h:mC s=true){k:Int}(k0:0<=k)(hk:k<=s.aY.length):0<=Cz s k/\Cz s k<=512:=by
 have h1:=Sr h k.toNat J
 have h2:=(n4 h).1
 rw[gk k0]at h1;omega
theorem UX{s:Sh}{f:Fc->BitVec 64}{k:Int}(hk:k=s.aY.length):rS (m7 (gI s f) dg k) (gI s f):=fun i hi=>by
 unfold m7
 by_cases h:(i:Int)<k
 .rw[aX h]
 rw[aT h,US J];rfl
theorem abh{s:Sh}{f:Fc->BitVec 64}(h:mC s=false):rS dg (gI s f):=fun i hi=>by
 rw[gI,aT (by rw[h];simp)];rfl
theorem CC{s:Sh}{f:Fc->BitVec 64}{e:El}{k:Int}(h:mC s=true)(he:e=m7 (gI s f) dg k)(k0:0<=k)(k1:k<s.aY.length):tA e k.toNat (f (s.aY.getD k.toNat vI))=m7 (gI s f) dg (k+1):=by grind[uQ,Sn]
theorem adC{s:Sh}{f:Fc->BitVec 64}{e:El}{k:Int}(h:mC s=true)(he:e=m7 (gI s f) dg k)(k0:0<=k)(k1:k<s.aY.length)(hf:f (s.aY.getD k.toNat vI)=0#64):e=m7 (gI s f) dg (k+1):=by
 subst he
 funext i
 unfold m7
 by_cases h1:(i:Int)<k
 .rw[aX h1,aX J]
 rw[aT h1]
 by_cases h2:(i:Int)<k+1
 .rw[aX h2,show i=k.toNat by omega,Sn h J,hf];rfl
 rw[aT h2]
theorem ahb{a b e:El}{k:Int}(he:e=m7 (o4 a b) a k)(k0:0<=k):tA e k.toNat (e k.toNat&&&b k.toNat)=m7 (o4 a b) a (k+1):=by
 subst he
 exact uQ k0 (by rw[YN k0];rfl)
theorem adD{a b e:El}{k:Int}(he:e=m7 (o4 a b) dg k)(k0:0<=k):tA e k.toNat (a k.toNat&&&b k.toNat)=m7 (o4 a b) dg (k+1):=by
 subst he
 exact uQ k0 O
theorem amp(e:El)(i:Nat)(x y:BitVec 64):tA (tA e i x) i y=tA e i y:=by grind[tA]
theorem abi{s:Sh}{a b:El}{k:Int}(k0:0<=k)(k1:k<s.aY.length)(h4:(s.aY.getD k.toNat vI).kind=4):ef s a b k.toNat=js (s.aY.getD k.toNat vI).rel (a k.toNat) (b k.toNat):=aX ⟨J,h4⟩
theorem abj{s:Sh}{a b:El}{k:Int}(k0:0<=k)(h:¬(k<s.aY.length/\(s.aY.getD k.toNat vI).kind=4)):ef s a b k.toNat=a k.toNat|||b k.toNat:=aT fun hc=>h ⟨J,hc.2⟩
def IE(t:Bool):Fc->BitVec 64:=if t=true then Fm else ew
theorem ahc:IE false=ew:=rfl
theorem YT:IE true=Fm:=rfl
theorem awt{f:Fc}{t:Bool}(h:f.kind=4):bQ f.rel (wI f.rel (if t=true then bQ f.rel else gx f.rel)).1=IE t f:=by
 cases t with
 |true=>
  show bQ f.rel (wI f.rel (bQ f.rel)).1=Fm f
  rw[Fm,aT J,aT J,aT J]
 |false=>
  show bQ f.rel (wI f.rel (gx f.rel)).1=ew f
  rw[ew,aT J]
theorem awu{f:Fc}{t:Bool}(ht:t=true)(h:f.kind=3):JW f.rel=IE t f:=by simp_all[YT,Fm]
theorem awv{f:Fc}{t:Bool}(ht:t=true)(h:f.kind=2):below f.names.length=IE t f:=by simp_all[YT,Fm]
theorem end_1{f:Fc}{t:Bool}(hf:cZ f=true)(ht:t=true)(h2:¬f.kind=2)(h3:¬f.kind=3)(h4:¬f.kind=4):below (f.names.length-1)=IE t f:=by
 subst ht
 have hn:=(pE hf).1
 rcases vK hf with k|k|k|k
 .rw[YT,Fm,aX k,awc,aX J]
 .exact absurd k h2
 .exact absurd k.1 h3
 exact absurd k h4
theorem aww{f:Fc}{t:Bool}(ht:t=false)(h4:¬f.kind=4):IE t f=0#64:=by simp_all[ahc,ew]
def OZ(l:List Tx):Bool:=decide (70<l.length)||l.any fun t=>decide (40<t.size)
def UY(s:Sh):Bool:=decide (12<s.aY.length)||s.aY.any fun f=>OZ f.names
theorem awx{s:Sh}(h:12<s.aY.length):UY s=true:=by grind[UY]
theorem ao6{s:Sh}{k:Int}(k0:0<=k)(k1:k<s.aY.length)(h:OZ (s.aY.getD k.toNat vI).names=true):UY s=true:=by
 rw[UY,p8,EW]
 exact .inr ⟨_,lO (fD (d:=vI) k0 k1),h⟩
theorem arF{l:List Tx}(h:70<l.length):OZ l=true:=by grind[OZ]
theorem arG{l:List Tx}{k:Int}(k0:0<=k)(k1:k<l.length)(h:40<(l.getD k.toNat qe).size):OZ l=true:=by
 rw[OZ,p8,EW]
 exact .inr ⟨_,lO (fD (d:=qe) k0 k1),gW h⟩
theorem amq{l:List Tx}{k:Int}(h:¬70<l.length)(hk:¬k<l.length)(hf:∀j:Int,0<=j->j<k->¬40<(l.getD j.toNat qe).size):OZ l=false:=by
 rw[OZ,gZ h,Bool.false_or,XV]
 intro x hx
 obtain⟨i,hi,rfl⟩:=ud hx
 have:=hf i J J
 rw[eA,eT,eD hi]at this
 simpa using this
theorem arH{s:Sh}{k:Int}(h:¬12<s.aY.length)(hk:¬k<s.aY.length)(hf:∀j:Int,0<=j->j<k->OZ (s.aY.getD j.toNat vI).names=false):UY s=false:=by
 rw[UY,gZ h,Bool.false_or,XV]
 intro x hx
 obtain⟨i,hi,rfl⟩:=ud hx
 have:=hf i J J
 rw[eA,eT,eD hi]at this
 simpa using this
end Go.Proofs.YtlhjdflgjbkpmaaGreatDoor.M
namespace Go.Proofs.YtlhjdflgjbkpmaaGreatDoor.E
section
open Go Go.RowKit Go.Proofs.YtlhjdflgjbkpmaaGreatDoor.M
theorem adE{s:kP}{a b e:El}{k:Int}(he:e=m7 (ef s.sh a b) a k)(k0:0<=k)(k1:k<s.aY.length)(h4:(s.aY.getD k.toNat iB).kind=4):tA e k.toNat (js (s.aY.getD k.toNat iB).rel (e k.toNat) (b k.toNat))=m7 (ef s.sh a b) a (k+1):=by
 subst he
 exact uQ k0 (by rw[YN k0,abi k0 (by rw[po];exact k1) (by rw[iF];exact h4),iF];rfl)
theorem PU{s:kP}{a b e:El}{k:Int}(he:e=m7 (ef s.sh a b) a k)(k0:0<=k)(h:¬(k<s.aY.length/\(s.aY.getD k.toNat iB).kind=4)):tA e k.toNat (e k.toNat|||b k.toNat)=m7 (ef s.sh a b) a (k+1):=by
 subst he
 exact uQ k0 (by rw[YN k0,abj k0 (by rw[po,iF];exact h)])
theorem YU{s:kP}{a b e:El}{k:Int}{x:BitVec 64}(he:e=m7 (ef s.sh a b) dg k)(k0:0<=k)(k1:k<s.aY.length)(h4:(s.aY.getD k.toNat iB).kind=4):tA (tA e k.toNat x) k.toNat (js (s.aY.getD k.toNat iB).rel (a k.toNat) (b k.toNat))=m7 (ef s.sh a b) dg (k+1):=by
 subst he
 rw[amp]
 exact uQ k0 (by rw[abi k0 (by rw[po];exact k1) (by rw[iF];exact h4),iF];rfl)
theorem MB{s:kP}{a b e:El}{k:Int}(he:e=m7 (ef s.sh a b) dg k)(k0:0<=k)(h:¬(k<s.aY.length/\(s.aY.getD k.toNat iB).kind=4)):tA e k.toNat (a k.toNat|||b k.toNat)=m7 (ef s.sh a b) dg (k+1):=by
 subst he
 exact uQ k0 (by rw[abj k0 (by rw[po,iF];exact h)])
def wK(s:kP):List Value:=[B s.tuple,s.fv]
theorem MC(s:kP):(wK s).length=2:=rfl
def DV:kP:=⟨false,.slice none 0 0,[]⟩
structure PV(K:Vu)(l:List kP):Prop where
 each:∀s∈l,k7 K s
theorem PV.at{K:Vu}{l:List kP}(h:PV K l){k:Int}(h0:0<=k)(h1:k<l.length):k7 K (l.getD k.toNat DV):=h.each _ (lO (fD (d:=DV) h0 h1))
theorem PV.mono{K K':Vu}{l:List kP}(h:PV K l)(hl:Le K K'):PV K' l:=⟨fun s hs=>(h.each s hs).mono hl⟩
structure tC(K:Vu)(l:List qw):Prop where
 each:∀f∈l,wJ K f
theorem tC.mono{K K':Vu}{l:List qw}(h:tC K l)(hl:Le K K'):tC K' l:=⟨fun s hs=>(h.each s hs).mono hl⟩
theorem tC.nil(K:Vu):tC K []:=⟨fun f hf=>by simp at hf⟩
theorem tC.snoc{K:Vu}{l:List qw}{f:qw}(h:tC K l)(hf:wJ K f):tC K (l++[f]):=⟨fun x hx=>by
 rcases fg.1 hx with hx|hx
 .exact h.each x hx
 simp at hx;subst hx;exact hf⟩
theorem tC.app{K:Vu}{l m:List qw}(h:tC K l)(hf:tC K m):tC K (l++m):=⟨fun x hx=>by
 rcases fg.1 hx with hx|hx
 .exact h.each x hx
 exact hf.each x hx⟩
theorem tC.at{K:Vu}{l:List qw}(h:tC K l){k:Int}(h0:0<=k)(h1:k<l.length):wJ K (l.getD k.toNat iB):=h.each _ (lO (fD (d:=iB) h0 h1))
def A8(l:List kP):List Fc:=l.flatMap fun s=>s.sh.aY
theorem adF{l:List kP}{k:Int}(h0:0<=k)(h1:k<l.length):A8 (l.take (k+1).toNat)=A8 (l.take k.toNat)++(l.getD k.toNat DV).sh.aY:=by
 have h2:k.toNat<l.length:=J
 rw[show(k+1).toNat=k.toNat+1 by omega,xM,A8,F5,eT,eD h2]
 simp[A8]
theorem ahd{l:List kP}{k:Int}(h:¬k<l.length):A8 (l.take k.toNat)=A8 l:=by grind[List.take_of_length_le]
theorem IF{l:List qw}{k:Int}(h0:0<=k)(h1:k<l.length):(l.take (k+1).toNat).map qw.fc=(l.take k.toNat).map qw.fc++[(l.getD k.toNat iB).fc]:=by
 have h2:k.toNat<l.length:=J
 rw[show(k+1).toNat=k.toNat+1 by omega,xM,gU,eT,eD h2]
 simp
theorem amr{b:Bool}{v:Value}(h:v.oneCell'=true):∀u∈(#[B b,v]:Array Value),u.oneCell'=true:=fun u hu=>by
 simp only[Ll,c8,List.not_mem_nil,Cd]at hu
 rcases hu with rfl|rfl
 .rfl
 exact h
theorem ams{Z L:List bu}{i:Nat}{x:bu}(h:L[i]?=some x):(Z++L)[Z.length+i]?=some x:=by grind
theorem MD{K:Vu}{f:qw}(h:wJ K f):∀u∈[f].flatMap sH,u.oneCell'=true:=by simpa using UP h
theorem adG{K:Vu}{f:qw}{v:Value}(h:wJ K f)(hv:v.oneCell'=true):∀u∈sH {f with nv:=v},u.oneCell'=true:=by
 intro u hu
 rw[sH,c8,c8]at hu
 rcases hu with rfl|rfl|hu
 .rfl
 .exact hv
 exact L5 f.rel u (by rw[jr];simpa using hu)
section runs
variable{P:Program}{σ:Env}{w:World}{dst:Option Tmp}{ty t u e:TypeId}{pos:String}{bO:Array Edge}{g:Option (Nat×Bool)}{x y:Operand}{b:Nat}{fr:Nat×Nat}
theorem YV{f f0:qw}(h:∀u∈sH f,u.oneCell'=true)(hi:(P.info? t).map (·.size)=some 67)(hx:ev σ x= .pointer (some ⟨b,0,none⟩))(hy:ev σ y= .agg (uR f))(hg:w.heap[b]?=some (.cells (uR f0) e (0,0))):
 (execOp (ev σ) ⟨dst,.store t x y,ty,pos,bO,g⟩).run P w= .ok .skip (w.setRow b (uR f)):=by grind[dO,fy]
theorem YW{f:qw}{v:Value}(hi:(P.info? t).map (·.size)=some 1)(hx:ev σ x= .pointer (some ⟨b,0+1,none⟩))(hy:ev σ y=v)(hv:v.cells=#[v])(h1:v.oneCell'=true)(hg:w.heap[b]?=some (.cells (uR f) e (0,0))):
  (execOp (ev σ) ⟨dst,.store t x y,ty,pos,bO,g⟩).run P w= .ok .skip (w.setRow b (uR {f with nv:=v})):=by
 have h:=bL (P:=P) (dst:=dst) (ty:=ty) (pos:=pos) (bO:=bO) (g:=g) hi hx hy hv h1 hg (by simp[fy])
 rw[h];congr 2
theorem ahe{K:Vu}{s:kP}(h:k7 K s):∀u∈qJ s,u.oneCell'=true:=by
 intro u hu
 have h1:=l7 h.aY
 simp at hu
 rcases hu with rfl|rfl
 .rfl
 exact h1.1
theorem DI{K:Vu}{s:kP}{c:Array Value}(h:k7 K s)(hi:(P.info? t).map (·.size)=some 2)(hx:ev σ x= .pointer (some ⟨b,0,none⟩))(hy:ev σ y= .agg (qJ s))(hg:w.heap[b]?=some (.cells c e (0,0)))(hc:c.size=2):
 (execOp (ev σ) ⟨dst,.store t x y,ty,pos,bO,g⟩).run P w= .ok .skip (w.setRow b (qJ s)):=by grind[dO,ahe]
theorem zY{len:Nat}{ps:List (Nat×Operand)}{l:List qw}{ie:TypeInfo}{z:Value}
  (hu:P.underlying t=some (.slice e)) (hie:P.info? e=some ie) (hz:ie.zero=some z) (hsz:ie.size=67) (hl:l.length=len) (hsmall:¬len*67>2^24) (hpos:¬len*67=0)
  (h:ps.map (fun p=>(p.1,ev σ p.2))=((l.map fun f=>Value.agg (uR f)).zipIdx.map fun p=>(p.2,p.1))):
  (execOp (ev σ) ⟨dst,.buildSlice t len ps.toArray,ty,pos,bO,g⟩).run P w= .ok (.value (.slice (some ⟨w.heap.size,0,none⟩) len len)) (w.alloc (.cells (l.flatMap sH).toArray e)):=by
 have h2:=cB (P:=P) (σ:=σ) (w:=w) (dst:=dst) (ty:=ty) (pos:=pos) (bO:=bO) (g:=g) (vs:=l.map fun f=>Value.agg (uR f)) (sz:=67) hu hie hz hsz (by rw[gF];exact hl) hsmall hpos h (by
  rw[iS];intro v hv
  rw[fZ]at hv
  obtain⟨r,_,rfl⟩:=hv
  simp[Value.cells,fy])
 have h3:(l.map fun f=>Value.agg (uR f)).flatMap (·.cells.toList)=l.flatMap sH:=by
  rw[XZ];rfl
 rw[h3]at h2;exact h2
theorem ME{len:Nat}{ps:List (Nat×Operand)}{l:List kP}{ie:TypeInfo}{z:Value}
  (hu:P.underlying t=some (.slice e)) (hie:P.info? e=some ie) (hz:ie.zero=some z) (hsz:ie.size=2) (hl:l.length=len) (hsmall:¬len*2>2^24) (hpos:¬len*2=0)
  (h:ps.map (fun p=>(p.1,ev σ p.2))=((l.map fun f=>Value.agg (qJ f)).zipIdx.map fun p=>(p.2,p.1))):
  (execOp (ev σ) ⟨dst,.buildSlice t len ps.toArray,ty,pos,bO,g⟩).run P w= .ok (.value (.slice (some ⟨w.heap.size,0,none⟩) len len)) (w.alloc (.cells (l.flatMap wK).toArray e)):=by
 have h2:=cB (P:=P) (σ:=σ) (w:=w) (dst:=dst) (ty:=ty) (pos:=pos) (bO:=bO) (g:=g) (vs:=l.map fun f=>Value.agg (qJ f)) (sz:=2) hu hie hz hsz (by rw[gF];exact hl) hsmall hpos h (by
  rw[iS];intro v hv
  rw[fZ]at hv
  obtain⟨r,_,rfl⟩:=hv
  simp[Value.cells])
 have h3:(l.map fun f=>Value.agg (qJ f)).flatMap (·.cells.toList)=l.flatMap wK:=by
  rw[XZ];rfl
 rw[h3]at h2;exact h2
theorem Hp.iu{w0 w:World}{L:List bu}{i b:Nat}{α:Type}{cl:α->List Value}{sz:Nat}{l:List α}{e:TypeId}(hsz:∀a,(cl a).length=sz)(h:Hp w0 w L)(hi:L[i]?=some (.blk b (.cells (l.flatMap cl).toArray e (0,0))))(hs:l.length<=maxLen):
  Sl w (.slice (some ⟨b,0,none⟩) l.length l.length) sz l.length (l.flatMap cl):=by
 have h2:=h.dR (n:=l.length) (sz:=sz) hi (by rw[vb,fK hsz]) hs
 exact h2
def aDg(v:Value)(sz i j:Nat):Value:=
 match v with
 | .slice (some a) _ c=> .slice (some ⟨a.block,a.off+i*sz,none⟩) (j-i) (c-i)
 |v=>v
theorem Sl.part{v:Value}{sz n:Nat}{cells:List Value}(h:Sl w v sz n cells){i j:Nat}(hij:i<j)(hj:j<=n):Sl w (aDg v sz i j) sz (j-i) ((cells.drop (i*sz)).take ((j-i)*sz)):=by
 obtain⟨a,cap,hv,hnc,ha⟩:=h.shape
 have ha':=ha J
 subst ha'
 rw[hv]at ha⊢
 have hb1:sb v=sb (.slice (some ⟨sb v,so v,none⟩) n cap):=rfl
 refine⟨⟨_,cap-i,rfl,J,fun _=>rfl⟩,?_,fun k c hc=> ?_,by have:=h.small;omega⟩
 .have h1:i*sz+(j-i)*sz<=n*sz:=by
   rw[<-lm];exact s4 _ J
  rw[er,yB,h.len];omega
 rw[qS]at hc
 split at hc
 .rw[B3]at hc
  have:=h.cell _ _ hc
  show w.cell? ⟨sb v,so v+i*sz+k,none⟩=some c
  rw[xR];exact this
 .cases hc
end runs
theorem Hp.amt{w0 w:World}{Z L:List bu}(h:Hp w0 w (Z++L)):Hp w0 w (L++Z):=h.perm tZ
theorem UZ{s:Sh}{a b:El}(hs:s.aY.length<=8)(h:rS a b):m8 s a=m8 s b:=by
 rw[m8,m8,Fp,Fp]
 congr 1
 refine HE fun x hx=> ?_
 have:=cK.1 hx
 rw[h x.toNat J]
def aDh:List Tx:=[⟨#[97]⟩,⟨#[98]⟩,⟨#[99]⟩]
def aDi:List Tx:=[⟨#[120]⟩,⟨#[121]⟩]
def aMi:Sh:=⟨true,[⟨1,aDh,Rl.none⟩,⟨2,aDi,Rl.none⟩]⟩
theorem aDj{P:Program}{n:Nat}{k:K}{xs:List (Nat×K)}{r:K}{σ:Env}{w:World}{x y:Code}(ws:List Nat)(R:K)(h:CW P n x (fun s w=>Fr ws σ s/\R s w) xs r σ w)(h':∀s w,Fr ws σ s->R s w->CW P n y k xs r s w):CW P n (.seq x y) k xs r σ w:=by grind[afQ]
theorem arJ{P:Program}{n:Nat}{l:List Oper}{S:World->Prop}{k:K}{σ:Env}{w:World}{fuel:Nat}{listed:Array Bool}(i j m:Nat)(hr:Region.ready .any l.toArray listed=[i,j,m])(h1:AO P n l S k fuel listed σ w i)(h2:AO P n l S k fuel listed σ w j)(h3:AO P n l S k fuel listed σ w m):AN P n l S k (fuel+1) listed σ w:=by simp_all[aaX]
section runs
variable{P:Program}{σ:Env}{w:World}{dst:Option Tmp}{ty t u e:TypeId}{pos:String}{bO:Array Edge}{g:Option (Nat×Bool)}{x y:Operand}{b:Nat}{fr:Nat×Nat}
theorem ja{d:TypeDesc}{o:Nat}{cs:Array Value}{sub:List Value}(hu:P.underlying t=some d)(hd:d.isRow=true)(hi:(P.info? t).map (·.size)=some sub.length)(hx:ev σ x= .pointer (some ⟨b,o,none⟩))
  (hg:w.heap[b]?=some (.cells cs e fr)) (hc:(cs.toList.drop o).take sub.length=sub):(execOp (ev σ) ⟨dst,.load t x,ty,pos,bO,g⟩).run P w= .ok (.value (.agg sub.toArray)) w:=by
 refine cF hu hd hi hx fun j c hj=> ?_
 rw[xS w _ _ _ _ _ hg]
 have hl:=(nX.1 hj).1
 rw[<-hc,qS,aX hl,B3]at hj
 simpa using hj
theorem PW{o:Nat}{c:Array Value}{sub c':List Value}(hi:(P.info? t).map (·.size)=some sub.length)(hx:ev σ x= .pointer (some ⟨b,o,none⟩))(hy:ev σ y= .agg sub.toArray)(h1:∀u∈sub,u.oneCell'=true)
  (hg:w.heap[b]?=some (.cells c e (0,0))) (ho:o+sub.length<=c.size) (hc:c.toList.take o++sub++c.toList.drop (o+sub.length)=c'):
  (execOp (ev σ) ⟨dst,.store t x y,ty,pos,bO,g⟩).run P w= .ok .skip (w.setRow b c'.toArray):=by
 have hs:=zN (P:=P) (off:=o) hg sub ho h1
 have hz:(sizeOf t).run P w= .ok sub.length w:=by
  cases hq:P.info? t with
  |none=>simp[hq]at hi
  |some i=>simp[hq]at hi;simp[sizeOf,typeInfo,hq,hi]
 rw[hc]at hs
 simp[execOp,hx,hy,Instr.storeAt,Instr.sureAddr,storeVar,Value.cells,hz,hs]
variable{α:Type}{cl:α->List Value}{sz:Nat}
theorem ou{len:Nat}{ps:List (Nat×Operand)}{l:List α}{ie:TypeInfo}{z:Value}(ov:∀a,(cl a).length=sz)
  (hu:P.underlying t=some (.slice e)) (hie:P.info? e=some ie) (hz:ie.zero=some z) (hsz:ie.size=sz) (hl:l.length=len) (hsmall:¬len*sz>2^24) (hpos:¬len*sz=0)
  (h:ps.map (fun p=>(p.1,ev σ p.2))=((l.map fun f=>Value.agg (cl f).toArray).zipIdx.map fun p=>(p.2,p.1))):
  (execOp (ev σ) ⟨dst,.buildSlice t len ps.toArray,ty,pos,bO,g⟩).run P w= .ok (.value (.slice (some ⟨w.heap.size,0,none⟩) len len)) (w.alloc (.cells (l.flatMap cl).toArray e)):=by
 have h2:=cB (P:=P) (σ:=σ) (w:=w) (dst:=dst) (ty:=ty) (pos:=pos) (bO:=bO) (g:=g) (vs:=l.map fun f=>Value.agg (cl f).toArray) (sz:=sz) hu hie hz hsz (by rw[gF];exact hl) hsmall hpos h (by
  rw[iS];intro v hv
  rw[fZ]at hv
  obtain⟨r,_,rfl⟩:=hv
  simp[Value.cells,ov])
 have h3:(l.map fun f=>Value.agg (cl f).toArray).flatMap (·.cells.toList)=l.flatMap cl:=by
  rw[XZ]
  show(l.flatMap fun f=>(cl f).toArray.toList)=_
  simp
 rw[h3]at h2;exact h2
theorem bZ{w1:World}{v:Value}{n1 n2:Nat}{cells:List Value}{d:TypeDesc}{o:Nat}(_hS:Sl w1 v n1 n2 cells)(hu:P.underlying t=some d)(hd:d.isRow=false)(hx:ev σ x= .pointer (some ⟨b,o,none⟩))(hc:w.cell? ⟨b,o,none⟩=some v):
 (execOp (ev σ) ⟨dst,.load t x,ty,pos,bO,g⟩).run P w= .ok (.value v) w:=aG hu hd hx hc
theorem ahf{a cs:List Value}{o:Nat}(h:(a.drop o).take cs.length=cs):∀(j:Nat) (c:Value),cs[j]?=some c->a[o+j]?=some c:=by grind
end runs
structure aDk(P:Program)(d:Nat)(xs ys:Array Value)(f:Field)(b:Bool):Prop where
 nm:f.name≠ "_"
 run:∃u v,(∀w,(part f.type xs f.offset).run P w= .ok u w)/\(∀w,(part f.type ys f.offset).run P w= .ok v w)/\∀w,(Op.equalIn d f.type u v).run P w= .ok b w
inductive U0(P:Program)(d:Nat)(xs ys:Array Value):List Field->List Bool->Prop
 |nil:U0 P d xs ys [] []
 |cons {f:Field} {fs:List Field} {b:Bool} {bs:List Bool} (h:aDk P d xs ys f b) (hs:U0 P d xs ys fs bs):U0 P d xs ys (f::fs) (b::bs)
theorem U0.eq{P:Program}{d:Nat}{xs ys:Array Value}{fs:List Field}{bs:List Bool}(h:U0 P d xs ys fs bs)(w:World):(Op.eqFields d xs ys fs).run P w= .ok (bs.all id) w:=by
 induction h with
 |nil=>rfl
 |cons h _ ih=>
  obtain⟨u,v,h1,h2,h3⟩:=h.run
  rename_i b bs _
  simp only[Op.eqFields,h.nm,ne_eq,XT,uu,uh,h1,h2,h3,xL]
  cases b with
  |true=>simpa using ih
  |false=>simp
structure EqT(P:Program)(t:TypeId)(xs ys:Array Value)(c:Bool):Prop where
 eg:P.eqGuardType P.depth t=false
 eq:∀w,(Op.equalIn 10000 t (.agg xs) (.agg ys)).run P w= .ok c w
theorem EqT.conv{P:Program}{t:TypeId}{xs ys:Array Value}{c c':Bool}(h:EqT P t xs ys c)(e:c=c'):EqT P t xs ys c':=e▸h
section
variable{P:Program}{d:Nat}{xs ys:Array Value}{f:Field}
end
section
variable{P:Program}{σ:Env}{w:World}{dst:Option Tmp}{ty t u:TypeId}{pos:String}{bO:Array Edge}{g:Option (Nat×Bool)}{x y:Operand}{xs ys:Array Value}{c:Bool}
end
theorem Fq{P:Program}{n:Nat}{k:K}{xs:List (Nat×K)}{r:K}{σ:Env}{w0 w:World}{x y:Code}{L:List bu}{G:Type}(_hH:Hp w0 w L)(ws:List Nat)(up:List bu->G->List bu)(Q:G->Env->Prop)
 (h:CW P n x (fun s w'=>Fr ws σ s/\∃g,Hp w0 w' (up L g)/\Q g s) xs r σ w) (h':∀g s w',Fr ws σ s->Hp w0 w' (up L g)->Q g s->CW P n y k xs r s w'):CW P n (.seq x y) k xs r σ w:=by grind[afQ]
theorem Le.Iz{K:Vu}{Z Y:List bu}:Le (Kz K Z) (Kz K (Y++Z)):=by grind[Le.zz]
def aMj(q:Value->World->Prop)(e:Ending)(w:World):Prop:=jW q e w
section calls
variable{P:Program}{n:Nat}{ops:Array Oper}{k:K}{rest:List Oper}{σ:Env}{w0 w:World}{L:List bu}{op:Op}{ty:TypeId}{pos:String}{bO:Array Edge}{d:Nat}{q:Value->World->Prop}
theorem cw{f:FuncId}{args:Array Value}(hd:Nat.blt d n=true)(hc:Calls P f args w (jW q))
  (hr:(execOp (ev σ) ⟨some d,op,ty,pos,bO,none⟩).run P w= .ok (.enter f args) w)
  (hk:∀v w',q v w'->RL P n ops k rest (lX σ d v) w'):RL P n ops k (⟨some d,op,ty,pos,bO,none⟩::rest) σ w:=
 H8 hd hr hc hk
variable{l:List Oper}{i fuel:Nat}{listed:Array Bool}{g:Option (Nat×Bool)}{L':List bu}
theorem yc{f:FuncId}{args:Array Value}(hi:l[i]?=some ⟨some d,op,ty,pos,bO,g⟩)(hg:∀a,Is n σ a->Region.wanted ⟨some d,op,ty,pos,bO,g⟩ (yielded l.toArray a.tmps)=true)(hd:Nat.blt d n=true)
 (hc:Calls P f args w (jW q)) (hr:(execOp (ev σ) ⟨some d,op,ty,pos,bO,g⟩).run P w= .ok (.enter f args) w)
 (hs:∀v w',q v w'->Hp w0 w' L)
 (h:∀v w',q v w'->AN P n l (fun w=>Hp w0 w L) k fuel (listed.setIfInBounds i true) (lX σ d v) w'):AO P n l (fun w=>Hp w0 w L) k fuel listed σ w i:=by grind[R7]
end calls
section
variable{P:Program}{fn:Func}{w0 w:World}{L:List bu}{i j p p2 t:Nat}{q:Value->World->Prop}{d d2:TypeDesc}{c c2:Array Value}{ty ty2 e e2:TypeId}{b b2:Nat}{fr U1:Nat×Nat}{σ:Env}{v:Value}
theorem Ep(h:fn.results=#[.cell p ty,.tmp t])(hp:σ p= .pointer (some ⟨b,0,none⟩))(ht:σ t=v)(hH:Hp w0 w L)
  (hi:L[i]?=some (.blk b (.cells c e fr))) (hu:P.underlying ty=some d) (hd:d.isRow=true) (hz:(P.info? ty).map (·.size)=some c.size) (hq:q (.tuple #[.agg c,v]) w):Out P fn q σ w:=
 fun n a ha=>⟨_,by
  have h1:a.tmps[p]?.getD undef= .pointer (some ⟨b,0,none⟩):=by have:=ha.get p;rw[hp]at this;simpa using this
  have h2:a.tmps[t]?.getD undef=v:=by have:=ha.get t;rw[ht]at this;simpa using this
  simp[results,h,h1,h2,asAddr,run_loadVar_row (P:=P) w b e ty c fr d (hH.blk hi) hu (by cases d<;>simp_all) hz],hq⟩
end
end
end Go.Proofs.YtlhjdflgjbkpmaaGreatDoor.E
namespace Go.Proofs.YtlhjdflgjbkpmaaGreatDoor.M
section
open Go
structure vN where
 name:Tx
 kind:Int
 a8:Int
deriving DecidableEq
structure Wd where
 text:Tx
 place:Int
structure Flt where
 cls:Int
 place:Int
deriving DecidableEq
def awy:Flt:=⟨0,0⟩
def wd0:Wd:=⟨qe,0⟩
def fp:vN:=⟨qe,0,0⟩
def awz(b f:Flt):Flt:=if f.cls≠0/\(b.cls=0\/f.cls<b.cls\/(f.cls=b.cls/\f.place<b.place))then f else b
def aB1(l:List Flt)(k:Int):Flt:=(l.take k.toNat).foldl awz awy
def aDm(l:List Wd):List Tx:=l.map Wd.text
end
end Go.Proofs.YtlhjdflgjbkpmaaGreatDoor.M
namespace Go.Proofs.YtlhjdflgjbkpmaaGreatDoor.E
section
open Go Go.RowKit Go.Proofs.YtlhjdflgjbkpmaaGreatDoor.M
structure DW where
 name:Tx
 yK:kP
def lH:DW:=⟨qe,DV⟩
def MF(l:DW):List Value:=[S l.name,B l.yK.tuple,l.yK.fv]
theorem m9(l:DW):(MF l).length=3:=rfl
def OU(v:vN):List Value:=[S v.name,I v.kind,I v.a8]
theorem tD(v:vN):(OU v).length=3:=rfl
def wdL(x:Wd):List Value:=[S x.text,I x.place]
def aMk(f:Flt):List Value:=[I f.cls,I f.place]
structure mv where
 lv:Value
 aq:List DW
 vv:Value
 vars:List vN
abbrev Ss(s:mv):Array Value:=#[s.lv,s.vv]
structure DX(K:Vu)(s:mv):Prop where
 aq:pB K s.lv 3 s.aq.length (s.aq.flatMap MF)
 vars:pB K s.vv 3 s.vars.length (s.vars.flatMap OU)
 each:∀l∈s.aq,k7 K l.yK
theorem DX.mono{K K':Vu}{s:mv}(h:DX K s)(hl:Le K K'):DX K' s:=⟨h.aq.mono hl,h.vars.mono hl,fun l hm=>(h.each l hm).mono hl⟩
theorem DX.at{K:Vu}{s:mv}(h:DX K s){k:Int}(h0:0<=k)(h1:k<s.aq.length):k7 K (s.aq.getD k.toNat lH).yK:=h.each _ (lO (fD (d:=lH) h0 h1))
theorem U2{K:Vu}{l:DW}(h:k7 K l.yK):∀u∈(MF l).toArray,u.oneCell'=true:=by
 intro u hu
 have h1:=l7 h.aY
 simp[MF]at hu
 rcases hu with rfl|rfl|rfl
 .rfl
 .rfl
 exact h1.1
section
variable{P:Program}{σ:Env}{w:World}{dst:Option Tmp}{ty t e:TypeId}{pos:String}{bO:Array Edge}{g:Option (Nat×Bool)}{x:Operand}{b:Nat}{fr:Nat×Nat}
end
theorem Gs{α:Type}{l:List α}{d:α}{P:α->Bool}{k:Int}(h0:0<=k)(h1:k<l.length)(h:P (l.getD k.toNat d)=true):l.any P=true:=by grind
theorem St{α:Type}{l:List α}{d:α}{P:α->Bool}{k:Int}(hk:¬k<l.length)(h:∀j:Int,0<=j->j<k->P (l.getD j.toNat d)=false):l.any P=false:=by grind[List.any_eq_false,List.getElem_of_mem,Int.toNat_natCast,List.getElem?_eq_getElem]
def U3(l:DW):Bool:=UY l.yK.sh||decide (40<l.name.size)
def arL(v:vN):Bool:=decide (40<v.name.size)
def vO(s:mv):Bool:=decide (20<s.aq.length\/80<s.vars.length)||s.aq.any U3||s.vars.any arL
def abk(s:mv)(t:Tx):Int:=tj (fun i=>decide ((s.aq.getD i.toNat lH).name=t)) s.aq.length
def aB2(s:mv)(t:Tx):Int:=tj (fun i=>decide ((s.vars.getD i.toNat fp).name=t)) s.vars.length
def aJm(s:mv)(l:List Wd):List kP:=l.filterMap fun x=>if 0<=abk s x.text then some (s.aq.getD (abk s x.text).toNat lH).yK else none
inductive fB where
 |mk (kind place:Int) (text:Tx) (nv:Value) (names:List Wd) (kv:Value) (kids:List fB)
def fB.kind:fB->Int
 | .mk k _ _ _ _ _ _=>k
def fB.place:fB->Int
 | .mk _ p _ _ _ _ _=>p
def fB.text:fB->Tx
 | .mk _ _ t _ _ _ _=>t
def fB.nv:fB->Value
 | .mk _ _ _ v _ _ _=>v
def fB.names:fB->List Wd
 | .mk _ _ _ _ l _ _=>l
def fB.kv:fB->Value
 | .mk _ _ _ _ _ v _=>v
def fB.kids:fB->List fB
 | .mk _ _ _ _ _ _ k=>k
def ahg(n:fB):List Value:=[I n.kind,I n.place,S n.text,n.nv,n.kv]
inductive rA(K:Vu):fB->Prop
 |mk {kind place:Int} {text:Tx} {nv:Value} {names:List Wd} {kv:Value} {kids:List fB} (hn:pB K nv 2 names.length (names.flatMap wdL)) (hk:pB K kv 5 kids.length (kids.flatMap ahg)) (each:∀x∈kids,rA K x):rA K (.mk kind place text nv names kv kids)
abbrev Pw:=Wd×Wd
def pwL(p:Pw):List Value:=[S p.1.text,I p.1.place,S p.2.text,I p.2.place]
structure amv where
 op:Int
 place:Int
 name:Wd
 nv:Value
 names:List Wd
 pv:Value
 pairs:List Pw
 pat:Int
 left:fB
 right:fB
def aMm(c:amv):List Value:=[I c.op,I c.place,S c.name.text,I c.name.place,c.nv,c.pv,I c.pat]++ahg c.left++ahg c.right
structure arM(K:Vu)(c:amv):Prop where
 names:pB K c.nv 2 c.names.length (c.names.flatMap wdL)
 pairs:pB K c.pv 4 c.pairs.length (c.pairs.flatMap pwL)
 left:rA K c.left
 right:rA K c.right
theorem xg(l:DW):∀(j:Nat) (c:Value),(wK l.yK)[j]?=some c->(MF l)[1+j]?=some c:=by grind[DW,wK,MF]
def pw0:Pw:=(wd0,wd0)
def DY(s:mv):List Value:=[s.lv,s.vv]
def aMn:mv:=⟨.slice none 0 0,[],.slice none 0 0,[]⟩
theorem Su{K:Vu}{v:Value}{sz n:Nat}{c:List Value}(h:pB K v sz n c):v.oneCell'=true/\v.cells=#[v]:=l7 h
def MG:fB:= .mk 0 0 qe (.slice none 0 0) [] (.slice none 0 0) []
theorem rA.each{K:Vu}{n:fB}(h:rA K n):∀x∈n.kids,rA K x:=by cases h;assumption
theorem rA.at{K:Vu}{n:fB}(h:rA K n){k:Int}(h0:0<=k)(h1:k<n.kids.length):rA K (n.kids.getD k.toNat MG):=h.each _ (lO (fD (d:=MG) h0 h1))
theorem rA.mono{K K':Vu}(hl:Le K K'){n:fB}(h:rA K n):rA K' n:=by
 induction h with
 |mk hn hk _ ih=>exact .mk (hn.mono hl) (hk.mono hl) ih
def aMo:amv:=⟨0,0,wd0,.slice none 0 0,[],.slice none 0 0,[],0,MG,MG⟩
theorem arM.mono{K K':Vu}{c:amv}(h:arM K c)(hl:Le K K'):arM K' c:=⟨h.names.mono hl,h.pairs.mono hl,rA.mono hl h.left,rA.mono hl h.right⟩
structure yd(K:Vu)(l:List fB):Prop where
 each:∀x∈l,rA K x
theorem yd.mono{K K':Vu}{l:List fB}(h:yd K l)(hl:Le K K'):yd K' l:=⟨fun x hx=>rA.mono hl (h.each x hx)⟩
theorem yd.at{K:Vu}{l:List fB}(h:yd K l){k:Int}(h0:0<=k)(h1:k<l.length):rA K (l.getD k.toNat MG):=h.each _ (lO (fD (d:=MG) h0 h1))
def ahh(l:List Wd):Bool:=l.all fun x=>iQ x.text
abbrev byL(s:Tx):List Value:=Go.Lib.strCells s
theorem qy(a b:Tx):(a++b).size=a.size+b.size:=ByteArray.size_append
def tc(c:UInt8):Tx:=⟨#[c]⟩
section
variable{P:Program}{w0 w:World}{L:List bu}
variable{n:Nat}{ops:Array Oper}{k:K}{rest l:List Oper}{σ:Env}{op:Op}{ty:TypeId}{pos:String}{bO:Array Edge}{d:Nat}{x y:Operand}{dst:Option Tmp}{g:Option (Nat×Bool)}
variable{fuel i:Nat}{listed:Array Bool}{L':List bu}
end
inductive Nd where
 |mk (kind place:Int) (text:Tx) (names:List Wd) (kids:List Nd)
def Nd.kind:Nd->Int
 | .mk k _ _ _ _=>k
def Nd.place:Nd->Int
 | .mk _ p _ _ _=>p
def Nd.text:Nd->Tx
 | .mk _ _ t _ _=>t
def Nd.names:Nd->List Wd
 | .mk _ _ _ n _=>n
def Nd.kids:Nd->List Nd
 | .mk _ _ _ _ k=>k
def nd0:Nd:= .mk 0 0 qe [] []
theorem ahi{C:Nd->Prop}(h:∀n,(∀x∈n.kids,C x)->C n)(n:Nd):C n:=h n fun x hx=>ahi h x
termination_by SizeOf.sizeOf n
decreasing_by
 cases n
 simp only[Nd.kids]at hx
 have:=Lc hx
 simp only[Nd.mk.sizeOf_spec]
 omega
def fB.nd:fB->Nd
 | .mk k p t _ n _ ks=> .mk k p t n (ks.attach.map fun x=>x.1.nd)
termination_by n=>SizeOf.sizeOf n
decreasing_by
 have:=Lc x.2
 simp only[fB.mk.sizeOf_spec]
 omega
def ao7(k:Nd):Bool:=decide (k.kind=6)&&iQ k.text&&ahh k.names&&decide (k.kids.length=0)
def YX:Nd->Bool
 | .mk kind _ text names kids=>
  if kind=2 then iQ text&&decide (names.length=0/\kids.length=0)
  else if kind=3 then decide (text=qe)&&ahh names&&decide (kids.length=0)
  else if kind=4 then decide (text=qe)&&decide (names.length=0)&&decide (0<kids.length)&&kids.attach.all fun x=>YX x.1
  else if kind=5 then decide (text=qe)&&decide (names.length=0)&&kids.all ao7
  else false
termination_by n=>SizeOf.sizeOf n
decreasing_by
 have:=Lc x.2
 simp only[Nd.mk.sizeOf_spec]
 omega
def xh:List Tx->Tx
 |[]=>qe
 |x::l=>l.foldl (fun a y=>a++tc 44++y) x
def MH(l:List Wd):Tx:=xh (l.map Wd.text)
def uI:Nd->Tx
 | .mk kind _ text names kids=>
  if kind=1\/kind=2 then text
  else if kind=3 then tc 123++MH names++tc 125
  else if kind=4 then tc 40++xh (kids.attach.map fun x=>uI x.1)++tc 41
  else if kind=5 then tc 91++xh (kids.attach.map fun x=>uI x.1)++tc 93
  else if kind=6 then text++⟨#[58,123]⟩++MH names++tc 125
  else qe
termination_by n=>SizeOf.sizeOf n
decreasing_by
 all_goals
  have:=Lc x.2
  simp only[Nd.mk.sizeOf_spec]
  omega
theorem amw(n:Nd):uI n=if n.kind=1\/n.kind=2 then n.text
  else if n.kind=3 then tc 123++MH n.names++tc 125
  else if n.kind=4 then tc 40++xh (n.kids.map uI)++tc 41
  else if n.kind=5 then tc 91++xh (n.kids.map uI)++tc 93
  else if n.kind=6 then n.text++⟨#[58,123]⟩++MH n.names++tc 125
  else qe:=by
 cases n with
 |mk k p t names kids=>
 have h:(kids.attach.map fun x=>uI x.1)=kids.map uI:=aJ
 rw[uI,h];rfl
section
variable{n:fB}
end
theorem MI{α:Type}{l:List α}{d:α}{P:α->Bool}{k:Int}(h0:0<=k)(h1:k<l.length)(h:P (l.getD k.toNat d)=false):l.all P=false:=by grind
theorem Gt{α:Type}{l:List α}{d:α}{P:α->Bool}{k:Int}(hk:¬k<l.length)(h:∀j:Int,0<=j->j<k->P (l.getD j.toNat d)=true):l.all P=true:=by grind[List.all_eq_true,List.getElem_of_mem,Int.toNat_natCast,List.getElem?_eq_getElem]
abbrev Ex(α:Type):=Except Int α
def awA(l:List Tx):List Wd->BitVec 64->Ex (BitVec 64)
 |[],s=> .ok s
 |x::w,s=>if ry l x.text<0 then .error x.place else awA l w (vB s (ry l x.text))
def abl(l:List Tx)(w:List Wd):Ex (BitVec 64):=awA l w 0#64
def Fs(f:Fc):List Nd->BitVec 64->Ex (BitVec 64)
 |[],w=> .ok w
 |k::ks,w=>if ry f.names k.text<0 then .error k.place else
  match abl f.names k.names with
  | .error a=> .error a
  | .ok s=>Fs f ks (w|||awl f.rel (ry f.names k.text) s)
def awB(f:Fc):Int:=if f.kind=2 then 3 else if f.kind=3 then 5 else 2
def YY(f:Fc)(n:Nd):Ex (BitVec 64):=
 if ry f.names n.text<0 then .error n.place
 else if f.kind=4 then .ok (bQ f.rel (ry f.names n.text))
 else .ok (vA f.names.length (ry f.names n.text)).1
def awC(f:Fc)(n:Nd):Ex (BitVec 64):=
 if n.kind≠awB f then .error n.place
 else if f.kind=2 then abl f.names n.names
 else if f.kind=3 then Fs f n.kids 0#64
 else YY f n
def MJ:List (Fc×Nd)->Nat->El->Ex El
 |[],_,e=> .ok e
 |(f,n)::r,i,e=>match awC f n with
  | .error a=> .error a
  | .ok w=>MJ r (i+1) (tA e i w)
def ahj(s:Sh)(n:Nd):List Nd:=if s.tuple then n.kids else[n]
def aDn(s:Sh)(n:Nd):Bool:=mC s&&YX n&&(!s.tuple||decide (n.kind=4/\n.kids.length=s.aY.length))
def aJo(s:Sh)(n:Nd):Ex El:=if aDn s n then MJ (s.aY.zip (ahj s n)) 0 dg else .error n.place
def aMp:Ex El->El×Flt
 | .ok e=>(e,awy)
 | .error a=>(dg,⟨4,a⟩)
abbrev RS:=Bool×Int
def ao8(s:RS)(a:Int):RS:=if s.1 then s else(true,a)
def okR(x:Ex (BitVec 64))(s:RS)(y:BitVec 64)(s':RS):Prop:=match x with
 | .ok z=>y=z/\s'=s
 | .error a=>s'=ao8 s a
theorem Gj{f:Fc}{n:Nd}(h:ry f.names n.text<0):YY f n= .error n.place:=by rw[YY,aX h]
def aMq(f:Fc)(ks:List Nd)(k:Int)(m:BitVec 64)(s s1:RS):Prop:=
 (s1=s/\Fs f ks 0#64=Fs f (ks.drop k.toNat) m)\/∃a,Fs f ks 0#64= .error a/\s1=ao8 s a
structure arN where
 word:BitVec 64
 bad:Bool
 at_:Int
def aMr(g:arN):List Value:=[U g.word,B g.bad,I g.at_]
def aMs:arN:=⟨0#64,false,0⟩
def aMt:Ex (BitVec 64)->arN
 | .ok x=>⟨x,false,0⟩
 | .error a=>⟨0#64,true,a⟩
section ahk
variable{f:qw}{n:fB}{k:Int}{m:BitVec 64}(h0:0<=k)(h1:k<n.kids.length)(hm:Fs f.fc n.nd.kids 0#64=Fs f.fc (n.nd.kids.drop k.toNat) m)
include h0 h1 hm
end ahk
section amx
variable{f:qw}{n:fB}
end amx
def aMu(l:List (Fc×Nd))(k:Int)(e:El)(s:RS):Prop:=
 (s=(false,0)/\MJ l 0 dg=MJ (l.drop k.toNat) k.toNat e)\/∃a,MJ l 0 dg= .error a/\s=(true,a)
def abm(l:List Tx)(w:BitVec 64):List Wd:=(gK w).map fun i=>⟨l.getD i.toNat qe,0⟩
def ahl(f:Fc)(w:BitVec 64)(o:Int):Nd:= .mk 6 0 (f.names.getD o.toNat qe) (abm f.names (agO f.rel w o)) []
def YZ(f:Fc)(w:BitVec 64):Nd:=
 if f.kind=2 then .mk 3 0 qe (abm f.names w) []
 else if f.kind=3 then .mk 5 0 qe [] ((gK (Si f.rel w)).map (ahl f w))
 else if f.kind=4 then .mk 2 0 (f.names.getD (eY f.rel w).1.toNat qe) [] []
 else .mk 2 0 (f.names.getD (level f.names.length w).1.toNat qe) [] []
def ahm(s:Sh)(e:El)(k:Int):List Nd:=(upto k).map fun i=>YZ (s.aY.getD i.toNat vI) (e i.toNat)
def awD(s:Sh)(e:El):Nd:=
 if cJ s e then(if s.tuple then .mk 4 0 qe [] (ahm s e s.aY.length)else YZ (s.aY.getD 0 vI) (e 0))else nd0
def ahn(s:Sh)(e:El):Tx:=tc 35++uI (awD s e)
abbrev By:=List UInt8
def bl(t:Tx):By:=t.data.toList
def goU(b:UInt8):Bool:=uG (b.toNat:Int)
def Ds(x:By):Prop:=∀b r,x=b::r->goU b=false
theorem Ds.nil:Ds []:=fun b r h=>by cases h
theorem Ds.cons{d:UInt8}(h:goU d=false)(x:By):Ds (d::x):=fun b r e=>by cases e;exact h
def aDp(l:List By):By:=l.flatMap fun y=>44::y
def aMv:List By->By
 |[]=>[]
 |x::l=>x++aDp l
section
variable{Q:By->Prop}(hQ:∀u v,Q u->Q v->∀x y,Ds x->Ds y->u++x=v++y->u=v/\x=y){d:UInt8}(hd:goU d=false)(h44:d≠44)
include hQ hd h44
end
def wd_(t:Tx):Wd:=⟨t,0⟩
def Rn(n:Nd):Prop:=∃(t:Tx) (ws:List Tx),n= .mk 6 0 t (ws.map wd_) []/\iQ t=true/\∀u∈ws,iQ u=true
def wtx(a:El):List Fc->Nat->List By
 |[],_=>[]
 |f::r,i=>bl (uI (YZ f (a i)))::wtx a r (i+1)
inductive MK:fB->Prop
 |mk {kind place:Int} {text:Tx} {nv:Value} {names:List Wd} {kv:Value} {kids:List fB} (hl:names.length<=5864062014634) (each:∀x∈kids,MK x):MK (.mk kind place text nv names kv kids)
theorem MK.len{n:fB}(h:MK n):n.names.length<=5864062014634:=by cases h;assumption
theorem MK.each{n:fB}(h:MK n):∀x∈n.kids,MK x:=by cases h;assumption
def aDq(s:kP)(n:fB):List fB:=if s.tuple then n.kids else[n]
def aJp(s:kP)(n:fB):Bool:= !s.tuple||decide (n.kind=4/\n.kids.length=s.aY.length)
def aMy(s:kP)(n:fB):List (Fc×Nd):=s.sh.aY.zip (ahj s.sh n.nd)
section
variable{s:kP}{n:fB}
end
section ref
variable{l:List (Fc×Nd)}{k:Int}{e:El}{f:Fc}{m:Nd}(h0:0<=k)(h1:k<l.length)(hm:MJ l 0 dg=MJ (l.drop k.toNat) k.toNat e)(hw:l.getD k.toNat (vI,nd0)=(f,m))
include h0 h1 hm hw
end ref
def aMz(q:Int)(x:fB):Bool:=if q=1 then YX x.nd else ao7 x.nd
section
variable{n:fB}
end
theorem yd.nil(K:Vu):yd K []:=⟨fun x hx=>by simp at hx⟩
theorem yd.snoc{K:Vu}{l:List fB}{n:fB}(h:yd K l)(hn:rA K n):yd K (l++[n]):=⟨fun x hx=>by
 rcases fg.1 hx with hx|hx
 .exact h.each x hx
 rw[gG.1 hx];exact hn⟩
def wdN(l:List Tx)(i:Int):Wd:=⟨l.getD i.toNat qe,0⟩
def aB4(l:List Tx)(w:BitVec 64)(k:Int):List Wd:=((upto k).filter (hasB w)).map (wdN l)
theorem xd(k:Int):(upto k).Pairwise (· <·):=by
 rw[upto,HF]
 exact XD.imp fun h=>by omega
def aMB:Value:= .slice none 0 0
def aJq(k:Int)(t:Tx)(nv:Value)(names:List Wd):fB:= .mk k 0 t nv names (.slice none 0 0) []
def aJr(k:Int)(kv:Value)(kids:List fB):fB:= .mk k 0 qe (.slice none 0 0) [] kv kids
def aB5(f:Fc)(w:BitVec 64)(k:Int):List Nd:=((gK (Si f.rel w)).take k.toNat).map (ahl f w)
def aB6(f:Fc)(w:BitVec 64)(k:Int):List Nd:=((upto k).filter (hasB (Si f.rel w))).map (ahl f w)
def kL:Nd->Nat
 | .mk kind _ text names kids=>(if 0<=kind/\kind<=6 then 4 else 10000000000)+text.size+(names.map fun x=>x.text.size+1).sum+(kids.attach.map fun x=>kL x.1+1).sum
termination_by n=>SizeOf.sizeOf n
decreasing_by
 have:=Lc x.2
 simp only[Nd.mk.sizeOf_spec]
 omega
theorem ao9(n:Nd):kL n=(if 0<=n.kind/\n.kind<=6 then 4 else 10000000000)+n.text.size+(n.names.map fun x=>x.text.size+1).sum+(n.kids.map fun x=>kL x+1).sum:=by
 cases n with
 |mk k p t names kids=>
 have h:(kids.attach.map fun x=>kL x.1+1)=kids.map fun x=>kL x+1:=aJ
 rw[kL,h];rfl
theorem U4{α:Type}{F G:α->Nat}:∀(l:List α),(∀x∈l,F x<=G x)->(l.map F).sum<=(l.map G).sum
 |[],_=>by simp
 |y::l,h=>by
  have h1:=h y (qT ..)
  have h2:=U4 l fun x hx=>h x (fX _ hx)
  simp only[lR,E1];omega
structure TxN(n:Nd):Prop where
 sz:kL n<=1000000000
theorem TxN.kind{n:Nd}(h:TxN n):0<=n.kind/\n.kind<=6:=by grind[Nd,TxN,ao9]
theorem ML:∀(l:List Tx) (a:Tx),(l.foldl (fun a y=>a++tc 44++y) a).size=a.size+(l.map fun x=>x.size+1).sum
 |[],a=>by simp
 |y::l,a=>by
  rw[o9,ML l,qy,qy,lR,E1,show(tc 44).size=1 from O];omega
theorem PX(l:List Tx):(xh l).size<=(l.map fun x=>x.size+1).sum:=by
 cases l with
 |nil=>exact eU _
 |cons x l=>
  show(l.foldl (fun a y=>a++tc 44++y) x).size<=_
  rw[ML]
  simp only[lR,E1];omega
theorem amy(n:Nd):(uI n).size<=kL n:=ahi (C:=fun n=>(uI n).size<=kL n) (fun n ih=>by
 rw[ao9,amw]
 have h1:(MH n.names).size<=(n.names.map fun x=>x.text.size+1).sum:=by
  have:=PX (n.names.map Wd.text)
  rw[RA]at this;exact this
 have h2:(xh (n.kids.map uI)).size<=(n.kids.map fun x=>kL x+1).sum:=by
  have h3:=PX (n.kids.map uI)
  rw[RA]at h3
  exact kX h3 (U4 n.kids fun x hx=>by have:=ih x hx;simp only[Function.comp];omega)
 have h4:∀c:UInt8,(tc c).size=1:=fun _=>rfl
 have h5:((⟨#[58,123]⟩:Tx)).size=2:=rfl
 have h6:qe.size=0:=rfl
 have h7:4<=(if 0<=n.kind/\n.kind<=6 then 4 else 10000000000):=by split<;>omega
 split
 .omega
 split
 .simp only[qy,h4];omega
 split
 .simp only[qy,h4];omega
 split
 .simp only[qy,h4];omega
 split
 .simp only[qy,h4,h5];omega
 omega) n
theorem TxN.text{n:Nd}(h:TxN n):(uI n).size<=1000000000:=kX (amy n) h.sz
theorem Sr{α:Type}{F:α->Nat}{m:Nat}:∀(l:List α),(∀x∈l,F x<=m)->(l.map F).sum<=m*l.length
 |[],_=>by simp
 |y::l,h=>by
  have h1:=h y (qT ..)
  have h2:=Sr l fun x hx=>h x (fX _ hx)
  simp only[lR,E1,fq]
  rw[Nat.mul_add];omega
def awG(T:Int->Tx)(k:Int):Tx:=xh ((upto k).map T)
def aMC(l:List fB)(i:Int):Tx:=uI (l.getD i.toNat MG).nd
def wdT(l:List Wd)(i:Int):Tx:=(l.getD i.toNat wd0).text
instance:DecidableEq Wd:=fun a b=>if h:a.text=b.text/\a.place=b.place then .isTrue (by cases a;cases b;cases h.1;cases h.2;rfl)else .isFalse (fun e=>h (by rw[e];exact⟨rfl,rfl⟩))
def aDr:List Tx:=[⟨#[112]⟩,⟨#[113]⟩]
def exG:Sh:=⟨false,[⟨3,aDr,aDa⟩]⟩
def exR:Nd:= .mk 6 0 ⟨#[112]⟩ [⟨⟨#[113]⟩,0⟩] []
def aME:Nd:= .mk 5 0 qe [] [exR]
def aMF(x:Ex El):Bool:=match x with
 | .ok e=>decide (rS e (tA dg 0 1#64))
 | .error _=>false
theorem aho{α:Type}{cl:α->List Value}{sz:Nat}(hsz:∀a,(cl a).length=sz)(hpos:0<sz)(z0:α)(n:Nat):madeCells (cl z0).toArray (n*sz)=((List.replicate n z0).flatMap cl).toArray:=by
 refine RD (uf fun j=> ?_)
 have hl:((List.replicate n z0).flatMap cl).length=n*sz:=by rw[fK hsz,Re]
 by_cases hj:j<n*sz
 .have h1:j/sz<n:=Nat.div_lt_of_lt_mul (by rw[Nat.mul_comm];exact hj)
  have h2:j%sz<(cl z0).length:=by rw[hsz];exact Nat.mod_lt _ hpos
  have h3:=flat_get hsz (List.replicate n z0) (j/sz) z0 (by rw[XB,aX h1]) (j%sz) (cl z0)[j%sz] (eD h2)
  rw[show j/sz*sz+j%sz=j by rw[Nat.mul_comm];exact X3 j sz]at h3
  show(madeCells (cl z0).toArray (n*sz)).toList[j]?=((List.replicate n z0).flatMap cl)[j]?
  rw[h3,madeCells,Array.toList_map,qp,Array.toList_range,zy hj]
  simp only[qU,vb,hsz]
  congr 1
  rw[getElem!_def]
  simp only[HB,eD h2]
 rw[oc (by rw[show(madeCells (cl z0).toArray (n*sz)).toList.length=n*sz by simp[madeCells]];omega),oc (by rw[show((List.replicate n z0).flatMap cl).toArray.toList.length=n*sz from hl];omega)]
section
variable{P:Program}{σ:Env}{w:World}{dst:Option Tmp}{ty t e:TypeId}{pos:String}{bO:Array Edge}{g:Option (Nat×Bool)}{x y:Operand}{α:Type}{cl:α->List Value}{sz:Nat}
theorem PY{ie:TypeInfo}{z:Value}{z0:α}{n:Nat}(hsz:∀a,(cl a).length=sz)(hpos:0<sz)(hu:P.underlying t=some (.slice e))(hie:P.info? e=some ie)(hz:ie.zero=some z)(hzc:z.cells=(cl z0).toArray)(hs:ie.size=sz)
  (hx:ev σ x= .int .i64 n) (hy:ev σ y= .int .i64 n) (hb:ie.bytes*n<=281474976710656) (hn:n<=maxLen):
  (execOp (ev σ) ⟨dst,.makeSlice t x y,ty,pos,bO,g⟩).run P w= .ok (.value (.slice (some ⟨w.heap.size,0,none⟩) n n)) (w.alloc (.cells ((List.replicate n z0).flatMap cl).toArray e)):=by
 have hb':(ie.bytes:Int)*n<=281474976710656:=by
  have h:((ie.bytes*n:Nat):Int)<=281474976710656:=J
  rwa[Int.natCast_mul]at h
 have hr:=run_make (P:=P) w t e ie z hu hie hz .i64 .i64 n n J (lW _) hb' (by unfold maxLen at hn;omega)
 rw[hzc,hs,eA,aho hsz hpos]at hr
 simp[execOp,hx,hy,hr]
end
theorem CD(b o n:Nat):(⟨b,o,none⟩:Addr).add n=⟨b,o+n,none⟩:=by unfold Addr.add;split<;>simp_all
theorem Hp.KO{w0 w:World}{L:List bu}{i:Nat}{v:Value}{e:TypeId}{sz n:Nat}{xs:List Value}(h:Hp w0 w L)(hi:L[i]?=some (.row v e sz n xs))(hn:0<n):
  ∃gb cap,v= .slice (some ⟨gb,0,none⟩) n cap/\n<=cap/\∃cur:Array Value,w.heap[gb]?=some (.cells cur e (0,0))/\cur.size=cap*sz/\cur.toList.take (n*sz)=xs/\
   ∀JY:Array Value,JY.size=cur.size->Hp w0 (w.setRow gb JY) (L.set i (.row v e sz n (JY.toList.take (n*sz)))):=by
 obtain⟨hl,h2⟩:=h.get hi
 rcases h2 with⟨rfl,rfl⟩|⟨gb,cap,cur,rfl,hb,hg,hnc,hm,hs,ht⟩
 .exact absurd hn (Nat.lt_irrefl 0)
 refine⟨gb,cap,rfl,hnc,cur,hg,hs,ht,fun JY hc'=> ?_⟩
 have hil:=(nX.1 hi).1
 have h1:Hp w0 w (L.set i (.blk gb (.cells cur e (0,0)))):=⟨h.below,fun y hy=>by
   obtain⟨j,hj,Fb⟩:=vc.1 hy
   rw[zA]at Fb
   split at Fb
   .subst Fb;exact⟨hb,hg⟩
   exact h.ok y (Fb▸r8 _),Cp hi O h.LP⟩
 have hi1:(L.set i (.blk gb (.cells cur e (0,0))))[i]?=some (.blk gb (.cells cur e (0,0))):=by rw[List.getElem?_set_self hil]
 have h3:=h1.set (c':=JY) hi1
 rw[List.set_set]at h3
 have hi3:(L.set i (.blk gb (.cells JY e (0,0))))[i]?=some (.blk gb (.cells JY e (0,0))):=by rw[List.getElem?_set_self hil]
 have h4:Hp w0 (w.setRow gb JY) ((L.set i (.blk gb (.cells JY e (0,0)))).set i (.row (.slice (some ⟨gb,0,none⟩) n cap) e sz n (JY.toList.take (n*sz)))):=⟨h3.below,fun y hy=>by
   obtain⟨j,hj,Fb⟩:=vc.1 hy
   rw[zA]at Fb
   split at Fb
   .subst Fb
    have hb3:=h3.get hi3
    refine⟨?_,.inr ⟨gb,cap,JY,rfl,hb3.1,hb3.2,hnc,hm,by rw[hc',hs],rfl⟩⟩
    rw[er,r7]
    have:JY.toList.length=cap*sz:=by rw[ES,hc',hs]
    rw[this];exact s4 _ hnc
   exact h3.ok y (Fb▸r8 _),Cp hi3 O h3.LP⟩
 rw[List.set_set]at h4;exact h4
def qK(xs:List Value)(o:Nat)(new:List Value):List Value:=xs.take o++new++xs.drop (o+new.length)
theorem Gu{cur new:List Value}{o m:Nat}(h:o+new.length<=m)(hm:m<=cur.length):(cur.take o++new++cur.drop (o+new.length)).take m=qK (cur.take m) o new:=by
 rw[qK,List.take_append,List.take_append,ji (l:=new) (by simp only[er];omega),B6,B6,XY J,r7 J]
 congr 1
 simp only[dZ,er]
 rw[List.drop_take,show min o cur.length+new.length=o+new.length by omega]
section
variable{P:Program}{n:Nat}{ops:Array Oper}{k:K}{rest l:List Oper}{σ:Env}{w0 w:World}{L:List bu}{op:Op}{ty t e et:TypeId}{pos:String}{bO:Array Edge}{d:Nat}{x y:Operand}{g:Option (Nat×Bool)}{v:Value}{sz m i:Nat}{xs:List Value}{dst:Option Tmp}
theorem Y0{o:Nat}{new:List Value}(hH:Hp w0 w L)(hi:L[i]?=some (.row v e sz m xs))(hm:0<m)(hx:ev σ x= .pointer (some ⟨sb v,so v+o,none⟩))(hy:ev σ y= .agg new.toArray)(h1:∀u∈new,u.oneCell'=true)(hs:(P.info? t).map (·.size)=some new.length)(ho:o+new.length<=m*sz):
  ∃w',(execOp (ev σ) ⟨dst,.store t x y,ty,pos,bO,g⟩).run P w= .ok .skip w'/\Hp w0 w' (L.set i (.row v e sz m (qK xs o new))):=by
 obtain⟨gb,cap,rfl,hnc,cur,hg,hc,ht,hk⟩:=hH.KO hi hm
 have hcm:m*sz<=cap*sz:=s4 _ hnc
 have hx':ev σ x= .pointer (some ⟨gb,o,none⟩):=by rw[hx];simp only[sb,so,gN]
 have hr:=PW (P:=P) (dst:=dst) (ty:=ty) (pos:=pos) (bO:=bO) (g:=g) (c':=cur.toList.take o++new++cur.toList.drop (o+new.length)) hs hx' hy h1 hg J O
 have hl:(cur.toList.take o++new++cur.toList.drop (o+new.length)).length=cur.size:=by
  simp only[dZ,er,yB,ES];omega
 have h2:=hk (cur.toList.take o++new++cur.toList.drop (o+new.length)).toArray (by rw[vb,hl])
 rw[show(cur.toList.take o++new++cur.toList.drop (o+new.length)).toArray.toList=cur.toList.take o++new++cur.toList.drop (o+new.length)from O,Gu ho RY,ht]at h2
 exact⟨_,hr,h2⟩
theorem arP{o:Nat}{new:List Value}(hH:Hp w0 w L)(hi:L[i]?=some (.row v e sz m xs))(hm:0<m)(hx:ev σ x= .pointer (some ⟨sb v,so v+o,none⟩))(hy:ev σ y= .agg new.toArray)(h1:∀u∈new,u.oneCell'=true)(hs:(P.info? t).map (·.size)=some new.length)(ho:o+new.length<=m*sz)
  (hk:∀w',Hp w0 w' (L.set i (.row v e sz m (qK xs o new)))->RL P n ops k rest σ w'):RL P n ops k (⟨none,.store t x y,ty,pos,bO,none⟩::rest) σ w:=by
 obtain⟨w',hr,h2⟩:=Y0 (dst:=none) (ty:=ty) (pos:=pos) (bO:=bO) (g:=none) hH hi hm hx hy h1 hs ho
 exact H7 hr (hk w' h2)
variable{fuel j:Nat}{listed:Array Bool}{L':List bu}
theorem aDt{o:Nat}{new:List Value}(hj:l[j]?=some ⟨none,.store t x y,ty,pos,bO,g⟩)(hg:∀a,Is n σ a->Region.wanted ⟨none,.store t x y,ty,pos,bO,g⟩ (yielded l.toArray a.tmps)=true)(hH:Hp w0 w L)(hi:L[i]?=some (.row v e sz m xs))(hsub:∀ys,L'.Sublist (L.set i (.row v e sz m ys)))(hm:0<m)
  (hx:ev σ x= .pointer (some ⟨sb v,so v+o,none⟩)) (hy:ev σ y= .agg new.toArray) (h1:∀u∈new,u.oneCell'=true) (hs:(P.info? t).map (·.size)=some new.length) (ho:o+new.length<=m*sz)
  (hk:∀w',Hp w0 w' (L.set i (.row v e sz m (qK xs o new)))->AN P n l (fun w=>Hp w0 w L') k fuel (listed.setIfInBounds j true) σ w'):AO P n l (fun w=>Hp w0 w L') k fuel listed σ w j:=by
 obtain⟨w',hr,h2⟩:=Y0 (dst:=none) (ty:=ty) (pos:=pos) (bO:=bO) (g:=g) hH hi hm hx hy h1 hs ho
 exact Ia hj hg hr (h2.sub (hsub _)) (hk w' h2)
theorem U5{sT:TypeId}{u:Value}{c dLen dCap o m':Nat}{cells:List Value}(hH:Hp w0 w L)(hi:L[i]?=some (.row v e sz m xs))(hm:0<m)(hu:P.underlying t=some (.slice et))(hs:(P.info? et).map (·.size)=some sz)
  (hx:ev σ x= .slice (some ⟨sb v,so v+o*sz,none⟩) dLen dCap) (hy:ev σ y=u) (hS:Sl w u sz m' cells) (hc:Nat.min m' dLen=c) (ho:o+c<=m) (h1:∀q∈cells,q.oneCell'=true):
  ∃w',(execOp (ev σ) ⟨dst,.call {callee:= .builtin .copy,args:=#[x,y],argTypes:=#[t,sT]},ty,pos,bO,g⟩).run P w= .ok (.value (goInt c)) w'/\Hp w0 w' (L.set i (.row v e sz m (qK xs (o*sz) (cells.take (c*sz))))):=by
 obtain⟨gb,cap,rfl,hnc,cur,hg,hcs,ht,hk⟩:=hH.KO hi hm
 obtain⟨ua,U6,rfl,huc,hua⟩:=hS.shape
 have ov:=hS.len
 have hcm:m*sz<=cap*sz:=s4 _ hnc
 have Y1:c<=m':=by rw[<-hc];exact Nat.min_le_left _ _
 have hlt:(cells.take (c*sz)).length=c*sz:=by rw[er,ov,r7 (s4 _ Y1)]
 have hoc:o*sz+c*sz<=m*sz:=by rw[<-lm];exact s4 _ ho
 have hx':ev σ x= .slice (some ⟨gb,o*sz,none⟩) dLen dCap:=by rw[hx];simp only[sb,so,gN]
 have hst:=XR P gb (o*sz) e (cells.take (c*sz)) 0 cur w hg (by rw[hlt];omega) (fun q hq=>h1 q (u9 hq))
 have awH:(Builtin.firstCells sz c (.slice ua m' U6)).run P w= .ok (cells.take (c*sz)).toArray w:=by
  by_cases hz:c*sz=0
  .rw[hz,xK]
   cases ua with
   |none=>simp[Builtin.firstCells,hz]
   |some a=>have:=run_loadCells_list (P:=P) w a [] (fun j v hv=>by simp at hv);simpa[Builtin.firstCells,hz]using this
  have hm0:0<m':=by
   rcases Ri m' with h|h
   .rw[show c=0 by omega]at hz;simp at hz
   exact h
  have hl:=run_loadCells_list (P:=P) w ⟨sb (.slice ua m' U6),so (.slice ua m' U6),none⟩ (cells.take (c*sz)) (fun j q hq=>by
   rw[CD]
   rw[qS]at hq
   split at hq
   .exact hS.cell j q hq
   .cases hq)
  rw[hlt]at hl
  rw[hua hm0]
  simpa[Builtin.firstCells]using hl
 refine⟨w.setRow gb (cur.toList.take (o*sz)++cells.take (c*sz)++cur.toList.drop (o*sz+(cells.take (c*sz)).length)).toArray,?_,?_⟩
 rotate_left
 .have h2:=hk (cur.toList.take (o*sz)++cells.take (c*sz)++cur.toList.drop (o*sz+(cells.take (c*sz)).length)).toArray (by
   simp only[vb,dZ,er,yB,ES];rw[ov]
   have:min (c*sz) (m'*sz)=c*sz:=r7 (s4 _ Y1)
   omega)
  rw[show(cur.toList.take (o*sz)++cells.take (c*sz)++cur.toList.drop (o*sz+(cells.take (c*sz)).length)).toArray.toList=cur.toList.take (o*sz)++cells.take (c*sz)++cur.toList.drop (o*sz+(cells.take (c*sz)).length)from O,Gu (by rw[hlt];omega) RY,ht]at h2
  exact h2
 have hq:∃ii,P.info? et=some ii/\ii.size=sz:=by
  cases hq:P.info? et with
  |none=>simp[hq]at hs
  |some ii=>exact⟨ii,rfl,by simpa[hq]using hs⟩
 obtain⟨ii,hii,his⟩:=hq
 rw[Lr]at hst
 have hcp:(Builtin.copy_ #[t,sT] ty #[.slice (some ⟨gb,o*sz,none⟩) dLen dCap,.slice ua m' U6]).run P w= .ok (goInt c) (w.setRow gb (cur.toList.take (o*sz)++cells.take (c*sz)++cur.toList.drop (o*sz+(cells.take (c*sz)).length)).toArray):=by
  have hc2:min m' dLen=c:=hc
  simp[Builtin.copy_,kf hu,Builtin.lenOf,sizeOf,typeInfo,hii,his,hc,hc2,awH]
  have awI:=hst
  simp at awI
  rw[awI];rfl
 simp[execOp,resolve,invoke,builtin,hx',hy,hcp]
theorem CE{j fuel:Nat}{listed:Array Bool}{L':List bu}{Q:World->Prop}{vv:Value}(hj:l[j]?=some ⟨some d,op,ty,pos,bO,g⟩)(hg:∀a,Is n σ a->Region.wanted ⟨some d,op,ty,pos,bO,g⟩ (yielded l.toArray a.tmps)=true)(hd:Nat.blt d n=true)(h:∃w',(execOp (ev σ) ⟨some d,op,ty,pos,bO,g⟩).run P w= .ok (.value vv) w'/\Q w')(hQ:∀w',Q w'->Hp w0 w' L')
 (hk:∀w',Q w'->AN P n l (fun w=>Hp w0 w L') k fuel (listed.setIfInBounds j true) (lX σ d vv) w'):AO P n l (fun w=>Hp w0 w L') k fuel listed σ w j:=by grind[Cr]
def o5(v:Value)(sz i:Nat):Value:=
 match v with
 | .slice a n cap=> .slice (if cap=i then a else a.map (·.add (i*sz))) (n-i) (cap-i)
 |v=>v
theorem ahp(hH:Hp w0 w L)(hi:L[i]?=some (.row v e sz m xs))(hm:0<m):∃gb cap,v= .slice (some ⟨gb,0,none⟩) m cap/\m<=cap:=by
 obtain⟨gb,cap,h,h2,-⟩:=hH.KO hi hm;exact⟨gb,cap,h,h2⟩
theorem ahq(xs:List Value)(o:Nat):qK xs o []=xs:=by simp[qK]
theorem qz{sT:TypeId}{u:Value}{c o m':Nat}{cells:List Value}(hH:Hp w0 w L)(hi:L[i]?=some (.row v e sz m xs))(hm:0<m)(hu:P.underlying t=some (.slice et))(hs:(P.info? et).map (·.size)=some sz)
  (hx:ev σ x=o5 v sz o) (hy:ev σ y=u) (hS:Sl w u sz m' cells) (hc:Nat.min m' (m-o)=c) (ho:o<=m) (h1:∀q∈cells,q.oneCell'=true):
  ∃w',(execOp (ev σ) ⟨dst,.call {callee:= .builtin .copy,args:=#[x,y],argTypes:=#[t,sT]},ty,pos,bO,g⟩).run P w= .ok (.value (goInt c)) w'/\Hp w0 w' (L.set i (.row v e sz m (qK xs (o*sz) (cells.take (c*sz))))):=by
 obtain⟨gb,cap,rfl,hcap⟩:=ahp hH hi hm
 have hcm:c<=m-o:=by have h:=Nat.min_le_right m' (m-o);rwa[show min m' (m-o)=c from hc]at h
 by_cases hco:cap=o
 .have h0:c=0:=J
  subst h0
  have hx':ev σ x= .slice (some ⟨sb (.slice (some ⟨gb,0,none⟩) m cap),so (.slice (some ⟨gb,0,none⟩) m cap)+0*sz,none⟩) (m-o) (cap-o):=by rw[hx];simp[o5,hco,sb,so]
  obtain⟨w',hr,h2⟩:=U5 (sT:=sT) (dst:=dst) (ty:=ty) (pos:=pos) (bO:=bO) (g:=g) (o:=0) hH hi hm hu hs hx' hy hS hc J h1
  refine⟨w',hr,?_⟩
  simp only[Ry,xK,ahq]at h2⊢
  exact h2
 refine U5 (dLen:=m-o) (dCap:=cap-o) hH hi hm hu hs ?_ hy hS hc J h1
 rw[hx]
 simp only[o5,aT hco,qU,CD,sb,so]
theorem aDv{Q:World->Prop}{vv:Value}(hd:Nat.blt d n=true)(h:∃w',(execOp (ev σ) ⟨some d,op,ty,pos,bO,none⟩).run P w= .ok (.value vv) w'/\Q w')
 (hk:∀w',Q w'->RL P n ops k rest (lX σ d vv) w'):RL P n ops k (⟨some d,op,ty,pos,bO,none⟩::rest) σ w:=by grind[pn]
theorem Sl.fr{cells:List Value}(h:Sl w v sz m cells)(o:Nat)(ho:o<=m):Sl w (o5 v sz o) sz (m-o) (cells.drop (o*sz)):=by
 obtain⟨a,cap,rfl,hcap,ha⟩:=h.shape
 have hl:=h.len
 refine⟨?_,by rw[yB,hl,Nat.sub_mul],fun j c hj=> ?_,by have:=h.small;omega⟩
 .by_cases h0:0<m-o
  .have h1:=ha J
   have hco:¬cap=o:=J
   refine⟨_,cap-o,rfl,J,fun _=> ?_⟩
   rw[h1];simp only[o5,aT hco,qU,CD,sb,so]
  exact⟨_,cap-o,rfl,J,fun h=>absurd h h0⟩
 have h0:0<m-o:=by
  rcases Ri (m-o)with h0|h0
  .rw[List.drop_eq_nil_of_le (by rw[hl];exact s4 _ J)]at hj;cases hj
  exact h0
 rw[B3]at hj
 have h1:=ha J
 have h2:=h.cell _ _ hj
 have hco:¬cap=o:=J
 have e1:sb (o5 (.slice a m cap) sz o)=sb (.slice a m cap):=by rw[h1];simp only[o5,aT hco,qU,CD,sb,so]
 have e2:so (o5 (.slice a m cap) sz o)=so (.slice a m cap)+o*sz:=by rw[h1];simp only[o5,aT hco,qU,CD,sb,so]
 rw[e1,e2,xR];exact h2
theorem gC{lo:Operand}{q:Int}{cells:List Value}(hS:Sl w v sz m cells)(hu:P.underlying t=some (.slice et))(hs:∀w,(sizeOf et).run P w= .ok sz w)(hx:ev σ x=v)(hlo:ev σ lo=I q)(h:0<=q/\q<=m):
  (execOp (ev σ) ⟨dst,.slice t x (some lo) none none,ty,pos,bO,g⟩).run P w= .ok (.value (o5 v sz q.toNat)) w:=by
 obtain⟨a,cap,rfl,hcap,ha⟩:=hS.shape
 have h1:0<=q/\q<=(m:Int):=h
 have h2:(Instr.slice t (.slice a m cap) (some (I q)) none none).run P w= .ok (o5 (.slice a m cap) sz q.toNat) w:=by
  simp[Instr.slice,Instr.sliceBounds,Instr.sliceBound,kf hu,asIntOf,h1,hs,o5]
 have h3:(Instr.sliceAt t (.slice a m cap) (some (I q)) none none).run P w= .ok (o5 (.slice a m cap) sz q.toNat) w:=by
  simp[Instr.sliceAt,kf hu,h2]
 simp[execOp,hx,hlo,h3]
end
end
end Go.Proofs.YtlhjdflgjbkpmaaGreatDoor.E

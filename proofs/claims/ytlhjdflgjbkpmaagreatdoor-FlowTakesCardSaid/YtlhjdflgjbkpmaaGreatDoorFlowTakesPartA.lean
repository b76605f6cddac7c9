/- Part 1 of the proof of FlowTakes: its plain laws and the walks of its functions. -/
import Derived.WalkKit
import Derived.ProofKit
import Derived.Deep.Quiet
import Derived.Laws.AppendOwn
import Derived.Laws.CopyRow
import Derived.Laws.Tables
import Derived.Deep.MidRow
import Derived.Great.BuildSlice
import Derived.OrdersHeld
import Derived.Laws.CopyOwn
import Derived.WalkLawsBesides
import Derived.Laws.StructEq
import Derived.Laws.Rows
import Derived.Laws.Strings
import Derived.Laws.Concat
import Derived.Lib.AppendStr
import Derived.Laws.BytesArg
import Derived.Laws.MakeOwn
import Derived.MapKept
import Derived.Laws.IdiomRangeMap
import Derived.Scope
import Derived.ArgAppend
import Derived.OpenShut
import Derived.ChangeSlices
import Derived.WideShapes
import Derived.Carry
import Derived.Deep.Strs
import Derived.Test.YtlhjdflgjbkpmaaGreatDoorProg
import Derived.Tactics
import Derived.Tactics2
import Derived.Defers
import Derived.Laws.Pointers
import Derived.Laws.LoneSync
import Derived.RegionTactic
import Derived.RegionCalls
import Derived.ChangeAlike
import Derived.Ground.NamesProg
import Derived.Shelf.Slices.In.SortNone
import Derived.Sort.EveryDepth
import Derived.Sort.OwnSortedInts
import Derived.Test.YtlhjdflgjbkpmaaGreatDoorCards
import Derived.Test.YtlhjdflgjbkpmaaGreatDoorTie
import Derived.Deep.DeepHandedRow
import Derived.Lib.LaidTab
set_option linter.all false
namespace Go.Proofs.YtlhjdflgjbkpmaaGreatDoor
section
open Go Go.RowKit Go.Proofs.Tryz
def bB:=@List.mem_append_right
def aJ:=@congrArg
def bq:=@underlying99
def bt:=@underlying3
def ep:=@List.getD_eq_getElem?_getD
def bL:=@underlying86
def aP:=@if_neg
def aR:=@if_pos
def dg:=@List.append_assoc
def bp:=@sizeOf3
def cV:=@List.length_append
def cm:=@Bool.and_eq_true
def dO:=@List.getElem?_eq_getElem
def bU:=@underlying111
def dy:=@List.mem_append_left
def cA:=@underlying37
def fx:=@List.length_map
def dP:=@decide_eq_true_eq
def cR:=@underlying100
def cT:=@List.mem_cons
def dW:=@Int.toNat_natCast
def fq:=@List.mem_cons_of_mem
def eD:=@List.length_take
def cS:=@underlying31
def eE:=@List.length_cons
def fF:=@Int.toNat_of_nonneg
def dZ:=@List.nil_append
def gI:=@List.length_singleton
def fG:=@List.mem_singleton
def fH:=@List.cons_append
def eF:=@List.mem_append
def dz:=@underlying54
def iD:=@List.take_of_length_le
def dF:=@underlying88
def dJ:=@underlying56
def dL:=@underlying46
def dM:=@underlying83
def dU:=@underlying35
def gm:=@decide_eq_false
def gp:=@List.map_append
def ij:=@List.set_cons_zero
def gd:=@Bool.eq_iff_iff
def eZ:=@underlying222
def mA:=@List.setIfInBounds_toArray
def eG:=@underlying90
def mC:=@List.getElem?_eq_some_iff
def iq:=@List.all_eq_true
def gq:=@decide_eq_true
def cX:=@sizeOf35
def eI:=@Nat.le_refl
def df:=@sizeOf99
def fI:=@List.mem_map
def kU:=@List.mem_of_getElem?
def gz:=@underlying103
def kf:=@List.set_cons_succ
def gJ:=@underlying109
def gA:=@Nat.zero_add
def gB:=@underlying25
def mJ:=@List.getElem?_eq_none
def lE:=@List.pairwise_cons
def iE:=@underlying128
def ir:=@underlying34
def gK:=@underlying9
def jG:=@run_underlying
def iF:=@underlying44
def ve:=@Array.getD_eq_getD_getElem?
def vh:=@List.perm_append_comm_assoc
def lU:=@List.append_nil
def mD:=@List.length_set
def vi:=@decide_eq_false_iff_not
def qH:=@Nat.mul_le_mul_right
def kV:=@List.map_cons
def kg:=@Nat.le_trans
def ph:=@List.getElem?_map
def lF:=@underlying105
def kK:=@underlying22
def lW:=@underlying220
def kW:=@underlying23
def qI:=@Nat.min_eq_left
def tL:=@List.Perm.append_left
def iO:=@sizeOf100
def pS:=@List.getElem_mem
def lX:=@underlying40
def mK:=@underlying102
def sZ:=@Bool.false_eq_true
def vk:=@List.length_drop
def CP:=@Array.getElem?_setIfInBounds
def pn:=@List.mem_range
def mL:=@underlying39
def ov:=@underlying101
def s0:=@List.flatMap_cons
def tM:=@List.getElem?_take
def tN:=@List.mem_cons_self
def nR:=@underlying98
def Et:=@List.eq_nil_of_length_eq_zero
def po:=@Bool.true_and
def xa:=@List.mem_of_mem_drop
def pq:=@underlying193
def HL:=@List.take_succ_eq_append_getElem
def tO:=@List.getElem?_set
def tQ:=@List.size_toArray
def mM:=@List.nodup_cons
def sE:=@List.perm_append_comm
def qR:=@List.getElem_of_mem
def nW:=@List.foldl_cons
def qS:=@BitVec.getLsbD_and
def mj:=@underlying212
def gM:=@sizeOf54
def gN:=@sizeOf37
def kE:=@Nat.add_mul
def wc:=@List.filter_cons_of_pos
def oR:=@Bool.or_eq_true
def xS:=@List.getElem?_append_left
def kX:=@Nat.mul_one
def kY:=@Int.le_refl
def pT:=@Option.map_some
def Ay:=@Array.getElem?_eq_some_iff
def Az:=@List.getElem?_append_right
def xT:=@List.filter_cons_of_neg
def jH:=@sizeOf103
def sF:=@List.ext_getElem?
def mo:=@Nat.zero_le
def pU:=@Bool.false_and
def nX:=@underlying63
def Dq:=@List.flatMap_append
def Dr:=@Array.length_toList
def jI:=@sizeOf86
def we:=@List.take_zero
def pV:=@underlying117
def pW:=@underlying154
def xU:=@List.mem_iff_getElem
def oS:=@underlying42
def xV:=@List.getElem?_range
def FM:=@List.take_succ_cons
def wg:=@Result.andThen_ok
def wh:=@List.foldl_append
def sG:=@DataW.trod_int
def xW:=@List.getElem?_drop
def jJ:=@call150
def jK:=@sizeOf9
def AA:=@List.mem_of_mem_take
def kZ:=@Eq.trans
def qT:=@underlying84
def qU:=@underlying28
def qV:=@underlying26
def tR:=@List.take_left
def xX:=@List.take_add_one
def wj:=@List.range_succ
def wk:=@List.mem_filter
def FN:=@List.mem_take_iff_getElem
def Jr:=@List.drop_append_of_le_length
def sH:=@Sem.run_bind
def xY:=@List.getElem_set
def Js:=@Bool.false_ne_true
def mq:=@sizeOf46
def nY:=@sizeOf109
def Dt:=@List.contains_eq_mem
def Du:=@List.pairwise_append
def wm:=@Nat.mul_le_mul
def AB:=@Bool.not_eq_true'
def oT:=@sizeOf220
def sI:=@underlying4
def AE:=@List.filter_cons
def FO:=@BitVec.eq_of_toNat_eq
def FP:=@List.getElem?_toArray
def FQ:=@List.take_append_drop
def Jt:=@Bool.and_false
def Ju:=@List.drop_eq_getElem_cons
def Jv:=@Decidable.byContradiction
def Pj:=@List.eq_nil_iff_forall_not_mem
def FR:=@Decidable.of_not_not
def oV:=@sizeOf83
def wo:=@underlying58
def oW:=@sizeOf90
def oX:=@sizeOf39
def mN:=@sizeOf4
def xZ:=@Nat.add_assoc
def x7:=@underlying107
def x8:=@underlying156
def Pk:=@List.take_append_of_le_length
def FT:=@List.map_congr_left
def Dv:=@List.any_eq_true
def AF:=@List.take_take
def Dw:=@List.perm_middle
def nZ:=@call149
def AH:=@Int.le_add_one
def wu:=@cell_of_row
def Jw:=@List.drop_of_length_le
def x9:=@Code.wp_mono
def Jx:=@List.sizeOf_lt_of_mem
def Dx:=@List.count_cons
def AI:=@List.map_take
def qW:=@sizeOf22
def qX:=@sizeOf23
def AJ:=@underlying119
def FU:=@List.pairwise_map
def Pm:=@List.pairwise_iff_getElem
def Po:=@Classical.byContradiction
def U9:=@List.set_eq_take_append_cons_drop
def tS:=@sizeOf107
def Dy:=@List.drop_left
def FV:=@Option.getD_some
def FW:=@List.mem_nil_iff
def AL:=@List.map_nil
def sJ:=@sizeOf84
def sK:=@sizeOf88
def sL:=@sizeOf98
def Jy:=@List.drop_succ_cons
def Jz:=@Int.sub_lt_sub_left
def Dz:=@List.sum_cons
def DA:=@underlying233
def JA:=@List.map_singleton
def FY:=@List.length_nil
def wv:=@sizeOf102
def JC:=@Int.toNat_lt_toNat
def Pp:=@BitVec.toNat_shiftLeft
def Pq:=@List.length_pos_of_mem
def tT:=@sizeOf40
def JD:=@of_decide_eq_true
def JE:=@DataW.trod_string
def Pr:=@Decidable.not_not
def JF:=@Int.sub_pos_of_lt
def Ps:=@List.length_replicate
def DB:=@underlying59
def DC:=@underlying72
def sM:=@call159
def Vb:=@List.take_length_add_append
def ya:=@false_iff
def yb:=@sizeOf105
def yc:=@sizeOf101
def ww:=@if_false
def AM:=@beq_iff_eq
def JG:=@List.mem_toArray
def JH:=@List.take_length
def FZ:=@underlying143
def tU:=@if_true
def Vc:=@List.sublist_append_right
def JI:=@List.cons.injEq
def Pt:=@BitVec.toNat_ofInt
def Vd:=@BitVec.toNat_ushiftRight
def F3:=@Addr.add_mid
def Pu:=@BitVec.getLsbD_not
def Ve:=@List.length_erase_of_mem
def Pv:=@List.filter_append
def Px:=@Nat.eq_zero_or_pos
def Vf:=@Array.size_setIfInBounds
def JJ:=@List.drop_zero
def Vg:=@List.getElem?_replicate
def Py:=@List.length_range
def Vh:=@Array.getElem?_eq_none
def Vi:=@List.pairwise_lt_range
def Vj:=@List.range_succ_eq_map
def JK:=@underlying210
def JL:=@underlying115
def JM:=@underlying159
def Pz:=@Option.bind_some
def PA:=@BitVec.toNat_sub
def PB:=@Nat.shiftLeft_eq
def PC:=@decide_eq_decide
def AP:=@or_false
def AR:=@sizeOf56
def AS:=@sizeOf34
def Vk:=@List.mem_iff_getElem?
def Vl:=@List.set_append_right
def Vm:=@Nat.pow_le_pow_right
def Vn:=@BitVec.getLsbD_ofNat
def JO:=@Nat.sub_self
def PD:=@run_equalIn_int
def JP:=@Nat.add_zero
def acZ:=@Array.eq_empty_of_size_eq_zero
def JQ:=@List.map_map
def JR:=@Int.le_trans
def JS:=@underlying65
def Vo:=@BitVec.getLsbD_zero
def Vp:=@Array.getElem?_push
def PE:=@List.drop_drop
def PF:=@List.Perm.refl
def AV:=@Iff.rfl
def DD:=@sizeOf58
def DE:=@sizeOf63
def JT:=@Int.lt_succ
def Vq:=@BitVec.toNat_ofNat
def Vr:=@Nat.lt_of_lt_of_le
def Vs:=@Nat.lt_or_gt_of_ne
def ac0:=@Nat.testBit_two_pow_sub_one
def ac1:=@Nat.testBit_two_pow_mul_add
def Vt:=@Array.ext_getElem?
def Vv:=@List.append_of_mem
def F4:=@sizeOf143
def F5:=@sizeOf154
def yd:=@call44
def Vw:=@Int.toNat_le_toNat
def ac2:=@Int.tdiv_eq_ediv_of_nonneg
def ac3:=@BitVec.getLsbD_ushiftRight
def PG:=@underlying162
def PI:=@underlying135
def PJ:=@underlying114
def Vx:=@Option.some.injEq
def Vy:=@run_storeCells_at
def Vz:=@BitVec.getLsbD_or
def VA:=@not_false_eq_true
def VB:=@Int.lt_trichotomy
def VC:=@List.any_eq_false
def VD:=@List.count_append
def ac4:=@Nat.shiftRight_eq_div_pow
def JU:=@Array.ext'
def ac5:=@Array.getElem?_eq_getElem
def DF:=@Ne.symm
def DG:=@call128
def ac6:=@Array.getElem?_replicate
def VE:=@BitVec.toNat_inj
def VF:=@Nat.min_eq_right
def PK:=@Nat.zero_mul
def VG:=@List.flatMap_map
def VH:=@List.ext_getElem
def ac7:=@List.Pairwise.imp_of_mem
def ac8:=@List.sublist_append_left
def F6:=@sizeOf42
def F7:=@sizeOf25
def VI:=@Nat.div_add_mod
def VJ:=@run_eqGuard_agg
def VK:=@and_congr_right
def VL:=@Int.min_eq_left
def VM:=@List.headD_cons
def JV:=@sizeOf233
def JW:=@sizeOf128
def PL:=@Nat.one_mul
def PM:=@wpAnyH_take
def VN:=@List.range_add
def F8:=@call179
def F9:=@call154
def Ga:=@call199
def Gb:=@call144
def JX:=@sizeOf26
def VO:=@wp_region_any
def VP:=@wpAny_of_held
def VQ:=@Bool.and_true
def VR:=@List.map_drop
def VT:=@Prod.mk.injEq
def VU:=@run_call_load
def VV:=@underlying199
def VW:=@underlying139
def O:=@rfl
theorem J{p:Prop}(h:p:=by omega):p:=h
theorem aW{p:Prop}(h:p:=by (try dsimp only);omega):p:=h
theorem aN{p:Prop}(h:p:=by kernel_rfl):p:=h
theorem ay{p:Prop}(h:p:=by decide):p:=h
theorem bC{p:Prop}(h:p:=by conv=>lhs;whnf):p:=h
theorem aA{p:Prop}(h:p:=by simp):p:=h
theorem aM{p:Prop}(h:p:=by rfl):p:=h
theorem jv{p:Prop}(h:p:=by simp only[maxLen];omega):p:=h
theorem jY{p:Prop}(h:p:=by simp[Value.oneCell']):p:=h
theorem s3{p:Prop}(h:p:=by simp only[fx,maxLen];omega):p:=h
theorem PN{p:Prop}(h:p:=by have:=(tW hr h0 ‹k<_› hdp ‹¬(List.getD l k.toNat cg).op=1› ‹¬(List.getD l k.toNat cg).op=2›);omega):p:=h
theorem hG{p:Prop}(h:p:=by simp;omega):p:=h
theorem mO{p:Prop}(h:p:=by rw[JY];rfl):p:=h
theorem jL{p:Prop}(h:p:=by simp[maxLen]):p:=h
theorem JZ{p:Prop}(h:p:=by show _<(kN _ _ _ _ _).toArray.size;rw[tQ,ada];decide):p:=h
theorem PO{p:Prop}(h:p:=by show((st.length:Int)-(l.getD k.toNat cg).n).toNat+1<=_;simp only[maxLen];omega):p:=h
theorem AW{p:Prop}(h:p:=by rw[adb i0 hi];simp;omega):p:=h
theorem pX{p:Prop}(h:p:=by simpa using hu):p:=h
theorem PR{p:Prop}(h:p:=by show(((st.length:Int)-(l.getD k.toNat cg).n).toNat+1)*_<=_;omega):p:=h
theorem AX{p:Prop}(h:p:=by rw[VX v0];simp[*]):p:=h
theorem AY{p:Prop}(h:p:=by rw[VY v0];simp[*]):p:=h
theorem PS{p:Prop}(h:p:=by rw[NH fw,cV,eD,qI J,Dq];rfl):p:=h
theorem oY{p:Prop}(h:p:=by assumption):p:=h
theorem PU{p:Prop}(h:p:=by first|rfl|(simp only[dg];done)|(simp only[dg];rfl)):p:=h
theorem PV{p:Prop}(h:p:=by have:=(hpl.at h0 ‹k<_› ‹DH _=true›).1;omega):p:=h
theorem Gc{p:Prop}(h:p:=by simp only[nh,eE];omega):p:=h
theorem AZ{p:Prop}(h:p:=by show min _ _=_;omega):p:=h
theorem Gd{p:Prop}(h:p:=by rw[mr];exact nt ‹_›):p:=h
theorem DI{p:Prop}(h:p:=by simp only[cV];omega):p:=h
theorem PW{p:Prop}(h:p:=by simp only[dg,FM,we,fH,dZ];done):p:=h
theorem wx{p:Prop}(h:p:=by simpa using h):p:=h
theorem ade{p:Prop}(h:p:=by first|(rw[Ge j0 ‹j<_›,aR hqq];done)|(rw[Ge j0 ‹j<_›,aP hqq];done)|(rw[Ge j0 ‹j<_›,aP hqq];rfl)):p:=h
theorem DJ{p:Prop}(h:p:=by rw[JY];omega):p:=h
theorem J0{p:Prop}(h:p:=by rw[HM,gm J,Jt]):p:=h
theorem PX{p:Prop}(h:p:=by rw[RV h0,gp,cV];rfl):p:=h
theorem Gf{p:Prop}(h:p:=by rw[Gg];omega):p:=h
theorem Gh{p:Prop}(h:p:=by have:=hlc.dep;omega):p:=h
theorem ye{p:Prop}(h:p:=by simp[undef]):p:=h
theorem DK{p:Prop}(h:p:=by first|rfl|omega):p:=h
theorem pY{p:Prop}(h:p:=by simp[hx]):p:=h
theorem jM{p:Prop}(h:p:=by simp_all):p:=h
theorem yf{p:Prop}(h:p:=by simpa using hi):p:=h
theorem Gi{p:Prop}(h:p:=by rw[yg];omega):p:=h
theorem adf{p:Prop}(h:p:=by have hlc:=nt ‹(!iP (qY s k))=true›;rw[iP,vi]at hlc;rw[s4,vi];omega):p:=h
theorem VZ{p:Prop}(h:p:=by show gs.length+1<=_;simp only[maxLen];omega):p:=h
theorem V0{p:Prop}(h:p:=by rw[half,show(k+1).toNat=k.toNat+1 by omega]):p:=h
theorem adg{p:Prop}(h:p:=by have:=(ow hf (i:=i.toNat) J).1;have:=(ow hf (i:=j.toNat) J).1;omega):p:=h
theorem PY{p:Prop}(h:p:=by simp only[Instr.fill,h];rfl):p:=h
theorem V1{p:Prop}(h:p:=by simp only[cV,eD,gO];omega):p:=h
theorem n4{p:Prop}(h:p:=by cases h):p:=h
theorem V2{p:Prop}(h:p:=by rw[IS h0 ‹k<_›,<-dg];done):p:=h
theorem PZ{p:Prop}(h:p:=by rw[NJ J];rfl):p:=h
theorem adh{p:Prop}(h:p:=by rw[mr];intro q;have q2:(s.aT.getD k.toNat ko).kind=4:=q.2;omega):p:=h
theorem J1{p:Prop}(h:p:=by rw[vk];omega):p:=h
theorem P0{p:Prop}(h:p:=by rw[h.llo];exact hp.1):p:=h
theorem P3{p:Prop}(h:p:=by rw[Eu];exact Js):p:=h
theorem DL{p:Prop}(h:p:=by simpa using h1):p:=h
theorem V3{p:Prop}(h:p:=by show(gs.length+1)*_<=_;omega):p:=h
theorem V4{p:Prop}(h:p:=by unfold Im;((simp_all;done))):p:=h
theorem J2{p:Prop}(h:p:=by simpa using c):p:=h
theorem V5{p:Prop}(h:p:=by rw[hr];exact ajm ‹_›):p:=h
theorem V6{p:Prop}(h:p:=by simp only[fx,eD];omega):p:=h
theorem J3{p:Prop}(h:p:=by (simp;omega)):p:=h
theorem adj{p:Prop}(h:p:=by show¬(1<=f.names.length/\f.names.length<=64);omega):p:=h
theorem adk{p:Prop}(h:p:=by have:=adl r _ _ ‹(iC r _ _).2=true›;omega):p:=h
theorem P4{p:Prop}(h:p:=by rw[Dr];omega):p:=h
theorem V7{p:Prop}(h:p:=by simp[Io,Value.oneCell']):p:=h
theorem P5{p:Prop}(h:p:=by rw[e0];exact xO):p:=h
theorem V8{p:Prop}(h:p:=by rw[pu];exact HN):p:=h
theorem adm{p:Prop}(h:p:=by have:=hui _ (dG (d:=0) h0 ‹k<_›);omega):p:=h
theorem adn{p:Prop}(h:p:=by rw[s5,nt ‹(!(pZ r i j).2)=true›];simp):p:=h
theorem ado{p:Prop}(h:p:=by exact .inr (nf ‹(!oZ s _ 1 x.aS)=false›)):p:=h
theorem adp{p:Prop}(h:p:=by have:leads (bg (cl::zx))=leads cl:=rfl;omega):p:=h
theorem adq{p:Prop}(h:p:=by rw[ajn,show(i+1).toNat=i.toNat+1 by omega]):p:=h
theorem adr{p:Prop}(h:p:=by rw[s5,nt ‹(!(iC r i j).2)=true›];rfl):p:=h
theorem ads{p:Prop}(h:p:=by exact .inl ‹¬(List.getD x.code _ _).op=1›):p:=h
theorem V9{p:Prop}(h:p:=by simp only[fx];omega):p:=h
theorem adt{p:Prop}(h:p:=by show st.length+1<=_;simp only[maxLen];omega):p:=h
theorem adu{p:Prop}(h:p:=by rw[fx];(try rw[mD]);rw[A0];omega):p:=h
theorem adv{p:Prop}(h:p:=by have hb:=hbytes;simp only[gA]at hb;omega):p:=h
theorem Wa{p:Prop}(h:p:=by rw[ha.eval];exact hc):p:=h
theorem adw{p:Prop}(h:p:=by have:=RW hr hk ‹¬k<_› hdp;omega):p:=h
theorem adx{p:Prop}(h:p:=by rw[RX h0];exact Nat.le_add_right _ _):p:=h
theorem ady{p:Prop}(h:p:=by exact .inl ‹¬(List.getD l _ _).op=1›):p:=h
theorem P6{p:Prop}(h:p:=by rw[hg];omega):p:=h
theorem adz{p:Prop}(h:p:=by simp;rcases wz x y with e|e<;>omega):p:=h
theorem adA{p:Prop}(h:p:=by exact .inr (Pr.1 ‹¬¬(_/\_)›)):p:=h
theorem aQ{p:Prop}(h:p:=by assumption):p:=h
end
end Go.Proofs.YtlhjdflgjbkpmaaGreatDoor
namespace Go.Proofs.YtlhjdflgjbkpmaaGreatDoor.E
section
open Go Go.RowKit
abbrev Env:=Nat->Value
def k7(σ:Env)(d:Nat)(v:Value):Env:=fun i=>if i=d then v else σ i
def ev(σ:Env):Operand->Value
 | .tmp t=>σ t
 | .const v=>v
 | .global g=> .pointer (some ⟨g,0,none⟩)
 | .func f=> .func (.func f) #[] #[]
theorem aoQ(σ:Env)(d:Nat)(v:Value):k7 σ d v d=v:=by simp[k7]
theorem Wb(σ:Env){d i:Nat}(v:Value)(h:i≠d):k7 σ d v i=σ i:=by simp[k7,h]
abbrev I(n:Int):Value:= .int .i64 n
abbrev U(x:BitVec 64):Value:= .int .u64 (x.toNat:Int)
abbrev B(b:Bool):Value:= .bool b
structure Is(n:Nat)(σ:Env)(a:Act):Prop where
 size:a.tmps.size=n
 get:∀t,a.tmps.getD t undef=σ t
 defers:a.defers=[]
section basics
variable{n:Nat}{σ:Env}{a:Act}
theorem Is.eval(h:Is n σ a):a.eval=ev σ:=by
 funext x
 cases x with
 |tmp t=>exact h.get t
 |const v=>rfl
 |global g=>rfl
 |func f=>rfl
theorem Is.put(h:Is n σ a){d:Nat}(hd:Nat.blt d n=true)(v:Value):Is n (k7 σ d v) (a.put (some d) v):=by
 have hd':d<n:=by simpa[Nat.blt_eq]using hd
 refine⟨(by simp[Act.put,h.size]),fun t=> ?_,(by simp[Act.put,h.defers])⟩
 have:=h.get t
 simp only[Act.put,k7,ve]at*
 rw[CP]
 by_cases ht:d=t
 .subst ht;simp[h.size,hd']
 rw[aP ht,aP (fun e=>ht e.symm)];exact this
theorem Is.look(h:Is n σ a){t:Nat}{v:Value}(hv:σ t=v)(hne:v≠undef):a.tmps[t]?=some v:=by
 have:=h.get t
 rw[hv,ve]at this
 cases hx:a.tmps[t]? with
 |none=>simp[hx]at this;exact absurd this.symm hne
 |some u=>simp[hx]at this;rw[this]
end basics
abbrev K:=Env->World->Prop
def post(n:Nat)(k:K)(xs:List (Nat×K))(r:K):Exit->Act->World->Prop
 | .normal,a,w=>∃σ,Is n σ a/\k σ w
 | .exit id,a,w=>∃σ,Is n σ a/\∃q,xs.lookup id=some q/\q σ w
 | .ret,a,w=>∃σ,Is n σ a/\r σ w
 |_,_,_=>False
def CW(P:Program)(n:Nat)(c:Code)(k:K)(xs:List (Nat×K))(r:K)(σ:Env)(w:World):Prop:=
 ∀a,Is n σ a->c.wp P (post n k xs r) a w
def qJ(n:Nat)(k:K):Exit->Act->World->Prop
 | .normal,a,w=>∃σ,Is n σ a/\k σ w
 |_,_,_=>False
def RL(P:Program)(n:Nat)(ops:Array Oper)(k:K)(l:List Oper)(σ:Env)(w:World):Prop:=
 ∀a,Is n σ a->wpList P ops (qJ n k) l a w
section code
variable{P:Program}{n:Nat}{k:K}{xs:List (Nat×K)}{r:K}{σ:Env}{w:World}
theorem CW.mono{c:Code}{k':K}(h:CW P n c k xs r σ w)(hk:∀σ w,k σ w->k' σ w):CW P n c k' xs r σ w:=by
 intro a ha
 refine x9 (fun e a' w' hq=> ?_) (h a ha)
 cases e with
 |normal=>obtain⟨σ',h1,h2⟩:=hq;exact⟨σ',h1,hk _ _ h2⟩
 |exit id=>exact hq
 |ret=>exact hq
 |goto l=>exact hq
 |panic c=>exact hq
 |outgrown=>exact hq
theorem ak(h:k σ w):CW P n .skip k xs r σ w:=fun a ha=>wp_skip ⟨σ,ha,h⟩
theorem aj(h:r σ w):CW P n .ret k xs r σ w:=fun a ha=>wp_ret ⟨σ,ha,h⟩
theorem aY{id:Nat}{q:K}(hq:xs.lookup id=some q)(h:q σ w):CW P n (.exit id) k xs r σ w:=
 fun a ha=>wp_exit ⟨σ,ha,q,hq,h⟩
theorem ah{x y:Code}(h:CW P n x (fun σ w=>CW P n y k xs r σ w) xs r σ w):CW P n (.seq x y) k xs r σ w:=by
 intro a ha
 refine wp_seq (x9 (fun e a' w' hq=> ?_) (h a ha))
 cases e with
 |normal=>obtain⟨σ',h1,h2⟩:=hq;exact h2 _ h1
 |exit id=>exact hq
 |ret=>exact hq
 |goto l=>exact hq
 |panic c=>exact hq
 |outgrown=>exact hq
theorem adB{x y:Code}(m:K)(h:CW P n x m xs r σ w)(h':∀σ w,m σ w->CW P n y k xs r σ w):CW P n (.seq x y) k xs r σ w:=
 ah (h.mono h')
theorem bQ{c:Operand}{x y:Code}{t:Bool}(hc:ev σ c= .bool t)(ht:t=true->CW P n x k xs r σ w)
  (hf:t=false->CW P n y k xs r σ w):CW P n (.cond c x y) k xs r σ w:=
 fun a ha=>wp_cond_split Wa (fun h=>ht h a ha) (fun h=>hf h a ha)
theorem cr{c:Operand}{x y:Code}(hc:ev σ c= .bool true)(ht:CW P n x k xs r σ w):CW P n (.cond c x y) k xs r σ w:=
 fun a ha=>wp_cond_true Wa (ht a ha)
theorem dm{c:Operand}{x y:Code}(hc:ev σ c= .bool false)(hf:CW P n y k xs r σ w):CW P n (.cond c x y) k xs r σ w:=
 fun a ha=>wp_cond_false Wa (hf a ha)
theorem aF{c:Operand}{x y:Code}{p:Prop}[inst:Decidable p](hc:ev σ c= .bool (decide p))(ht:p->CW P n x k xs r σ w)
 (hf:¬p->CW P n y k xs r σ w):CW P n (.cond c x y) k xs r σ w:=by grind[bQ]
theorem aC{id:Nat}{c:Code}(h:CW P n c k ((id,k)::xs) r σ w):CW P n (.block id c) k xs r σ w:=by
 intro a ha
 refine wp_block (x9 (fun e a' w' hq=> ?_) (h a ha))
 cases e with
 |normal=>exact hq
 |exit id'=>
  obtain⟨σ',h1,q,h2,h3⟩:=hq
  simp only[Exit.inBlock]
  by_cases hid:id'=id
  .rw[aR hid];subst hid
   simp only[List.lookup_cons,beq_self_eq_true,Vx]at h2
   subst h2;exact⟨σ',h1,h3⟩
  rw[aP hid]
  have hb:(id'==id)=false:=by simpa using hid
  simp only[List.lookup_cons,hb]at h2
  exact⟨σ',h1,q,h2,h3⟩
 |ret=>exact hq
 |goto l=>exact hq
 |panic c=>exact hq
 |outgrown=>exact hq
theorem bj{c:Code}{G:Type}(inv:G->K)(mu:G->Nat)(g0:G)(h0:inv g0 σ w)
  (round:∀g σ w,inv g σ w->CW P n c (fun σ' w'=>∃g',mu g'<mu g/\inv g' σ' w') xs r σ w):CW P n (.loop c) k xs r σ w:=by
 intro a ha b kk cs
 have key:∀m g σ w a,mu g=m->inv g σ w->Is n σ a->
   ∃e a' w',post n k xs r e a' w'/\Arrives P (lone (b.at a (.code c:: .inLoop c::kk)) cs w) b kk cs e a' w':=by
  intro m
  induction m using Nat.strongRecOn with
  |_ m ih=>
   intro g σ w a hm hi ha
   obtain⟨e,a',w',hq,adC⟩:=round g σ w hi a ha b (.inLoop c::kk) cs
   cases e with
   |normal=>
    obtain⟨σ',h1,g',hlt,hi'⟩:=hq
    obtain⟨e2,a2,w2,hq2,atu⟩:=ih (mu g') (hm▸hlt) g' σ' w' a' O hi' h1
    exact⟨e2,a2,w2,hq2,.of_steps (Steps.trans adC (.one step_inLoop)) atu⟩
   |exit id=>exact⟨.exit id,a',w',hq,.pass (x:= .inLoop c) O (fun _ _=> .inl aA) adC⟩
   |ret=>exact⟨.ret,a',w',hq,.pass (x:= .inLoop c) O (fun _ _=> .inl aA) adC⟩
   |goto l=>exact hq.elim
   |panic c=>exact hq.elim
   |outgrown=>exact hq.elim
 obtain⟨e,a',w',hq,adC⟩:=key _ g0 σ w a O h0 ha
 exact⟨e,a',w',hq,.of_steps (.one step_loop) adC⟩
theorem au{id:Nat}{l:List Oper}(h:RL P n l.toArray k l σ w):CW P n (.region id l.toArray false) k xs r σ w:=by
 intro a ha
 refine x9 (fun e a' w' hq=> ?_) (wp_region_lit (id:=id) (h a ha))
 cases e with
 |normal=>exact hq
 |exit id=>exact hq.elim
 |ret=>exact hq.elim
 |goto l=>exact hq.elim
 |panic c=>exact hq.elim
 |outgrown=>exact hq.elim
end code
def jF(q:Value->World->Prop):Ending->World->Prop
 | .returned v,w=>q v w
 |_,_=>False
theorem jF.mono{q q':Value->World->Prop}(h:∀v w,q v w->q' v w){e:Ending}{w:World}(hr:jF q e w):jF q' e w:=by
 cases e with
 |returned v=>exact h v w hr
 |panicked c=>exact hr
 |outgrown=>exact hr
theorem jF.calls{P:Program}{f:FuncId}{args:Array Value}{w:World}{q q':Value->World->Prop}(hc:Calls P f args w (jF q))(h:∀v w,q v w->q' v w):Calls P f args w (jF q'):=hc.mono fun _ _ hr=>hr.mono h
def entry(args:Array Value):Env:=fun i=>args.getD i undef
theorem adD(args:Array Value)(n:Nat)(h:args.size<=n):Is n (entry args) {tmps:=args++Array.replicate (n-args.size) undef,defers:=[]}:=by
 refine⟨by simp;omega,fun t=> ?_,rfl⟩
 simp only[entry,ve,Array.getElem?_append,ac6]
 split
 .rfl
 rename_i ht
 rw[Vh J]
 split<;>rfl
section entry
variable{P:Program}{n:Nat}{w:World}
def Out(P:Program)(fn:Func)(q:Value->World->Prop):K:=fun σ w=>
 ∀n a,Is n σ a->∃v,(results fn a.tmps).run P w= .ok v w/\q v w
theorem enter{f:FuncId}{fn:Func}{c:Code}{args:Array Value}{q:Value->World->Prop}(hf:P.funcs[f]?=some fn)(hb:fn.body=some c)
  (hn:fn.ntmps=n) (ha:Nat.ble args.size n=true) (h:CW P n c (Out P fn q) [] (Out P fn q) (entry args) w):Calls P f args w (jF q):=by
 refine calls_of_wp hf hb ?_
 rw[hn]
 refine x9 (fun e a' w' hq=> ?_) (h _ (adD args n (by simpa using ha)))
 cases e with
 |normal=>obtain⟨σ,h1,h2⟩:=hq;obtain⟨v,h3,h4⟩:=h2 _ _ h1;exact⟨h1.defers,v,h3,h4⟩
 |ret=>obtain⟨σ,h1,h2⟩:=hq;obtain⟨v,h3,h4⟩:=h2 _ _ h1;exact⟨h1.defers,v,h3,h4⟩
 |exit id=>obtain⟨σ,h1,q,h2,h3⟩:=hq;simp at h2
 |goto l=>exact hq.elim
 |panic c=>exact hq.elim
 |outgrown=>exact hq.elim
variable{fn:Func}{q:Value->World->Prop}{σ:Env}
theorem p5(h:fn.results=#[])(hq:q (.tuple #[]) w):Out P fn q σ w:=fun _ _ _=>⟨_,results_none h _ _ _,hq⟩
theorem ja{t:Nat}{v:Value}(h:fn.results=#[.tmp t])(hv:σ t=v)(hq:q v w):Out P fn q σ w:=
 fun _ a ha=>⟨v,by rw[results_tmp h,ha.get,hv],hq⟩
theorem atv{t u:Nat}{x y:Value}(h:fn.results=#[.tmp t,.tmp u])(hx:σ t=x)(hy:σ u=y)(hq:q (.tuple #[x,y]) w):Out P fn q σ w:=
 fun _ a ha=>⟨_,by rw[results_tmp2 h,ha.get,ha.get,hx,hy],hq⟩
end entry
section ops
variable{P:Program}{n:Nat}{ops:Array Oper}{k:K}{rest:List Oper}{σ:Env}{w w':World}{op:Op}{ty:TypeId}{pos:String}{bH:Array Edge}{d:Nat}
theorem aa(h:k σ w):RL P n ops k [] σ w:=fun a ha=>wpList_nil ⟨σ,ha,h⟩
theorem n5{v:Value}(hd:Nat.blt d n=true)(hr:(execOp (ev σ) ⟨some d,op,ty,pos,bH,none⟩).run P w= .ok (.value v) w')
  (hk:RL P n ops k rest (k7 σ d v) w'):RL P n ops k (⟨some d,op,ty,pos,bH,none⟩::rest) σ w:=by
 intro a ha
 refine wpList_plain O fun K hK=> ?_
 rw[Oper.wp,ha.eval,hr]
 exact hK _ _ (hk _ (ha.put hd v))
theorem J4(hr:(execOp (ev σ) ⟨none,op,ty,pos,bH,none⟩).run P w= .ok .skip w')
  (hk:RL P n ops k rest σ w'):RL P n ops k (⟨none,op,ty,pos,bH,none⟩::rest) σ w:=by
 intro a ha
 refine wpList_plain O fun K hK=> ?_
 rw[Oper.wp,ha.eval,hr]
 exact hK _ _ (hk _ ha)
theorem Gj{f:FuncId}{args:Array Value}{q:Value->World->Prop}(hd:Nat.blt d n=true)
  (hr:(execOp (ev σ) ⟨some d,op,ty,pos,bH,none⟩).run P w= .ok (.enter f args) w) (hc:Calls P f args w (jF q))
  (hk:∀v w',q v w'->RL P n ops k rest (k7 σ d v) w'):RL P n ops k (⟨some d,op,ty,pos,bH,none⟩::rest) σ w:=by
 intro a ha
 refine wpList_plain O fun K hK=> ?_
 rw[Oper.wp,ha.eval,hr]
 refine hc.mono fun e w' hq=> ?_
 cases e with
 |returned v=>exact hK _ _ (hk _ _ hq _ (ha.put hd v))
 |panicked c=>exact hq.elim
 |outgrown=>exact hq.elim
theorem Gk{a:Act}(ha:Is n σ a){j dj:Nat}{b want:Bool}(hj:(ops[j]?).bind (·.dst)=some dj)(hb:σ dj= .bool b)(dst:Option Tmp):
  Region.wanted ⟨dst,op,ty,pos,bH,some (j,want)⟩ (yielded ops a.tmps)=(b==want):=by
 have h1:a.tmps[dj]?=some (.bool b):=ha.look hb ye
 simp only[Region.wanted,yielded,hj,Pz,h1]
 cases b<;>cases want<;>rfl
theorem Ev{a:Act}(ha:Is n σ a){j dj:Nat}{want:Bool}(hj:(ops[j]?).bind (·.dst)=some dj)(hu:σ dj=undef)(dst:Option Tmp):
  Region.wanted ⟨dst,op,ty,pos,bH,some (j,want)⟩ (yielded ops a.tmps)=false:=by
 have h1:a.tmps[dj]?=some undef\/a.tmps[dj]?=none:=by
  have:=ha.get dj
  rw[hu,ve]at this
  cases hx:a.tmps[dj]? with
  |none=>exact .inr O
  |some u=>simp[hx]at this;exact .inl (by rw[this])
 rcases h1 with h1|h1<;>simp only[Region.wanted,yielded,hj,Pz,h1,undef]<;>rfl
theorem gP{j dj:Nat}{want:Bool}(hd:Nat.blt d n=true)(hj:(ops[j]?).bind (·.dst)=some dj)(hu:σ dj=undef)
  (h:RL P n ops k rest (k7 σ d undef) w):RL P n ops k (⟨some d,op,ty,pos,bH,some (j,want)⟩::rest) σ w:=by
 intro a ha
 simp only[wpList,Ev ha hj hu]
 exact h _ (ha.put hd undef)
end ops
section runs
variable{P:Program}{σ:Env}{w:World}{dst:Option Tmp}{ty:TypeId}{pos:String}{bH:Array Edge}{g:Option (Nat×Bool)}
theorem run_move{x:Operand}{v:Value}(hx:ev σ x=v):(execOp (ev σ) ⟨dst,.move x,ty,pos,bH,g⟩).run P w= .ok (.value v) w:=by
 subst hx;rfl
theorem run_assign{x:Operand}{v:Value}(hx:ev σ x=v):(execOp (ev σ) ⟨dst,.assign x,ty,pos,bH,g⟩).run P w= .ok (.value v) w:=by
 subst hx;rfl
theorem gC{c a b:Operand}{v:Value}(hc:ev σ c= .bool true)(ha:ev σ a=v):
  (execOp (ev σ) ⟨dst,.pick c a b,ty,pos,bH,g⟩).run P w= .ok (.value v) w:=by
 subst ha;simp[execOp,hc,asBool]
theorem dV{c a b:Operand}{v:Value}(hc:ev σ c= .bool false)(hb:ev σ b=v):
  (execOp (ev σ) ⟨dst,.pick c a b,ty,pos,bH,g⟩).run P w= .ok (.value v) w:=by
 subst hb;simp[execOp,hc,asBool]
theorem bD{t:Operand}{i:Nat}{vs:Array Value}{v:Value}(ht:ev σ t= .tuple vs)(hv:vs[i]?=some v):
  (execOp (ev σ) ⟨dst,.extract t i,ty,pos,bH,g⟩).run P w= .ok (.value v) w:=by
 simp[execOp,ht,Instr.extract,hv]
section ints
variable{t u:TypeId}{x y:Operand}{k:IntKind}{a b:Int}
theorem B4{op:BinOp}{v:Value}(hx:ev σ x= .int k a)(hy:ev σ y= .int k b)(hop:(match op with| .eql=>Value.bool (decide (a=b))| .neq=> .bool (decide (a≠b))| .lss=> .bool (decide (a<b))| .leq=> .bool (decide (a<=b))| .gtr=> .bool (decide (b<a))| .geq=> .bool (decide (b<=a))|_=>undef)=v)(hu:v≠undef):
  (execOp (ev σ) ⟨dst,.binOp op t x y u,ty,pos,bH,g⟩).run P w= .ok (.value v) w:=by
 subst hop
 cases op<;>simp_all [execOp,eqGuard,binOp,Op.intCmp,undef]
 .rw[gd];simp
 rw[gd];simp
theorem bO(hx:ev σ x= .int k a)(hy:ev σ y= .int k b):(execOp (ev σ) ⟨dst,.binOp .eql t x y u,ty,pos,bH,g⟩).run P w= .ok (.value (.bool (decide (a=b)))) w:=B4 hx hy O ye
theorem kQ(hx:ev σ x= .int k a)(hy:ev σ y= .int k b):(execOp (ev σ) ⟨dst,.binOp .neq t x y u,ty,pos,bH,g⟩).run P w= .ok (.value (.bool (decide (a≠b)))) w:=B4 hx hy O ye
theorem aL(hx:ev σ x= .int k a)(hy:ev σ y= .int k b):(execOp (ev σ) ⟨dst,.binOp .lss t x y u,ty,pos,bH,g⟩).run P w= .ok (.value (.bool (decide (a<b)))) w:=B4 hx hy O ye
theorem yh(hx:ev σ x= .int k a)(hy:ev σ y= .int k b):(execOp (ev σ) ⟨dst,.binOp .leq t x y u,ty,pos,bH,g⟩).run P w= .ok (.value (.bool (decide (a<=b)))) w:=B4 hx hy O ye
theorem dx(hx:ev σ x= .int k a)(hy:ev σ y= .int k b):(execOp (ev σ) ⟨dst,.binOp .gtr t x y u,ty,pos,bH,g⟩).run P w= .ok (.value (.bool (decide (b<a)))) w:=B4 hx hy O ye
theorem di(hx:ev σ x= .int k a)(hy:ev σ y= .int k b):(execOp (ev σ) ⟨dst,.binOp .geq t x y u,ty,pos,bH,g⟩).run P w= .ok (.value (.bool (decide (b<=a)))) w:=B4 hx hy O ye
theorem B5{n:Int}(h: -9223372036854775808<=n/\n<=9223372036854775807):IntKind.i64.wrap n=n:=IntWalk.i64_in n h
theorem ax(hx:ev σ x= .int .i64 a)(hy:ev σ y= .int .i64 b)(h: -9223372036854775808<=a+b/\a+b<=9223372036854775807):
  (execOp (ev σ) ⟨dst,.binOp .add t x y u,ty,pos,bH,g⟩).run P w= .ok (.value (.int .i64 (a+b))) w:=by
 simp[execOp,hx,hy,eqGuard,binOp,Op.intArith,B5 h]
theorem fK(hx:ev σ x= .int .i64 a)(hy:ev σ y= .int .i64 b)(h: -9223372036854775808<=a-b/\a-b<=9223372036854775807):
  (execOp (ev σ) ⟨dst,.binOp .sub t x y u,ty,pos,bH,g⟩).run P w= .ok (.value (.int .i64 (a-b))) w:=by
 simp[execOp,hx,hy,eqGuard,binOp,Op.intArith,B5 h]
theorem B6(hx:ev σ x= .int .i64 a)(hy:ev σ y= .int .i64 b)(h: -9223372036854775808<=a*b/\a*b<=9223372036854775807):
  (execOp (ev σ) ⟨dst,.binOp .mul t x y u,ty,pos,bH,g⟩).run P w= .ok (.value (.int .i64 (a*b))) w:=by
 simp[execOp,hx,hy,eqGuard,binOp,Op.intArith,B5 h]
theorem ajo(hx:ev σ x= .int .i64 a)(hy:ev σ y= .int .i64 b)(ha:0<=a/\a<=9223372036854775807)(hb:0<b):
  (execOp (ev σ) ⟨dst,.binOp .quo t x y u,ty,pos,bH,g⟩).run P w= .ok (.value (.int .i64 (a/b))) w:=by
 have h1:a.tdiv b=a/b:=ac2 ha.1
 have h2:a/b<=a:=Int.ediv_le_self b ha.1
 have h3:0<=a/b:=Int.ediv_nonneg ha.1 J
 simp[execOp,hx,hy,eqGuard,binOp,Op.intDiv,h1,B5 (n:=a/b) J,show b≠0 by omega]
end ints
section words
variable{t u:TypeId}{x y:Operand}{a b:BitVec 64}
theorem J5(n:Int):IntKind.u64.wrap n=((BitVec.ofInt 64 n).toNat:Int):=by
 simp[IntKind.wrap,IntKind.bits,IntKind.signed,Pt]
 omega
theorem ofU(a:BitVec 64):BitVec.ofInt 64 (a.toNat:Int)=a:=aA
theorem P7(a:BitVec 64):IntKind.u64.wrap (a.toNat:Int)=(a.toNat:Int):=by rw[J5,ofU]
theorem B7{op:BinOp}{k:IntKind}{m n:Int}{v:Value}(hx:ev σ x= .int k m)(hy:ev σ y= .int k n)(h:(binOp op t (.int k m) (.int k n)).run P w= .ok v w):
  (execOp (ev σ) ⟨dst,.binOp op t x y u,ty,pos,bH,g⟩).run P w= .ok (.value v) w:=by
 have he:(eqGuard op t x y (.int k m) (.int k n))=pure ():=by cases op<;>rfl
 simp[execOp,hx,hy,he,h]
theorem jb(hx:ev σ x=U a)(hy:ev σ y=U b):(execOp (ev σ) ⟨dst,.binOp .eql t x y u,ty,pos,bH,g⟩).run P w= .ok (.value (.bool (decide (a=b)))) w:=by
 rw[bO hx hy];congr 3;rw[gd];simp[<-VE];omega
theorem tX(hx:ev σ x=U a)(hy:ev σ y=U b):(execOp (ev σ) ⟨dst,.binOp .neq t x y u,ty,pos,bH,g⟩).run P w= .ok (.value (.bool (decide (a≠b)))) w:=by
 rw[kQ hx hy];congr 3;rw[gd];simp[<-VE];omega
theorem adE(hx:ev σ x=U a)(hy:ev σ y=U b):(execOp (ev σ) ⟨dst,.binOp .add t x y u,ty,pos,bH,g⟩).run P w= .ok (.value (U (a+b))) w:=by
 simp[execOp,hx,hy,eqGuard,binOp,Op.intArith,J5,BitVec.ofInt_add]
theorem RY(hx:ev σ x=U a)(hy:ev σ y=U b):(execOp (ev σ) ⟨dst,.binOp .sub t x y u,ty,pos,bH,g⟩).run P w= .ok (.value (U (a-b))) w:=by
 have h:((BitVec.ofInt 64 ((a.toNat:Int)-b.toNat)).toNat:Int)=((a-b).toNat:Int):=by
  rw[Pt,PA];have:=a.isLt;have:=b.isLt;omega
 refine B7 hx hy ?_
 simp only[binOp,Op.intArith,J5,h];rfl
theorem J6(hx:ev σ x=U a)(hy:ev σ y=U b):(execOp (ev σ) ⟨dst,.binOp .mul t x y u,ty,pos,bH,g⟩).run P w= .ok (.value (U (a*b))) w:=by
 simp[execOp,hx,hy,eqGuard,binOp,Op.intArith,J5,BitVec.ofInt_mul]
theorem lY(hx:ev σ x=U a)(hy:ev σ y=U b):(execOp (ev σ) ⟨dst,.binOp .and t x y u,ty,pos,bH,g⟩).run P w= .ok (.value (U (a&&&b))) w:=by
 refine B7 hx hy ?_
 simp only[binOp,Op.intBits,IntKind.bits,ofU,P7];rfl
theorem jj(hx:ev σ x=U a)(hy:ev σ y=U b):(execOp (ev σ) ⟨dst,.binOp .or t x y u,ty,pos,bH,g⟩).run P w= .ok (.value (U (a|||b))) w:=by
 refine B7 hx hy ?_
 simp only[binOp,Op.intBits,IntKind.bits,ofU,P7];rfl
theorem RZ(hx:ev σ x=U a)(hy:ev σ y=U b):(execOp (ev σ) ⟨dst,.binOp .andNot t x y u,ty,pos,bH,g⟩).run P w= .ok (.value (U (a&&& ~~~b))) w:=by
 refine B7 hx hy ?_
 simp only[binOp,Op.intBits,IntKind.bits,ofU,P7];rfl
theorem J7(hx:ev σ x=U a)(hy:ev σ y=U b)(hb:b≠0):(execOp (ev σ) ⟨dst,.binOp .quo t x y u,ty,pos,bH,g⟩).run P w= .ok (.value (U (a/b))) w:=by
 have hb':¬((b.toNat:Int)=0):=fun h=>hb (FO wx)
 have h1:((a.toNat:Int)).tdiv (b.toNat:Int)=((a/b).toNat:Int):=by
  rw[ac2 J];simp
 refine B7 hx hy ?_
 simp only[binOp,Op.intDiv,aP hb',h1,P7];rfl
theorem J8(hx:ev σ x=U a)(hy:ev σ y=U b)(hb:b≠0):(execOp (ev σ) ⟨dst,.binOp .rem t x y u,ty,pos,bH,g⟩).run P w= .ok (.value (U (a%b))) w:=by
 have hb':¬((b.toNat:Int)=0):=fun h=>hb (FO wx)
 have h1:((a.toNat:Int)).tmod (b.toNat:Int)=((a%b).toNat:Int):=by
  rw[Int.tmod_eq_emod_of_nonneg J];simp
 refine B7 hx hy ?_
 simp only[binOp,Op.intDiv,aP hb',h1];rfl
theorem adF(hx:ev σ x=U a):(execOp (ev σ) ⟨dst,.unOp .neg t x,ty,pos,bH,g⟩).run P w= .ok (.value (U (-a))) w:=by
 have h:((BitVec.ofInt 64 (0-(a.toNat:Int))).toNat:Int)=((-a).toNat:Int):=by
  rw[Pt,BitVec.toNat_neg];have:=a.isLt;omega
 simp only[execOp,hx,Op.unary,Op.intArith,J5,h];rfl
theorem J9(hx:ev σ x=U a)(hy:ev σ y=U b):(execOp (ev σ) ⟨dst,.binOp .shl t x y u,ty,pos,bH,g⟩).run P w= .ok (.value (U (a<<<b.toNat))) w:=by
 have h:IntKind.u64.wrap ((a.toNat:Int)*2^(min b.toNat 64))=((a<<<b.toNat).toNat:Int):=by
  have e1:((a.toNat:Int)*2^(min b.toNat 64))=((a.toNat*2^(min b.toNat 64):Nat):Int):=by push_cast;rfl
  rw[J5,e1,BitVec.ofInt_natCast,Vq,Pp,PB]
  by_cases hle:b.toNat<=64
  .rw[qI hle]
  rw[VF J]
  have e2:(2:Nat)^b.toNat=2^64*2^(b.toNat-64):=by rw[<-Nat.pow_add];congr 1;omega
  rw[e2,<-Nat.mul_assoc,Nat.mul_right_comm,Nat.mul_mod_left,Nat.mul_mod_left]
 have hn:¬((b.toNat:Int)<0):=J
 have he:(eqGuard .shl t x y (U a) (U b))=pure ():=rfl
 simp only[execOp,hx,hy,he,binOp,Op.shift,aP hn,dW,IntKind.bits,h];rfl
theorem Ew(hx:ev σ x=U a)(hy:ev σ y=U b):(execOp (ev σ) ⟨dst,.binOp .shr t x y u,ty,pos,bH,g⟩).run P w= .ok (.value (U (a>>>b.toNat))) w:=by
 have h:((a.toNat:Int)).fdiv (2^(min b.toNat 64))=((a>>>b.toNat).toNat:Int):=by
  have e1:((2:Int)^(min b.toNat 64))=((2^(min b.toNat 64):Nat):Int):=by push_cast;rfl
  rw[e1,Int.fdiv_eq_ediv_of_nonneg _ (Int.natCast_nonneg _),Vd,ac4]
  norm_cast
  by_cases hle:b.toNat<=64
  .rw[qI hle]
  rw[VF J]
  have:=a.isLt
  rw[Nat.div_eq_of_lt J,Nat.div_eq_of_lt]
  exact Vr this (Vm J J)
 have hn:¬((b.toNat:Int)<0):=J
 have he:(eqGuard .shr t x y (U a) (U b))=pure ():=rfl
 simp only[execOp,hx,hy,he,binOp,Op.shift,aP hn,dW,IntKind.bits,h];rfl
theorem kF{s e:TypeId}{m:Int}{ki:IntKind}{des:TypeDesc}(hs:P.underlying s=some des)(he:P.underlying e=some (.int .u64))(hx:ev σ x= .int ki m):
  (execOp (ev σ) ⟨dst,.convert s e x,ty,pos,bH,g⟩).run P w= .ok (.value (U (BitVec.ofInt 64 m))) w:=by
 have h:(convert s e (.int ki m)).run P w= .ok (.int .u64 (IntKind.u64.wrap m)) w:=by
  simp[convert,jG hs,jG he,Conv.intToInt]
 simp only[execOp,hx]
 simp[h,J5]
theorem Wc{s e:TypeId}{m:Int}{ki:IntKind}{des:TypeDesc}(hs:P.underlying s=some des)(he:P.underlying e=some (.int .i64))(hx:ev σ x= .int ki m)(h: -9223372036854775808<=m/\m<=9223372036854775807):
  (execOp (ev σ) ⟨dst,.convert s e x,ty,pos,bH,g⟩).run P w= .ok (.value (.int .i64 m)) w:=by
 have h:(convert s e (.int ki m)).run P w= .ok (.int .i64 m) w:=by
  simp[convert,jG hs,jG he,Conv.intToInt,B5 h]
 simp only[execOp,hx]
 simp[h]
theorem We(a:BitVec 64):IntKind.i64.wrap (a.toNat:Int)=a.toInt:=by
 have:=a.isLt
 rw[BitVec.toInt_eq_toNat_cond]
 have h64:(2:Int)^64=18446744073709551616:=ay
 have h63:(2:Int)^(64-1)=9223372036854775808:=ay
 have e64:(2:Nat)^64=18446744073709551616:=ay
 simp only[IntKind.wrap,IntKind.bits,IntKind.signed,h64,h63,e64,po,dP]
 by_cases h:2*a.toNat<18446744073709551616
 .rw[aR h,aP J];omega
 rw[aP h,aR J];omega
theorem Wf{s e:TypeId}{des:TypeDesc}(hs:P.underlying s=some des)(he:P.underlying e=some (.int .i64))(hx:ev σ x=U a):
  (execOp (ev σ) ⟨dst,.convert s e x,ty,pos,bH,g⟩).run P w= .ok (.value (.int .i64 a.toInt)) w:=by
 have h:(convert s e (U a)).run P w= .ok (.int .i64 a.toInt) w:=by
  simp[convert,jG hs,jG he,Conv.intToInt,We]
 simp only[execOp,hx]
 simp[h]
end words
section atx
variable{t u:TypeId}{x y:Operand}{a b:Bool}{p:Prop}[inst:Decidable p]
theorem bK(hx:ev σ x= .bool a):(execOp (ev σ) ⟨dst,.unOp .not t x,ty,pos,bH,g⟩).run P w= .ok (.value (.bool (!a))) w:=by
 simp[execOp,hx,Op.unary]
theorem tY(hx:ev σ x= .bool (decide p)):(execOp (ev σ) ⟨dst,.unOp .not t x,ty,pos,bH,g⟩).run P w= .ok (.value (.bool (decide ¬p))) w:=by
 simp[execOp,hx,Op.unary]
theorem Ka(d:Nat)(ht:P.underlying t=some .bool):(Op.equalIn (d+1) t (.bool a) (.bool b)).run P w= .ok (a==b) w:=by
 simp[Op.equalIn,jG ht]
theorem adG(ht:P.underlying t=some .bool)(hx:ev σ x= .bool a)(hy:ev σ y= .bool b):(execOp (ev σ) ⟨dst,.binOp .eql t x y u,ty,pos,bH,g⟩).run P w= .ok (.value (.bool (a==b))) w:=by
 have h:(binOp .eql t (.bool a) (.bool b)).run P w= .ok (.bool (a==b)) w:=by
  simp only[binOp];simp[Op.equal,Op.maxDepth,Ka 9999 ht]
 have he:(eqGuard .eql t x y (.bool a) (.bool b))=pure ():=rfl
 simp only[execOp,hx,hy,he];simp[h]
theorem adH(ht:P.underlying t=some .bool)(hx:ev σ x= .bool a)(hy:ev σ y= .bool b):(execOp (ev σ) ⟨dst,.binOp .neq t x y u,ty,pos,bH,g⟩).run P w= .ok (.value (.bool (!(a==b)))) w:=by
 have h:(binOp .neq t (.bool a) (.bool b)).run P w= .ok (.bool (!(a==b))) w:=by
  simp only[binOp];simp[Op.equal,Op.maxDepth,Ka 9999 ht]
 have he:(eqGuard .neq t x y (.bool a) (.bool b))=pure ():=rfl
 simp only[execOp,hx,hy,he];simp[h]
end atx
section mem
variable{t u:TypeId}{x y:Operand}{v:Value}
theorem IT{e:TypeId}(hx:ev σ x=v):(execOp (ev σ) ⟨dst,.box e x,ty,pos,bH,g⟩).run P w= .ok (.value (.pointer (some ⟨w.heap.size,0,none⟩))) (w.alloc (.cells v.cells e)):=by
 subst hx;rfl
theorem aZ{e:TypeId}{z:Value}(hz:∀w,(zeroValue e).run P w= .ok z w):(execOp (ev σ) ⟨dst,.alloc e,ty,pos,bH,g⟩).run P w= .ok (.value (.pointer (some ⟨w.heap.size,0,none⟩))) (w.alloc (.cells z.cells e)):=by
 simp[execOp,Instr.alloc,hz,newVar,newRow,newObj,Sem.run]
theorem Nb{s i n off b o:Nat}{fs:Array Field}{f:Field}(hu:P.underlying s=some (.struct fs))(hf:fs[i]?=some f)(ho:f.offset=off)
  (hs:∀w,(sizeOf f.type).run P w= .ok n w) (hn:n≠0) (hx:ev σ x= .pointer (some ⟨b,o,none⟩)):
  (execOp (ev σ) ⟨dst,.fieldAddr s x i,ty,pos,bH,g⟩).run P w= .ok (.value (.pointer (some ⟨b,o+off,none⟩))) w:=by
 subst ho
 simp[execOp,Instr.fieldAt,jG hu,hf,hx,Instr.sureAddr,fieldPlace,hs,hn,F3]
theorem bu{len n b o:Nat}{e:TypeId}{k:IntKind}{i:Int}(hu:P.underlying t=some (.array len e))(hs:∀w,(sizeOf e).run P w= .ok n w)
  (hx:ev σ x= .pointer (some ⟨b,o,none⟩)) (hy:ev σ y= .int k i) (hi:0<=i/\i<len):
  (execOp (ev σ) ⟨dst,.indexAddr t x y,ty,pos,bH,g⟩).run P w= .ok (.value (.pointer (some ⟨b,o+i.toNat*n,none⟩))) w:=by
 simp[execOp,Instr.indexAt,jG hu,hx,hy,asIntOf,Instr.sureAddr,hi,hs,F3]
theorem af{a:Addr}(hx:ev σ x= .pointer (some a)):(execOp (ev σ) ⟨dst,.nilCheck x,ty,pos,bH,g⟩).run P w= .ok (.value (.pointer (some a))) w:=by
 simp[execOp,hx]
theorem az{d:TypeDesc}{b o:Nat}(hu:P.underlying t=some d)(hd:d.isRow=false)(hx:ev σ x= .pointer (some ⟨b,o,none⟩))(hc:w.cell? ⟨b,o,none⟩=some v):
  (execOp (ev σ) ⟨dst,.load t x,ty,pos,bH,g⟩).run P w= .ok (.value v) w:=by
 have ha:(isAgg t).run P w= .ok false w:=by
  unfold isAgg
  rw[sH,jG hu w]
  cases d<;>simp_all
 simp[execOp,hx,Instr.loadAt,Instr.sureAddr,loadVar,ha,load,Sem.run,hc]
theorem cG{d:TypeDesc}{b o:Nat}{cs:List Value}(hu:P.underlying t=some d)(hd:d.isRow=true)(hi:(P.info? t).map (·.size)=some cs.length)
  (hx:ev σ x= .pointer (some ⟨b,o,none⟩)) (hc:w.rangeAt b o cs):
  (execOp (ev σ) ⟨dst,.load t x,ty,pos,bH,g⟩).run P w= .ok (.value (.agg cs.toArray)) w:=by
 have:=run_loadAt_mid (P:=P) w b o t cs d hc hu hd hi
 simp only[execOp,hx,sH,this];rfl
theorem yj{b:Nat}{c:Array Value}{e:TypeId}{off:Nat}(hg:w.heap[b]?=some (.cells c e (0,0)))(vs:List Value)(hl:off+vs.length<=c.size)(h1:∀u∈vs,u.oneCell'=true):
  (storeCells ⟨b,off,none⟩ vs).run P w= .ok () (w.setRow b (c.toList.take off++vs++c.toList.drop (off+vs.length)).toArray):=by
 have:=Vy P b off e vs 0 c w hg (by simpa using hl) h1
 simpa using this
theorem bM{b off:Nat}{c:Array Value}{e:TypeId}(hi:(P.info? t).map (·.size)=some 1)(hx:ev σ x= .pointer (some ⟨b,off,none⟩))(hy:ev σ y=v)(hv:v.cells=#[v])(h1:v.oneCell'=true)
  (hg:w.heap[b]?=some (.cells c e (0,0))) (ho:off<c.size):
  (execOp (ev σ) ⟨dst,.store t x y,ty,pos,bH,g⟩).run P w= .ok .skip (w.setRow b (c.setIfInBounds off v)):=by
 have hs:=yj (P:=P) (off:=off) hg [v] hG DL
 have e1:(c.toList.take off++[v]++c.toList.drop (off+1)).toArray=c.setIfInBounds off v:=by
  apply JU
  simp[U9,ho]
 have hz:(sizeOf t).run P w= .ok 1 w:=by
  cases hq:P.info? t with
  |none=>simp[hq]at hi
  |some i=>simp[hq]at hi;simp[sizeOf,typeInfo,hq,hi]
 simp only[gI,e1]at hs
 simp[execOp,hx,hy,Instr.storeAt,Instr.sureAddr,storeVar,hv,hz,hs]
theorem dX{b:Nat}{c c':Array Value}{e:TypeId}(hi:(P.info? t).map (·.size)=some c'.size)(hx:ev σ x= .pointer (some ⟨b,0,none⟩))(hy:ev σ y= .agg c')(h1:∀u∈c',u.oneCell'=true)
  (hg:w.heap[b]?=some (.cells c e (0,0))) (ho:c'.size=c.size):
  (execOp (ev σ) ⟨dst,.store t x y,ty,pos,bH,g⟩).run P w= .ok .skip (w.setRow b c'):=by
 have hs:=yj (P:=P) (off:=0) hg c'.toList (by simp[ho]) DL
 have e1:(c.toList.take 0++c'.toList++c.toList.drop (0+c'.toList.length)).toArray=c':=by
  apply JU
  simp[ho]
 have hz:(sizeOf t).run P w= .ok c'.size w:=by
  cases hq:P.info? t with
  |none=>simp[hq]at hi
  |some i=>simp[hq]at hi;simp[sizeOf,typeInfo,hq,hi]
 rw[e1]at hs
 simp[execOp,hx,hy,Instr.storeAt,Instr.sureAddr,storeVar,Value.cells,hz,hs]
theorem th{fn:Fn}{cs:List Operand}{vs:List Value}(h:cs.map (ev σ)=vs):(execOp (ev σ) ⟨dst,.makeFunc fn #[] cs.toArray,ty,pos,bH,g⟩).run P w= .ok (.value (.func fn #[] vs.toArray)) w:=by
 subst h;simp[execOp,Instr.makeFunc]
theorem xb{f:FuncId}{HO:List Operand}{ats:Array TypeId}{vs:List Value}(hf:∀args w,(callFunc f args).run P w= .ok (.enter f args) w)(h:HO.map (ev σ)=vs):
  (execOp (ev σ) ⟨dst,.call {callee:= .value (.func f),args:=HO.toArray,argTypes:=ats},ty,pos,bH,g⟩).run P w= .ok (.enter f vs.toArray) w:=by
 subst h
 simp[execOp,resolve,ev,Deferred.ofValue,invoke,hf]
theorem NK{x:Operand}{f:FuncId}{cap:Array Value}{HO:List Operand}{ats:Array TypeId}{vs:List Value}(hf:∀args w,(callFunc f args).run P w= .ok (.enter f args) w)
  (hx:ev σ x= .func (.func f) #[] cap) (h:HO.map (ev σ)=vs):
  (execOp (ev σ) ⟨dst,.call {callee:= .value x,args:=HO.toArray,argTypes:=ats},ty,pos,bH,g⟩).run P w= .ok (.enter f (vs.toArray++cap)) w:=by
 subst h
 simp[execOp,resolve,hx,Deferred.ofValue,invoke,hf]
theorem adI{e:TypeId}{a:Option Addr}{n c:Nat}{ats:Array TypeId}(ht:ats[0]?=some t)(hu:P.underlying t=some (.slice e))(hx:ev σ x=v)(hv:v= .slice a n c):
  (execOp (ev σ) ⟨dst,.call {callee:= .builtin .len,args:=#[x],argTypes:=ats},ty,pos,bH,g⟩).run P w= .ok (.value (I n)) w:=by
 subst hv
 simp[execOp,resolve,invoke,builtin,Builtin.len_,ht,hx,jG hu,goInt]
theorem Ey{a b:Int}{ats:Array TypeId}(hx:ev σ x= .int .i64 a)(hy:ev σ y= .int .i64 b):
  (execOp (ev σ) ⟨dst,.call {callee:= .builtin .max,args:=#[x,y],argTypes:=ats},ty,pos,bH,g⟩).run P w= .ok (.value (.int .i64 (max a b))) w:=by
 have h:(if b>a then b else a)=max a b:=J
 simp[execOp,resolve,invoke,builtin,Builtin.max_,Builtin.max2,hx,hy,h]
theorem tZ{a b:Int}{ats:Array TypeId}(hx:ev σ x= .int .i64 a)(hy:ev σ y= .int .i64 b):
  (execOp (ev σ) ⟨dst,.call {callee:= .builtin .min,args:=#[x,y],argTypes:=ats},ty,pos,bH,g⟩).run P w= .ok (.value (.int .i64 (min a b))) w:=by
 have h:(if b<a then b else a)=min a b:=J
 simp[execOp,resolve,invoke,builtin,Builtin.min_,Builtin.min2,hx,hy,h]
theorem kG{s:ByteArray}{ats:Array TypeId}(ht:ats[0]?=some t)(hu:P.underlying t=some .string)(hx:ev σ x= .string s):
  (execOp (ev σ) ⟨dst,.call {callee:= .builtin .len,args:=#[x],argTypes:=ats},ty,pos,bH,g⟩).run P w= .ok (.value (I s.size)) w:=by
 simp[execOp,resolve,invoke,builtin,Builtin.len_,ht,hx,jG hu,goInt]
theorem run_build{ps:List (Nat×Operand)}{vs:List (Nat×Value)}{cells:Array Value}(h:ps.map (fun p=>(p.1,ev σ p.2))=vs)(hb:P.built t vs=some cells):
  (execOp (ev σ) ⟨dst,.build t ps.toArray,ty,pos,bH,g⟩).run P w= .ok (.value (.agg cells)) w:=by
 subst h
 have:=Go.run_build (P:=P) w t ((ps.map (fun p=>(p.1,ev σ p.2))).toArray) cells hb
 simp[execOp,this]
theorem ajq{e:TypeId}{len:Nat}{ps:List (Nat×Operand)}{vs:List (Nat×Value)}{cells:Array Value}{ie:TypeInfo}{z:Value}
  (hu:P.underlying t=some (.slice e)) (hie:P.info? e=some ie) (hz:ie.zero=some z) (hsmall:¬len*ie.size>2^24) (hpos:¬len*ie.size=0)
  (h:ps.map (fun p=>(p.1,ev σ p.2))=vs) (hc:Instr.fill (fun i=>some (i*ie.size,ie.size)) ((Array.range (len*ie.size)).map (z.cells[· %z.cells.size]!)) vs=some cells):
  (execOp (ev σ) ⟨dst,.buildSlice t len ps.toArray,ty,pos,bH,g⟩).run P w= .ok (.value (.slice (some ⟨w.heap.size,0,none⟩) len len)) (w.alloc (.cells cells e)):=by
 subst h
 have:=Go.run_buildSlice (P:=P) w t e len ((ps.map (fun p=>(p.1,ev σ p.2))).toArray) cells ie z hu hie hz hsmall hpos hc
 simp[execOp,this]
theorem R2(off:Nat):∀(cs:List Value) (j:Nat) (cur:List Value),off+j+cs.length<=cur.length->
  (cs.zipIdx j).foldl (fun(a:Array Value) (p:Value×Nat)=>a.setIfInBounds (off+p.2) p.1) cur.toArray=(cur.take (off+j)++cs++cur.drop (off+j+cs.length)).toArray
 |[],j,cur,h=>by simp
 |c::cs,j,cur,h=>by
  simp only[eE]at h
  simp only[List.zipIdx_cons,nW,mA]
  rw[R2 off cs (j+1) (cur.set (off+j) c) hG]
  congr 1
  have h1:(cur.set (off+j) c).take (off+(j+1))=cur.take (off+j)++[c]:=by
   apply sF
   intro i
   simp only[tM,tO,List.getElem?_append,eD,show min (off+j) cur.length=off+j by omega]
   by_cases h1:i<off+j
   .rw[aR J,aP J,aR h1,aR h1]
   by_cases h2:i=off+j
   .subst h2;rw[aR (show off+j<off+(j+1)by omega),aR O,aR J,aP (Nat.lt_irrefl _)];simp
   rw[aP J,aP h1,mJ hG]
  have h2:(cur.set (off+j) c).drop (off+(j+1)+cs.length)=cur.drop (off+j+(c::cs).length):=by
   rw[List.drop_set_of_lt J];congr 1;simp;omega
  rw[h1,h2];simp
theorem R3(sz:Nat):∀(vs:List Value) (k:Nat) (cur:List Value),cur.length=(k+vs.length)*sz->(∀v∈vs,v.cells.size=sz)->
  Instr.fill (fun i=>some (i*sz,sz)) cur.toArray ((vs.zipIdx k).map fun p=>(p.2,p.1))=some (cur.take (k*sz)++vs.flatMap (·.cells.toList)).toArray
 |[],k,cur,h,_=>by simp[Instr.fill,iD (show cur.length<=k*sz by simp at h;omega)]
 |v::vs,k,cur,h,hv=>by
  have hs:=hv v aA
  simp only[eE]at h
  have hm:(k+(vs.length+1))*sz=k*sz+sz+vs.length*sz:=by rw[kE,kE,PL];omega
  simp only[List.zipIdx_cons,kV,Instr.fill,hs,tQ]
  rw[aP hG]
  have hf:v.cells.zipIdx.foldl (fun(a:Array Value) (p:Value×Nat)=>a.setIfInBounds (k*sz+p.2) p.1) cur.toArray=(cur.take (k*sz)++v.cells.toList++cur.drop (k*sz+sz)).toArray:=by
   rw[<-Array.foldl_toList,Array.toList_zipIdx]
   have:=R2 (k*sz) v.cells.toList 0 cur (by simp[hs];omega)
   simpa[hs]using this
  have hf':v.cells.zipIdx.foldl (fun cs (x:Value×Nat)=>match x with|(c,j)=>cs.setIfInBounds (k*sz+j) c) cur.toArray=(cur.take (k*sz)++v.cells.toList++cur.drop (k*sz+sz)).toArray:=hf
  rw[hf',R3 sz vs (k+1) _ (by simp[hs];rw[kE,kE];omega) (fun u hu=>hv u (by simp[hu]))]
  congr 2
  rw[show(k+1)*sz=k*sz+sz by rw[kE,PL],Pk (by simp[hs];omega)]
  rw[iD (by simp[hs];omega)]
  simp
theorem bZ{e sz:TypeId}{len:Nat}{ps:List (Nat×Operand)}{vs:List Value}{ie:TypeInfo}{z:Value}
  (hu:P.underlying t=some (.slice e)) (hie:P.info? e=some ie) (hz:ie.zero=some z) (hsz:ie.size=sz) (hl:vs.length=len) (hsmall:¬len*sz>2^24) (hpos:¬len*sz=0)
  (h:ps.map (fun p=>(p.1,ev σ p.2))=(vs.zipIdx.map fun p=>(p.2,p.1))) (hc:vs.all (fun v=>v.cells.size==sz)=true):
  (execOp (ev σ) ⟨dst,.buildSlice t len ps.toArray,ty,pos,bH,g⟩).run P w= .ok (.value (.slice (some ⟨w.heap.size,0,none⟩) len len)) (w.alloc (.cells (vs.flatMap (·.cells.toList)).toArray e)):=by
 subst hsz
 subst hl
 refine ajq hu hie hz hsmall hpos h ?_
 have hz':((Array.range (vs.length*ie.size)).map (z.cells[· %z.cells.size]!))=(((Array.range (vs.length*ie.size)).map (z.cells[· %z.cells.size]!)).toList).toArray:=(Array.toArray_toList ..).symm
 rw[hz']
 have:=R3 ie.size vs 0 (((Array.range (vs.length*ie.size)).map (z.cells[· %z.cells.size]!)).toList) aA (fun v hv=>by simpa using iq.1 hc v hv)
 simpa using this
theorem Gl{s i:Nat}{cs:Array Value}{fs:Array Field}{f:Field}(hu:P.underlying s=some (.struct fs))(hf:fs[i]?=some f)(ha:∀w,(isAgg f.type).run P w= .ok false w)
  (hx:ev σ x= .agg cs) (hv:cs[f.offset]?=some v):(execOp (ev σ) ⟨dst,.field s x i,ty,pos,bH,g⟩).run P w= .ok (.value v) w:=by
 simp[execOp,Instr.field,jG hu,hf,hx,asAgg,part,ha,hv]
theorem Kb{e:TypeId}{len:Nat}{cs:Array Value}{k:IntKind}{i:Int}(hu:P.underlying t=some (.array len e))(ha:∀w,(isAgg e).run P w= .ok false w)(hs:∀w,(sizeOf e).run P w= .ok 1 w)
  (hx:ev σ x= .agg cs) (hy:ev σ y= .int k i) (hi:0<=i/\i<len) (hv:cs[i.toNat]?=some v):(execOp (ev σ) ⟨dst,.index t x y,ty,pos,bH,g⟩).run P w= .ok (.value v) w:=by
 simp[execOp,Instr.index,jG hu,hx,hy,asIntOf,part,ha,hs,hv,hi]
end mem
end runs
abbrev a8:=Sum (Nat×Obj) (Value×TypeId×Nat×Nat×List Value)
abbrev a8.blk(b:Nat)(o:Obj):a8:= .inl (b,o)
abbrev a8.row(v:Value)(e:TypeId)(sz n:Nat)(xs:List Value):a8:= .inr (v,e,sz,n,xs)
def a8.qZ:a8->Option Nat
 | .inl (b,_)=>some b
 | .inr (v,_)=>v.ownBlock
def a8.ok(base:Nat)(w:World):a8->Prop
 | .inl (b,o)=>base<=b/\w.heap[b]?=some o
 | .inr (v,e,sz,n,xs)=>w.ownsRow base e sz v n xs
structure Hp(w0 w:World)(L:List a8):Prop where
 below:Below w0.heap.size w0 w
 ok:∀x∈L,x.ok w0.heap.size w
 Kc:L.Pairwise fun x y=>x.qZ=none\/x.qZ≠y.qZ
theorem a8.HP{base:Nat}{w:World}{x:a8}(h:x.ok base w):∀b,x.qZ=some b->base<=b/\b<w.heap.size:=by
 intro b hb
 rcases x with⟨c,o⟩|⟨v,e,sz,n,xs⟩
 .simp only[a8.qZ,Vx]at hb;subst hb
  exact⟨h.1,(Ay.1 h.2).1⟩
 exact World.ownsRow.lt h b hb
theorem a8.B8{base:Nat}{w w':World}{x:a8}(h:x.ok base w)(hb:∀b,x.qZ=some b->w'.heap[b]?=w.heap[b]?):x.ok base w':=by
 rcases x with⟨c,o⟩|⟨v,e,sz,n,xs⟩
 .exact⟨h.1,(hb c O).trans h.2⟩
 refine⟨h.1,?_⟩
 rcases h.2 with hn|⟨gb,cap,cur,rfl,h1,h2,rest⟩
 .exact .inl hn
 exact .inr ⟨gb,cap,cur,rfl,h1,(hb gb O).trans h2,rest⟩
section hp
variable{w0 w w':World}{L:List a8}
theorem Hp.start(w:World):Hp w w []:=⟨Below.refl _ _,fun _ h=>n4,List.Pairwise.nil⟩
theorem Hp.size(h:Hp w0 w L):w0.heap.size<=w.heap.size:=h.below.size
theorem Hp.drew(h:Hp w0 w L):Hp w0 w.drew L:=⟨h.below.drew,fun x hx=>a8.B8 (h.ok x hx) fun _ _=>rfl,h.Kc⟩
theorem Hp.call(h:Hp w0 w L)(hb:Below w.heap.size w w'):Hp w0 w' L:=
 ⟨h.below.trans (hb.mono h.size),fun x hx=>a8.B8 (h.ok x hx) fun b hf=>hb.block b (a8.HP (h.ok x hx) b hf).2,h.Kc⟩
theorem Hp.alloc(h:Hp w0 w L)(o:Obj):Hp w0 (w.alloc o) (.blk w.heap.size o::L):=by
 refine⟨h.below.alloc h.size o,fun x hx=> ?_,?_⟩
 .rcases cT.1 hx with rfl|hx
  .exact⟨h.size,heap_alloc_new w o⟩
  exact a8.B8 (h.ok x hx) fun b hf=>Below.heap_alloc w o b (a8.HP (h.ok x hx) b hf).2
 refine List.Pairwise.cons (fun y hy=> ?_) h.Kc
 right
 intro he
 have:=(a8.HP (h.ok y hy) w.heap.size he.symm).2
 omega
theorem Hp.B9{v:Value}{e:TypeId}{sz n:Nat}{xs:List Value}(h:Hp w0 w L)(hb:Below w.heap.size w w')(hr:w'.ownsRow w.heap.size e sz v n xs):Hp w0 w' (.row v e sz n xs::L):=by
 have h':=h.call hb
 refine⟨h'.below,fun x hx=> ?_,List.Pairwise.cons (fun y hy=> ?_) h.Kc⟩
 .rcases cT.1 hx with rfl|hx
  .refine⟨hr.1,?_⟩
   rcases hr.2 with hn|⟨gb,cap,cur,rfl,h1,rest⟩
   .exact .inl hn
   exact .inr ⟨gb,cap,cur,rfl,kg h.size h1,rest⟩
  exact h'.ok x hx
 .cases hv:v.ownBlock with
  |none=>left;exact hv
  |some b=>
   right
   intro he
   have h1:=(hr.lt b hv).1
   have h2:=(a8.HP (h.ok y hy) b (by rw[<-he];exact hv)).2
   omega
theorem Hp.fl(h:Hp w0 w L)(e:TypeId)(sz:Nat):Hp w0 w (.row (.slice none 0 0) e sz 0 []::L):=
 ⟨h.below,fun x hx=>by
  rcases cT.1 hx with rfl|hx
  .exact World.ownsRow_nil w _ e sz
  exact h.ok x hx,List.Pairwise.cons (fun y hy=> .inl O) h.Kc⟩
theorem Hp.tail{x:a8}(h:Hp w0 w (x::L)):Hp w0 w L:=⟨h.below,fun y hy=>h.ok y (fq _ hy),h.Kc.tail⟩
theorem Hp.sub{L':List a8}(h:Hp w0 w L)(hs:L'.Sublist L):Hp w0 w L':=⟨h.below,fun y hy=>h.ok y (hs.subset hy),h.Kc.sublist hs⟩
theorem Hp.blk{i b:Nat}{o:Obj}(h:Hp w0 w L)(hi:L[i]?=some (.blk b o)):w.heap[b]?=some o:=(h.ok _ (kU hi)).2
theorem Hp.cell{i b off:Nat}{c:Array Value}{e:TypeId}{fr:Nat×Nat}{v:Value}(h:Hp w0 w L)(hi:L[i]?=some (.blk b (.cells c e fr)))(hc:c[off]?=some v):w.cell? ⟨b,off,none⟩=some v:=by
 rw[wu w b off c e fr (h.blk hi)];exact hc
theorem Hp.range{i b off:Nat}{c:Array Value}{e:TypeId}{fr:Nat×Nat}{cs:List Value}(h:Hp w0 w L)(hi:L[i]?=some (.blk b (.cells c e fr)))(hc:∀j v,cs[j]?=some v->c[off+j]?=some v):w.rangeAt b off cs:=
 fun j v hv=>h.cell hi (hc j v hv)
theorem A2{i:Nat}{x x':a8}(hi:L[i]?=some x)(hf:x'.qZ=x.qZ)(hd:L.Pairwise fun x y=>x.qZ=none\/x.qZ≠y.qZ):(L.set i x').Pairwise fun x y=>x.qZ=none\/x.qZ≠y.qZ:=by
 have hm:(L.set i x').map a8.qZ=L.map a8.qZ:=by
  rw[List.map_set,hf]
  apply sF
  intro j
  rw[tO]
  split
  .rename_i hij;subst hij
   simp[hi]
   exact(mC.1 hi).1
  rfl
 have h1:(L.map a8.qZ).Pairwise fun x y=>x=none\/x≠y:=FU.2 hd
 rw[<-hm]at h1
 exact FU.1 h1
theorem Hp.set{i b:Nat}{c c':Array Value}{e:TypeId}(h:Hp w0 w L)(hi:L[i]?=some (.blk b (.cells c e (0,0)))):Hp w0 (w.setRow b c') (L.set i (.blk b (.cells c' e (0,0)))):=by
 have hx:=h.ok _ (kU hi)
 have hil:=(mC.1 hi).1
 refine⟨below_setRow h.below hx.1 c',fun y hy=> ?_,A2 hi O h.Kc⟩
 obtain⟨j,hj,DM⟩:=xU.1 hy
 rw[xY]at DM
 split at DM
 .subst DM
  exact⟨hx.1,setRow_heap w b c c' e (0,0) hx.2⟩
 rename_i hne
 have hjL:j<L.length:=by simpa using hj
 have hyL:y∈L:=DM▸pS hjL
 refine a8.B8 (h.ok y hyL) fun bb hf=>setRow_other w b bb c' fun Ip=> ?_
 subst Ip
 have hp:=Pm.1 h.Kc
 have hLi:L[i]= .blk bb (.cells c e (0,0)):=(mC.1 hi).2
 rcases Vs hne with hlt|hgt
 .rcases hp i j hil hjL hlt with h0|h0
  .rw[hLi]at h0;cases h0
  rw[hLi,DM,hf]at h0;exact h0 O
 rcases hp j i hjL hil hgt with h0|h0
 .rw[DM,hf]at h0;cases h0
 rw[hLi,DM,hf]at h0;exact h0 O
theorem Hp.get{i:Nat}{x:a8}(h:Hp w0 w L)(hi:L[i]?=some x):x.ok w0.heap.size w:=h.ok _ (kU hi)
end hp
def sb:Value->Nat
 | .slice (some a) _ _=>a.block
 |_=>0
def so:Value->Nat
 | .slice (some a) _ _=>a.off
 |_=>0
structure Sl(w:World)(v:Value)(sz n:Nat)(cells:List Value):Prop where
 shape:∃a cap,v= .slice a n cap/\n<=cap/\(0<n->a=some ⟨sb v,so v,none⟩)
 len:cells.length=n*sz
 cell:∀j c,cells[j]?=some c->w.cell? ⟨sb v,so v+j,none⟩=some c
 small:n<=maxLen
section sl
variable{P:Program}{w0 w w':World}{L:List a8}{v:Value}{sz n:Nat}{cells:List Value}
theorem Sl.nil(w:World)(sz:Nat):Sl w (.slice none 0 0) sz 0 []:=⟨⟨none,0,rfl,eI _,fun h=>J⟩,aA,fun j c h=>by simp at h,jL⟩
theorem Sl.below(h:Sl w v sz n cells)(hb:Below w.heap.size w w'):Sl w' v sz n cells:=
 ⟨h.shape,h.len,fun j c hc=>by
  have h1:=h.cell j c hc
  rw[hb.cell (World.block_lt_of_cell? w _ h1)];exact h1,h.small⟩
theorem Sl.hp(h:Sl w0 v sz n cells)(hp:Hp w0 w L):Sl w v sz n cells:=h.below hp.below
theorem Sl.Ke{base:Nat}{e:TypeId}(h:w.ownsRow base e sz v n cells):Sl w v sz n cells:=by
 obtain⟨h1,h2⟩:=h
 rcases h2 with⟨rfl,rfl⟩|⟨gb,cap,cur,rfl,hb,hg,hn,hm,hs,ht⟩
 .have:cells=[]:=Et DL
  subst this;exact Sl.nil w sz
 refine⟨⟨_,cap,rfl,hn,fun _=>rfl⟩,h1,fun j c hc=> ?_,kg hn hm⟩
 simp only[sb,so,gA]
 rw[wu w _ _ cur e (0,0) hg]
 rw[<-ht,tM]at hc
 split at hc
 .simpa using hc
 .cases hc
theorem Hp.sl{i:Nat}{e:TypeId}(h:Hp w0 w L)(hi:L[i]?=some (.row v e sz n cells)):Sl w v sz n cells:=Sl.Ke (h.get hi)
theorem Hp.dQ{i b:Nat}{c:Array Value}{e:TypeId}(h:Hp w0 w L)(hi:L[i]?=some (.blk b (.cells c e (0,0))))(hl:c.size=n*sz)(hs:n<=maxLen):Sl w (.slice (some ⟨b,0,none⟩) n n) sz n c.toList:=
 ⟨⟨_,n,rfl,eI _,fun _=>rfl⟩,by simpa using hl,fun j u hu=>by
  simp only[sb,so,gA]
  exact h.cell hi pX,hs⟩
section ops
variable{σ:Env}{dst:Option Tmp}{ty t:TypeId}{pos:String}{bH:Array Edge}{g:Option (Nat×Bool)}{x y:Operand}
theorem ag{e:TypeId}{k:IntKind}{i:Int}(hS:Sl w v sz n cells)(hu:P.underlying t=some (.slice e))(hs:∀w,(sizeOf e).run P w= .ok sz w)
  (hx:ev σ x=v) (hy:ev σ y= .int k i) (hi:0<=i/\i<n):
  (execOp (ev σ) ⟨dst,.indexAddr t x y,ty,pos,bH,g⟩).run P w= .ok (.value (.pointer (some ⟨sb v,so v+i.toNat*sz,none⟩))) w:=by
 obtain⟨a,cap,hv,hnc,ha⟩:=hS.shape
 have ha':=ha J
 have hx':ev σ x= .slice (some ⟨sb v,so v,none⟩) n cap:=by rw[hx,hv,<-hv];rw[<-ha'];exact hv
 simp[execOp,Instr.indexAt,jG hu,hx',hy,asIntOf,hi,hs,F3]
theorem aD{e:TypeId}{ats:Array TypeId}(hS:Sl w v sz n cells)(ht:ats[0]?=some t)(hu:P.underlying t=some (.slice e))(hx:ev σ x=v):
  (execOp (ev σ) ⟨dst,.call {callee:= .builtin .len,args:=#[x],argTypes:=ats},ty,pos,bH,g⟩).run P w= .ok (.value (I n)) w:=by
 obtain⟨a,cap,hv,hnc,ha⟩:=hS.shape
 exact adI ht hu hx hv
end ops
end sl
section aAq
variable{P:Program}{n:Nat}{ops:Array Oper}{k:K}{rest:List Oper}{σ:Env}{w0 w:World}{L:List a8}{op:Op}{ty:TypeId}{pos:String}{bH:Array Edge}{d:Nat}
theorem Wg{o:Obj}(hd:Nat.blt d n=true)(hH:Hp w0 w L){f:Nat->Value}(hr:(execOp (ev σ) ⟨some d,op,ty,pos,bH,none⟩).run P w= .ok (.value (f w.heap.size)) (w.alloc o))
  (hk:∀b w',Hp w0 w' (.blk b o::L)->RL P n ops k rest (k7 σ d (f b)) w'):RL P n ops k (⟨some d,op,ty,pos,bH,none⟩::rest) σ w:=
 n5 hd hr (hk _ _ (hH.alloc o))
theorem bk{i b:Nat}{c c':Array Value}{e:TypeId}(hH:Hp w0 w L)(hi:L[i]?=some (.blk b (.cells c e (0,0))))
  (hr:(execOp (ev σ) ⟨none,op,ty,pos,bH,none⟩).run P w= .ok .skip (w.setRow b c'))
  (hk:∀w',Hp w0 w' (L.set i (.blk b (.cells c' e (0,0))))->RL P n ops k rest σ w'):RL P n ops k (⟨none,op,ty,pos,bH,none⟩::rest) σ w:=
 J4 hr (hk _ (hH.set hi))
def Pure(v:Value)(w:World):Ending->World->Prop:=jF fun u w'=>u=v/\Below w.heap.size w w'
def rM(e:TypeId)(sz m:Nat)(xs:List Value)(w:World):Ending->World->Prop:=jF fun v w'=>w'.ownsRow w.heap.size e sz v m xs/\Below w.heap.size w w'
theorem aE{f:FuncId}{args:Array Value}{v:Value}(hd:Nat.blt d n=true)(hH:Hp w0 w L)(hc:Calls P f args w (Pure v w))
  (hr:(execOp (ev σ) ⟨some d,op,ty,pos,bH,none⟩).run P w= .ok (.enter f args) w)
  (hk:∀w',Hp w0 w' L->RL P n ops k rest (k7 σ d v) w'):RL P n ops k (⟨some d,op,ty,pos,bH,none⟩::rest) σ w:=
 Gj hd hr hc fun u w' ⟨hu,hb⟩=>by subst hu;exact hk w' (hH.call hb)
theorem A3{f:FuncId}{args:Array Value}{e:TypeId}{sz m:Nat}{xs:List Value}(hd:Nat.blt d n=true)(hH:Hp w0 w L)(hc:Calls P f args w (rM e sz m xs w))
  (hr:(execOp (ev σ) ⟨some d,op,ty,pos,bH,none⟩).run P w= .ok (.enter f args) w)
  (hk:∀v w',Hp w0 w' (.row v e sz m xs::L)->RL P n ops k rest (k7 σ d v) w'):RL P n ops k (⟨some d,op,ty,pos,bH,none⟩::rest) σ w:=
 Gj hd hr hc fun u w' ⟨hu,hb⟩=>hk u w' (hH.B9 hb hu)
end aAq
def AN(P:Program)(n:Nat)(l:List Oper)(S:World->Prop)(k:K)(fuel:Nat)(listed:Array Bool)(σ:Env)(w:World):Prop:=
 ∀a,Is n σ a->wpAnyH P .any l.toArray (qJ n k) S fuel listed a w
section adL
variable{P:Program}{n:Nat}{l:List Oper}{S:World->Prop}{k:K}{xs:List (Nat×K)}{r:K}{σ:Env}{w w0:World}{L:List a8}{fuel i d:Nat}{listed:Array Bool}{op:Op}{ty:TypeId}{pos:String}{bH:Array Edge}{g:Option (Nat×Bool)}{v:Value}{dst:Option Tmp}
theorem eu{id:Nat}(hm:P.follows .mixedOrders=true)(hH:Hp w0 w L)
  (h:∀w',Hp w0 w' L->AN P n l (fun w=>Hp w0 w L) k l.length (Array.replicate l.length false) σ w'):CW P n (.region id l.toArray true) k xs r σ w:=by
 intro a ha
 refine x9 (fun e a' w' hq=> ?_) (VO (id:=id) (Q:=qJ n k) hm (VP (S:=fun w=>Hp w0 w L) _ _ _ _ ?_))
 .cases e with
  |normal=>exact hq
  |exit id=>exact hq.elim
  |ret=>exact hq.elim
  |goto l=>exact hq.elim
  |panic c=>exact hq.elim
  |outgrown=>exact hq.elim
 have:=h _ hH.drew a ha
 simpa using this
theorem atz(hr:Region.ready .any l.toArray listed=[])(h:k σ w):AN P n l S k fuel listed σ w:=by
 intro a ha
 cases fuel with
 |zero=>exact⟨hr,σ,ha,h⟩
 |succ f=>exact⟨fun _=>⟨σ,ha,h⟩,fun i hi=>by rw[hr]at hi;cases hi⟩
theorem adM(i:Nat)(hi:l[i]?=some ⟨some d,op,ty,pos,bH,none⟩)(hd:Nat.blt d n=true)(hs:Region.noSelect l.toArray=true)(hf:Region.free .any l.toArray listed i=true)
  (hr:(Region.ready .any l.toArray listed).contains i=true) (hS:S w) (hy:∀w,S w->(execOp (ev σ) ⟨some d,op,ty,pos,bH,none⟩).run P w= .ok (.value v) w)
  (h:AN P n l S k fuel (listed.setIfInBounds i true) (k7 σ d v) w):AN P n l S k (fuel+1) listed σ w:=by
 intro a ha
 refine PM (i:=i) (oi:=⟨some d,op,ty,pos,bH,none⟩) (v:=v) yf hs hf hr (fun c a w hq=>hq.elim) (.inl ⟨rfl,fun w hw=> ?_⟩) hS (h _ (ha.put hd v))
 rw[ha.eval];exact hy w hw
theorem aoR(i:Nat){j dj:Nat}{want:Bool}(hi:l[i]?=some ⟨some d,op,ty,pos,bH,some (j,want)⟩)(hj:(l[j]?).bind (·.dst)=some dj)(hb:σ dj= .bool want)(hd:Nat.blt d n=true)
  (hs:Region.noSelect l.toArray=true) (hf:Region.free .any l.toArray listed i=true)
  (hr:(Region.ready .any l.toArray listed).contains i=true) (hS:S w) (hy:∀w,S w->(execOp (ev σ) ⟨some d,op,ty,pos,bH,some (j,want)⟩).run P w= .ok (.value v) w)
  (h:AN P n l S k fuel (listed.setIfInBounds i true) (k7 σ d v) w):AN P n l S k (fuel+1) listed σ w:=by
 intro a ha
 refine PM (i:=i) (oi:=⟨some d,op,ty,pos,bH,some (j,want)⟩) (v:=v) yf hs hf hr (fun c a w hq=>hq.elim)
  (.inl ⟨by rw[Gk ha (by simpa using hj) hb];simp,fun w hw=> ?_⟩) hS (h _ (ha.put hd v))
 rw[ha.eval];exact hy w hw
theorem atA(i:Nat){j dj:Nat}{b want:Bool}(hi:l[i]?=some ⟨some d,op,ty,pos,bH,some (j,want)⟩)(hj:(l[j]?).bind (·.dst)=some dj)(hb:σ dj= .bool b)(hne:(b==want)=false)(hd:Nat.blt d n=true)
  (hs:Region.noSelect l.toArray=true) (hf:Region.free .any l.toArray listed i=true)
  (hr:(Region.ready .any l.toArray listed).contains i=true) (hS:S w)
  (h:AN P n l S k fuel (listed.setIfInBounds i true) (k7 σ d undef) w):AN P n l S k (fuel+1) listed σ w:=by
 intro a ha
 exact PM (i:=i) (oi:=⟨some d,op,ty,pos,bH,some (j,want)⟩) (v:=undef) yf hs hf hr (fun c a w hq=>hq.elim)
  (.inr ⟨by rw[Gk ha (by simpa using hj) hb];exact hne,rfl⟩) hS (h _ (ha.put hd undef))
theorem atB(i:Nat){j dj:Nat}{want:Bool}(hi:l[i]?=some ⟨some d,op,ty,pos,bH,some (j,want)⟩)(hj:(l[j]?).bind (·.dst)=some dj)(hu:σ dj=undef)(hd:Nat.blt d n=true)
  (hs:Region.noSelect l.toArray=true) (hf:Region.free .any l.toArray listed i=true)
  (hr:(Region.ready .any l.toArray listed).contains i=true) (hS:S w)
  (h:AN P n l S k fuel (listed.setIfInBounds i true) (k7 σ d undef) w):AN P n l S k (fuel+1) listed σ w:=by
 intro a ha
 exact PM (i:=i) (oi:=⟨some d,op,ty,pos,bH,some (j,want)⟩) (v:=undef) yf hs hf hr (fun c a w hq=>hq.elim)
  (.inr ⟨Ev ha (by simpa using hj) hu _,rfl⟩) hS (h _ (ha.put hd undef))
def AO(P:Program)(n:Nat)(l:List Oper)(S:World->Prop)(k:K)(fuel:Nat)(listed:Array Bool)(σ:Env)(w:World)(i:Nat):Prop:=
 ∀a,Is n σ a->wpOp P l.toArray (qJ n k) i (fun a' w'=>S w'/\wpAnyH P .any l.toArray (qJ n k) S fuel (listed.setIfInBounds i true) a' w') a w
theorem adN(rs:List Nat)(hr:Region.ready .any l.toArray listed=rs)(hne:rs.isEmpty=false)(h:∀i∈rs,AO P n l S k fuel listed σ w i):AN P n l S k (fuel+1) listed σ w:=by
 intro a ha
 exact wpAnyH_all hr (by intro h0;simp[h0]at hne) fun i hi=>h i hi a ha
theorem atC(i:Nat)(hr:Region.ready .any l.toArray listed=[i])(h:AO P n l S k fuel listed σ w i):AN P n l S k (fuel+1) listed σ w:=by simp_all[adN]
theorem Wh{o:Oper}(hi:l[i]?=some o)(hw:∀a,Is n σ a->Region.wanted o (yielded l.toArray a.tmps)=true)
  (h:∀a,Is n σ a->o.upon P a (fun a' w'=>S w'/\wpAnyH P .any l.toArray (qJ n k) S fuel (listed.setIfInBounds i true) a' w') (qJ n k) ((execOp (ev σ) o).run P w)):AO P n l S k fuel listed σ w i:=by
 intro a ha
 have hi':l.toArray[i]?=some o:=yf
 unfold wpOp
 simp only[hi',hw a ha,tU]
 refine .inl ?_
 unfold Oper.wp
 rw[ha.eval]
 exact h a ha
theorem A4{w':World}(hi:l[i]?=some ⟨some d,op,ty,pos,bH,g⟩)(hg:∀a,Is n σ a->Region.wanted ⟨some d,op,ty,pos,bH,g⟩ (yielded l.toArray a.tmps)=true)(hd:Nat.blt d n=true)
  (hr:(execOp (ev σ) ⟨some d,op,ty,pos,bH,g⟩).run P w= .ok (.value v) w') (hS:S w') (h:AN P n l S k fuel (listed.setIfInBounds i true) (k7 σ d v) w'):AO P n l S k fuel listed σ w i:=
 Wh hi hg fun a ha=>by rw[hr];exact⟨hS,h _ (ha.put hd v)⟩
theorem Kf{w':World}(hi:l[i]?=some ⟨none,op,ty,pos,bH,g⟩)(hg:∀a,Is n σ a->Region.wanted ⟨none,op,ty,pos,bH,g⟩ (yielded l.toArray a.tmps)=true)
  (hr:(execOp (ev σ) ⟨none,op,ty,pos,bH,g⟩).run P w= .ok .skip w') (hS:S w') (h:AN P n l S k fuel (listed.setIfInBounds i true) σ w'):AO P n l S k fuel listed σ w i:=
 Wh hi hg fun a ha=>by rw[hr];exact⟨hS,h _ ha⟩
theorem P8{f:FuncId}{args:Array Value}{q:Value->World->Prop}(hi:l[i]?=some ⟨some d,op,ty,pos,bH,g⟩)(hg:∀a,Is n σ a->Region.wanted ⟨some d,op,ty,pos,bH,g⟩ (yielded l.toArray a.tmps)=true)(hd:Nat.blt d n=true)
  (hc:Calls P f args w (jF q)) (hr:(execOp (ev σ) ⟨some d,op,ty,pos,bH,g⟩).run P w= .ok (.enter f args) w)
  (h:∀v w',q v w'->S w'/\AN P n l S k fuel (listed.setIfInBounds i true) (k7 σ d v) w'):AO P n l S k fuel listed σ w i:=
 Wh hi hg fun a ha=>by
  rw[hr]
  refine hc.mono fun e w' hq=> ?_
  cases e with
  |returned v=>exact⟨(h v w' hq).1,(h v w' hq).2 _ (ha.put hd v)⟩
  |panicked c=>exact hq.elim
  |outgrown=>exact hq.elim
theorem aH(a:Act)(_:Is n σ a):Region.wanted ⟨dst,op,ty,pos,bH,none⟩ (yielded l.toArray a.tmps)=true:=rfl
theorem A5{j dj:Nat}{want:Bool}(hj:(l[j]?).bind (·.dst)=some dj)(hb:σ dj= .bool want)(a:Act)(ha:Is n σ a):Region.wanted ⟨dst,op,ty,pos,bH,some (j,want)⟩ (yielded l.toArray a.tmps)=true:=by grind[Gk]
theorem cN{L':List a8}{o:Obj}{f:Nat->Value}(hi:l[i]?=some ⟨some d,op,ty,pos,bH,g⟩)(hg:∀a,Is n σ a->Region.wanted ⟨some d,op,ty,pos,bH,g⟩ (yielded l.toArray a.tmps)=true)(hd:Nat.blt d n=true)
  (hH:Hp w0 w L') (hs:L.Sublist L') (hr:(execOp (ev σ) ⟨some d,op,ty,pos,bH,g⟩).run P w= .ok (.value (f w.heap.size)) (w.alloc o))
  (h:∀b w',Hp w0 w' (.blk b o::L')->AN P n l (fun w=>Hp w0 w L) k fuel (listed.setIfInBounds i true) (k7 σ d (f b)) w'):AO P n l (fun w=>Hp w0 w L) k fuel listed σ w i:=
 A4 hi hg hd hr ((hH.alloc o).sub (hs.cons _)) (h _ _ (hH.alloc o))
theorem cC{L':List a8}{f:FuncId}{args:Array Value}(hi:l[i]?=some ⟨some d,op,ty,pos,bH,g⟩)(hg:∀a,Is n σ a->Region.wanted ⟨some d,op,ty,pos,bH,g⟩ (yielded l.toArray a.tmps)=true)(hd:Nat.blt d n=true)
  (hH:Hp w0 w L') (hs:L.Sublist L') (hc:Calls P f args w (Pure v w)) (hr:(execOp (ev σ) ⟨some d,op,ty,pos,bH,g⟩).run P w= .ok (.enter f args) w)
  (h:∀w',Hp w0 w' L'->AN P n l (fun w=>Hp w0 w L) k fuel (listed.setIfInBounds i true) (k7 σ d v) w'):AO P n l (fun w=>Hp w0 w L) k fuel listed σ w i:=
 P8 hi hg hd hc hr fun u w' ⟨hu,hb⟩=>by subst hu;exact⟨(hH.call hb).sub hs,h w' (hH.call hb)⟩
theorem Kg{L':List a8}{f:FuncId}{args:Array Value}{e:TypeId}{sz m:Nat}{ys:List Value}(hi:l[i]?=some ⟨some d,op,ty,pos,bH,g⟩)(hg:∀a,Is n σ a->Region.wanted ⟨some d,op,ty,pos,bH,g⟩ (yielded l.toArray a.tmps)=true)(hd:Nat.blt d n=true)
  (hH:Hp w0 w L') (hs:L.Sublist L') (hc:Calls P f args w (rM e sz m ys w)) (hr:(execOp (ev σ) ⟨some d,op,ty,pos,bH,g⟩).run P w= .ok (.enter f args) w)
  (h:∀u w',Hp w0 w' (.row u e sz m ys::L')->AN P n l (fun w=>Hp w0 w L) k fuel (listed.setIfInBounds i true) (k7 σ d u) w'):AO P n l (fun w=>Hp w0 w L) k fuel listed σ w i:=
 P8 hi hg hd hc hr fun u w' ⟨hu,hb⟩=>⟨(hH.call hb).sub hs,h u w' (hH.B9 hb hu)⟩
end adL
def Fr(ws:List Nat)(σ σ':Env):Prop:=∀i,ws.contains i=false->σ' i=σ i
theorem Fr.refl(ws:List Nat)(σ:Env):Fr ws σ σ:=fun _ _=>rfl
theorem Fr.u{ws:List Nat}{σ σ':Env}{d:Nat}{v:Value}(h:Fr ws σ σ')(hd:ws.contains d=true):Fr ws σ (k7 σ' d v):=fun i hi=>by
 rw[Wb];exact h i hi
 intro e;subst e;rw[hd]at hi;cases hi
theorem Fr.t{ws ws2:List Nat}{σ σ' atD:Env}(h:Fr ws σ σ')(h2:Fr ws2 σ' atD)(hs:ws2.all (ws.contains ·)=true):Fr ws σ atD:=fun i hi=>by
 rw[h2 i,h i hi]
 cases hc:ws2.contains i with
 |false=>rfl
 |true=>
  have:=iq.1 hs i (by simpa using hc)
  rw[hi]at this;cases this
section short
variable{P:Program}{n:Nat}{ops:Array Oper}{k:K}{xs:List (Nat×K)}{r:K}{rest l:List Oper}{σ:Env}{w:World}{b:Bool}{p:Prop}{v:Value}
theorem bT[Decidable p](h:p):Value.bool (decide p)= .bool true:=by grind
theorem bF[Decidable p](h:¬p):Value.bool (decide p)= .bool false:=by grind
theorem bR{c:Bool}(h:b=c):Value.bool b= .bool c:=aJ Value.bool h
theorem aAs{dj:Nat}(hb:σ dj= .bool b)(ht:b=true->RL P n ops k l σ w)(hf:b=false->RL P n ops k l σ w):RL P n ops k l σ w:=by grind
theorem aAt[Decidable p]{dj:Nat}(hb:σ dj= .bool (decide p))(ht:p->RL P n ops k l σ w)(hf:¬p->RL P n ops k l σ w):RL P n ops k l σ w:=by grind
theorem Kh{S:World->Prop}{fuel:Nat}{listed:Array Bool}{dj:Nat}(hb:σ dj= .bool b)(ht:b=true->AN P n l S k fuel listed σ w)(hf:b=false->AN P n l S k fuel listed σ w):AN P n l S k fuel listed σ w:=by grind
theorem CQ{S:World->Prop}{fuel:Nat}{listed:Array Bool}[Decidable p]{dj:Nat}(hb:σ dj= .bool (decide p))(ht:p->AN P n l S k fuel listed σ w)(hf:¬p->AN P n l S k fuel listed σ w):AN P n l S k fuel listed σ w:=by grind
variable{dst:Option Tmp}{ty:TypeId}{pos:String}{bH:Array Edge}{g:Option (Nat×Bool)}{f:FuncId}{ats:Array TypeId}{x1 x2 x3 x4 x5 x6 x:Operand}{v1 v2 v3 v4 v5 v6:Value}{cap:Array Value}
theorem Ca(hf:∀args w,(callFunc f args).run P w= .ok (.enter f args) w):
 (execOp (ev σ) ⟨dst,.call {callee:= .value (.func f),args:=#[],argTypes:=ats},ty,pos,bH,g⟩).run P w= .ok (.enter f #[]) w:=xb (HO:=[]) hf O
theorem aq(hf:∀args w,(callFunc f args).run P w= .ok (.enter f args) w)(h1:ev σ x1=v1):
 (execOp (ev σ) ⟨dst,.call {callee:= .value (.func f),args:=#[x1],argTypes:=ats},ty,pos,bH,g⟩).run P w= .ok (.enter f #[v1]) w:=by grind[xb]
theorem aK(hf:∀args w,(callFunc f args).run P w= .ok (.enter f args) w)(h1:ev σ x1=v1)(h2:ev σ x2=v2):
 (execOp (ev σ) ⟨dst,.call {callee:= .value (.func f),args:=#[x1,x2],argTypes:=ats},ty,pos,bH,g⟩).run P w= .ok (.enter f #[v1,v2]) w:=by grind[xb]
theorem bz(hf:∀args w,(callFunc f args).run P w= .ok (.enter f args) w)(h1:ev σ x1=v1)(h2:ev σ x2=v2)(h3:ev σ x3=v3):
 (execOp (ev σ) ⟨dst,.call {callee:= .value (.func f),args:=#[x1,x2,x3],argTypes:=ats},ty,pos,bH,g⟩).run P w= .ok (.enter f #[v1,v2,v3]) w:=by grind[xb]
theorem iQ(hf:∀args w,(callFunc f args).run P w= .ok (.enter f args) w)(h1:ev σ x1=v1)(h2:ev σ x2=v2)(h3:ev σ x3=v3)(h4:ev σ x4=v4):
 (execOp (ev σ) ⟨dst,.call {callee:= .value (.func f),args:=#[x1,x2,x3,x4],argTypes:=ats},ty,pos,bH,g⟩).run P w= .ok (.enter f #[v1,v2,v3,v4]) w:=by grind[xb]
theorem q5(hf:∀args w,(callFunc f args).run P w= .ok (.enter f args) w)(h1:ev σ x1=v1)(h2:ev σ x2=v2)(h3:ev σ x3=v3)(h4:ev σ x4=v4)(h5:ev σ x5=v5):
 (execOp (ev σ) ⟨dst,.call {callee:= .value (.func f),args:=#[x1,x2,x3,x4,x5],argTypes:=ats},ty,pos,bH,g⟩).run P w= .ok (.enter f #[v1,v2,v3,v4,v5]) w:=by grind[xb]
theorem Wi(hf:∀args w,(callFunc f args).run P w= .ok (.enter f args) w)(hx:ev σ x= .func (.func f) #[] cap)(h1:ev σ x1=v1):
 (execOp (ev σ) ⟨dst,.call {callee:= .value x,args:=#[x1],argTypes:=ats},ty,pos,bH,g⟩).run P w= .ok (.enter f (#[v1]++cap)) w:=by grind[NK]
theorem A6{fn:Fn}(h1:ev σ x1=v1):(execOp (ev σ) ⟨dst,.makeFunc fn #[] #[x1],ty,pos,bH,g⟩).run P w= .ok (.value (.func fn #[] #[v1])) w:=by grind[th]
theorem rP{fn:Fn}(h1:ev σ x1=v1)(h2:ev σ x2=v2):(execOp (ev σ) ⟨dst,.makeFunc fn #[] #[x1,x2],ty,pos,bH,g⟩).run P w= .ok (.value (.func fn #[] #[v1,v2])) w:=by grind[th]
theorem Ki{fn:Fn}(h1:ev σ x1=v1)(h2:ev σ x2=v2)(h3:ev σ x3=v3):(execOp (ev σ) ⟨dst,.makeFunc fn #[] #[x1,x2,x3],ty,pos,bH,g⟩).run P w= .ok (.value (.func fn #[] #[v1,v2,v3])) w:=by grind[th]
variable{fn:Func}{w0:World}
theorem Ez{t:Nat}(h:fn.results=#[.tmp t])(hv:σ t=v)(hb:Below w0.heap.size w0 w):Out P fn (fun u w'=>u=v/\Below w0.heap.size w0 w') σ w:=ja h hv ⟨rfl,hb⟩
theorem kp{t u:Nat}{y z:Value}(h:fn.results=#[.tmp t,.tmp u])(hy:σ t=y)(hz:σ u=z)(hb:Below w0.heap.size w0 w):Out P fn (fun u w'=>u= .tuple #[y,z]/\Below w0.heap.size w0 w') σ w:=atv h hy hz ⟨rfl,hb⟩
end short
section app
variable{P:Program}{w0 w:World}{L:List a8}
theorem rQ{base:Nat}{t ty e:TypeId}{i:TypeInfo}{z:Value}{size bytes:Nat}(ht:P.underlying t=some (.slice e))(hi:P.info? e=some i)(hz:i.zero=some z)
  (hsize:i.size=size) (hby:i.bytes=bytes) (hzs:z.cells.size=size) (hsz:0<size)
  {v:Value} {n:Nat} {xs:List Value} (hown:w.ownsRow base e size v n xs) {y:Value} {m:Nat} {news:List Value} (hS:Sl w y size m news) (h1:∀u∈news,u.oneCell'=true)
  (h63:n+m<=maxLen) (hbytes:(n+m)*bytes<=140737488355328) (hbase:base<=w.heap.size):
  ∃v' w',(Builtin.append_ #[t,t] ty #[v,y]).run P w= .ok v' w'/\w'.ownsRow base e size v' (n+m) (xs++news)/\w.grownBy w' v.ownBlock/\
   (v'.ownBlock=none\/v'.ownBlock=v.ownBlock\/v'.ownBlock=some w.heap.size):=by
 obtain⟨a,c,hy,hnc,ha⟩:=hS.shape
 by_cases hm:m=0
 .subst hm
  have hn:news=[]:=Et (by simpa using hS.len)
  subst hn
  refine⟨v,w,?_,by simpa using hown,⟨rfl,rfl,rfl,eI _,fun _ _ _=>rfl⟩,.inr (.inl O)⟩
  subst hy
  rcases hown.2 with⟨rfl,rfl⟩|⟨g,cap,cur,rfl,hbg,hg,hnc,hcm,hcs,atE⟩
  .cases a<;>simp[Builtin.append_,jG ht,sizeOf,typeInfo,hi,Builtin.lenOf,Builtin.firstCells,loadCells,loadCellsFrom]
  .cases a<;>simp[Builtin.append_,jG ht,sizeOf,typeInfo,hi,Builtin.lenOf,Builtin.firstCells,loadCells,loadCellsFrom,hnc,storeCells]
 have ha':=ha J
 have hyy:y= .slice (some ⟨sb y,so y,none⟩) m c:=by rw[<-ha'];exact hy
 have hnews:∀j u,news[j]?=some u->w.cell? ((⟨sb y,so y,none⟩:Addr).add j)=some u:=fun j u hu=>by rw[F3];exact hS.cell j u hu
 obtain⟨v',w',hr,h2,h3,h4⟩:=run_append_own (P:=P) w base t ty e i z size bytes ht hi hz hsize hby hzs hsz v n xs hown ⟨sb y,so y,none⟩ m c news hS.len hnews h1 h63 hbytes hbase
 rw[hyy]
 refine⟨v',w',hr,h2,h3,?_⟩
 subst hsize
 subst hby
 have hsmall:n+m<=9223372036854775807:=by simp only[maxLen]at h63;omega
 rcases hown.2 with⟨rfl,rfl⟩|⟨g,cap,cur,rfl,hbg,hg,hnc,hcm,hcs,atE⟩
 .have hr2:=run_append_nil (P:=P) w t ty e i z ht hi hz ⟨sb y,so y,none⟩ m c news hS.len hnews J J adv
  rw[hr2]at hr
  injection hr with e1 e2
  subst e1
  exact .inr (.inr O)
 by_cases hroom:n+m<=cap
 .have hfit:n*i.size+news.length<=cur.size:=by rw[hS.len,hcs,<-kE];exact qH _ hroom
  have hr2:=run_append_room (P:=P) w t ty e i ht hi g n cap cur hg ⟨sb y,so y,none⟩ m c news hS.len hnews h1 hroom hfit
  rw[hr2]at hr
  injection hr with e1 e2
  subst e1
  exact .inr (.inl O)
 have holds:∀j u,xs[j]?=some u->w.cell? ((⟨g,0,none⟩:Addr).add j)=some u:=hown.cells (g:=g) O
 have hr2:=run_append_grow (P:=P) w t ty e i z ht hi hz ⟨g,0,none⟩ n cap xs hown.1 holds ⟨sb y,so y,none⟩ m c news hS.len hnews J J (growslice_fits J hbytes)
 rw[hr2]at hr
 injection hr with e1 e2
 subst e1
 exact .inr (.inr O)
theorem Hp.xd{w':World}{i:Nat}{v v':Value}{e:TypeId}{sz n m:Nat}{xs ys:List Value}(h:Hp w0 w L)(hi:L[i]?=some (.row v e sz n xs))
  (hr:w'.ownsRow w0.heap.size e sz v' m ys) (hg:w.grownBy w' v.ownBlock) (hf:v'.ownBlock=none\/v'.ownBlock=v.ownBlock\/v'.ownBlock=some w.heap.size):Hp w0 w' (L.set i (.row v' e sz m ys)):=by
 have hx:=h.get hi
 have hil:=(mC.1 hi).1
 have hLi:L[i]= .row v e sz n xs:=(mC.1 hi).2
 have hp:=Pm.1 h.Kc
 have adO:∀j (hj:j<L.length),j≠i->∀b,(L[j]).qZ=some b->v.ownBlock≠some b:=by
  intro j hj hne b hb he
  rcases Vs hne with hlt|hgt
  .rcases hp j i hj hil hlt with h0|h0
   .rw[hb]at h0;cases h0
   rw[hb,hLi]at h0;exact h0 he.symm
  rcases hp i j hil hj hgt with h0|h0
  .rw[hLi]at h0;simp only[a8.qZ]at h0;rw[he]at h0;cases h0
  rw[hb,hLi]at h0;exact h0 he
 refine⟨h.below.grown hg h.size fun k hk=>(hx.lt k hk).1,fun y hy=> ?_,?_⟩
 .obtain⟨j,hj,DM⟩:=xU.1 hy
  rw[xY]at DM
  split at DM
  .subst DM;exact hr
  rename_i hne
  have hjL:j<L.length:=by simpa using hj
  have hyL:y∈L:=DM▸pS hjL
  refine a8.B8 (h.ok y hyL) fun b hb=>hg.block b (a8.HP (h.ok y hyL) b hb).2 fun e=> ?_
  exact adO j hjL (fun e=>hne e.symm) b (by rw[DM];exact hb) e.symm
 refine Pm.2 fun a b ha hb hab=> ?_
 have haL:a<L.length:=by simpa using ha
 have hbL:b<L.length:=by simpa using hb
 rw[xY,xY]
 have key:∀j (hj:j<L.length),j≠i->v'.ownBlock=none\/(L[j]).qZ=none\/v'.ownBlock≠(L[j]).qZ:=by
  intro j hj hne
  cases hfj:(L[j]).qZ with
  |none=>exact .inr (.inl O)
  |some c=>
   rcases hf with h0|h0|h0
   .exact .inl h0
   .refine .inr (.inr fun e=>adO j hj hne c hfj ?_);rw[<-h0,e]
   refine .inr (.inr fun e=> ?_)
   have:=(a8.HP (h.ok _ (pS hj)) c hfj).2
   rw[h0]at e;injection e with e;omega
 by_cases hia:i=a
 .subst hia
  rw[aR O,aP J]
  rcases key b hbL (by omega)with h0|h0|h0
  .exact .inl h0
  .cases hv:v'.ownBlock with
   |none=>exact .inl hv
   |some c=>exact .inr (by rw[h0];show v'.ownBlock≠none;rw[hv];simp)
  exact .inr h0
 rw[aP hia]
 by_cases hib:i=b
 .subst hib
  rw[aR O]
  rcases key a haL (by omega)with h0|h0|h0
  .cases hv:(L[a]).qZ with
   |none=>exact .inl O
   |some c=>exact .inr (by show some c≠v'.ownBlock;rw[h0];simp)
  .exact .inl h0
  exact .inr fun e=>h0 e.symm
 rw[aP hib]
 exact hp a b haL hbL hab
variable{n:Nat}{ops:Array Oper}{k:K}{rest:List Oper}{σ:Env}{ty:TypeId}{pos:String}{bH:Array Edge}{d:Nat}{x y:Operand}
theorem rN{t:TypeId}{v u:Value}{w':World}{v':Value}{dst:Option Tmp}{g:Option (Nat×Bool)}(hx:ev σ x=v)(hy:ev σ y=u)(hr:(Builtin.append_ #[t,t] ty #[v,u]).run P w= .ok v' w'):
  (execOp (ev σ) ⟨dst,.call {callee:= .builtin .append,args:=#[x,y],argTypes:=#[t,t]},ty,pos,bH,g⟩).run P w= .ok (.value v') w':=by
 simp[execOp,resolve,invoke,builtin,hx,hy,hr]
theorem jm{t e:TypeId}{i:Nat}{ie:TypeInfo}{z:Value}{size bytes:Nat}{v u:Value}{m m':Nat}{xs news:List Value}(hd:Nat.blt d n=true)(hH:Hp w0 w L)(hL:L[i]?=some (.row v e size m xs))(hS:Sl w u size m' news)
  (hx:ev σ x=v) (hy:ev σ y=u) (ht:P.underlying t=some (.slice e)) (hi:P.info? e=some ie) (hz:ie.zero=some z)
  (hsize:ie.size=size) (hby:ie.bytes=bytes) (hzs:z.cells.size=size) (hsz:0<size) (h1:∀u∈news,u.oneCell'=true)
  (hbytes:(m+m')*bytes<=140737488355328) (h63:m+m'<=maxLen)
  (hk:∀v' w',Hp w0 w' (L.set i (.row v' e size (m+m') (xs++news)))->RL P n ops k rest (k7 σ d v') w'):
  RL P n ops k (⟨some d,.call {callee:= .builtin .append,args:=#[x,y],argTypes:=#[t,t]},ty,pos,bH,none⟩::rest) σ w:=by
 obtain⟨v',w',hr,h2,h3,h4⟩:=rQ (P:=P) (ty:=ty) ht hi hz hsize hby hzs hsz (hH.get hL) hS h1 h63 hbytes hH.size
 exact n5 hd (rN hx hy hr) (hk v' w' (hH.xd hL h2 h3 h4))
end app
theorem clI(k:IntKind)(n:Int):(Value.int k n).cells.toList=[Value.int k n]:=rfl
theorem clB(b:Bool):(Value.bool b).cells.toList=[Value.bool b]:=rfl
theorem clS(b:ByteArray):(Value.string b).cells.toList=[Value.string b]:=rfl
theorem clP(a:Option Addr):(Value.pointer a).cells.toList=[Value.pointer a]:=rfl
theorem clL(a:Option Addr)(n c:Nat):(Value.slice a n c).cells.toList=[Value.slice a n c]:=rfl
theorem clA(l:List Value):(Value.agg l.toArray).cells.toList=l:=rfl
section more
variable{P:Program}{w0 w:World}{L L':List a8}{fn:Func}{σ:Env}
theorem Hp.conv(h:Hp w0 w L)(e:L=L'):Hp w0 w L':=e▸h
theorem Hp.perm(h:Hp w0 w L)(hp:L.Perm L'):Hp w0 w L':=
 ⟨h.below,fun x hx=>h.ok x (hp.mem_iff.2 hx),hp.pairwise h.Kc fun{x y} hxy=>by
  cases hy:y.qZ with
  |none=>exact .inl O
  |some b=>
   right
   rcases hxy with h0|h0
   .rw[h0];simp
   rw[hy]at h0;exact fun e=>h0 e.symm⟩
theorem Nc{t i:Nat}{v:Value}{e:TypeId}{sz n n':Nat}{xs xs':List Value}(h:fn.results=#[.tmp t])(hv:σ t=v)(hH:Hp w0 w L)(hi:L[i]?=some (.row v e sz n xs))(hn:n=n')(hx:xs=xs'):
  Out P fn (fun u w'=>w'.ownsRow w0.heap.size e sz u n' xs'/\Below w0.heap.size w0 w') σ w:=by
 subst hn;subst hx
 exact ja h hv ⟨hH.get hi,hH.below⟩
theorem ew{xs:List Int}{k:Int}(h:0<=k/\k<xs.length):(xs.map I)[k.toNat*1]?=some (I (xs.getD k.toNat 0)):=by grind
end more
def isD(ops:Array Oper)(j dj:Nat):Bool:=match(ops[j]?).bind (·.dst)with
 |some d=>Nat.beq d dj
 |none=>false
def Wj{α:Type}:Bool->α->α->α
 |true,x,_=>x
 |false,_,y=>y
def gv(ops:Array Oper)(dj:Nat)(b:Bool):Option (Nat×Bool)->Option Bool
 |some (j,want)=>Wj (isD ops j dj) (some (Wj b want (!want))) none
 |none=>none
def pk(dj:Nat)(b:Bool):Op->Op
 | .pick (.tmp c) x y=>Wj (Nat.beq c dj) (.move (Wj b x y)) (.pick (.tmp c) x y)
 |o=>o
def dE(dj:Nat):Option Tmp->Bool
 |some d=>Nat.beq d dj
 |none=>false
def gs(ops:Array Oper)(dj:Nat)(b:Bool):List Oper->List Oper
 |[]=>[]
 |o::r=>match gv ops dj b o.guard with
  |some true=>⟨o.dst,pk dj b o.op,o.type,o.pos,o.after,none⟩::Wj (dE dj o.dst) r (gs ops dj b r)
  |some false=>match o.dst with
   |none=>gs ops dj b r
   |some d=>⟨some d,.move (.const undef),o.type,o.pos,o.after,none⟩::Wj (Nat.beq d dj) r (gs ops dj b r)
  |none=>⟨o.dst,pk dj b o.op,o.type,o.pos,o.after,o.guard⟩::Wj (dE dj o.dst) r (gs ops dj b r)
def gl(n:Nat)(ops:Array Oper)(dj:Nat)(b:Bool):List Oper->List Oper
 |[]=>[]
 |o::r=>match gv ops dj b o.guard,o.dst with
  |some false,some d=>Wj (Wj (Nat.beq d dj) false (Nat.blt d n)) (gl n ops dj b r) (gs ops dj b (o::r))
  |some false,none=>gl n ops dj b r
  |_,_=>gs ops dj b (o::r)
def ge(n:Nat)(ops:Array Oper)(dj:Nat)(b:Bool):List Oper->Env->Env
 |[],σ=>σ
 |o::r,σ=>match gv ops dj b o.guard,o.dst with
  |some false,some d=>Wj (Wj (Nat.beq d dj) false (Nat.blt d n)) (ge n ops dj b r (k7 σ d undef)) σ
  |some false,none=>ge n ops dj b r σ
  |_,_=>σ
section
variable{P:Program}{n:Nat}{ops:Array Oper}{k:K}{rest l:List Oper}{σ:Env}{w:World}{dj:Nat}{b:Bool}
theorem Gm{a:Act}{o:Oper}{t:Bool}(h:a.tmps[dj]?=some (.bool b))(hg:gv ops dj b o.guard=some t):Region.wanted o (yielded ops a.tmps)=t:=by
 obtain⟨dst,op,ty,pos,bH,g⟩:=o
 cases g with
 |none=>cases hg
 |some jw=>
  obtain⟨j,want⟩:=jw
  simp only[gv]at hg
  cases hi:isD ops j dj with
  |false=>rw[hi]at hg;cases hg
  |true=>
   rw[hi]at hg;simp only[Wj,Vx]at hg;subst hg
   unfold isD at hi;split at hi
   .rename_i d hd
    have:d=dj:=yf
    subst this
    simp only[Region.wanted,yielded,hd,Pz,h]
    cases b<;>cases want<;>rfl
   .cases hi
theorem adP{a:Act}{o:Oper}(h:a.tmps[dj]?=some (.bool b))(g:Option (Nat×Bool)):execOp a.eval ⟨o.dst,pk dj b o.op,o.type,o.pos,o.after,g⟩=execOp a.eval o:=by
 obtain⟨dst,op,ty,pos,bH,g'⟩:=o
 show execOp a.eval ⟨dst,pk dj b op,ty,pos,bH,g⟩=execOp a.eval ⟨dst,op,ty,pos,bH,g'⟩
 unfold pk
 split
 .rename_i c x y
  cases hc:Nat.beq c dj with
  |false=>rfl
  |true=>
   have:c=dj:=by simpa using hc
   subst this
   have e:a.eval (.tmp c)= .bool b:=by
    show a.tmps.getD c undef=_
    rw[ve,h];rfl
   simp only[execOp,e,asBool,Wj]
   cases b<;>rfl
 rfl
theorem aaq{o:Oper}{a:Act}{N N':Act->World->Prop}{Q:Exit->Act->World->Prop}(hN:∀(a':Act) v w,a'.tmps=a.tmps->N (a'.put o.dst v) w->N' (a'.put o.dst v) w){r:Result Next}(h:o.upon P a N Q r):o.upon P a N' Q r:=by
 unfold Oper.upon at h⊢
 split at h
 .exact hN _ _ _ O h
 .exact hN _ _ _ O h
 .exact hN {a with defers:=_} _ _ O h
 .refine h.mono fun e w' hr=> ?_
  cases e with
  |returned v=>exact hN _ _ _ O hr
  |panicked c=>exact hr
  |outgrown=>exact hr
 .exact fun c cs=>let⟨v,w',r,s⟩:=h c cs;⟨v,w',hN _ _ _ O r,s⟩
 .exact h
 exact h.elim
theorem adQ{a a':Act}{d:Option Tmp}{v:Value}(h:a.tmps[dj]?=some (.bool b))(e:a'.tmps=a.tmps)(hd:dE dj d=false):(a'.put d v).tmps[dj]?=some (.bool b):=by
 cases d with
 |none=>simpa[Act.put,e]using h
 |some d=>
  have hne:d≠dj:=by intro e;subst e;simp[dE]at hd
  simp only[Act.put,e]
  rw[CP,aP hne];exact h
theorem amA{Q:Exit->Act->World->Prop}(hL:¬LetsOut Q):∀(l:List Oper) (a:Act) (w:World),a.tmps[dj]?=some (.bool b)->wpList P ops Q (gs ops dj b l) a w->wpList P ops Q l a w
 |[],a,w,_,h=>h
 |o::r,a,w,hb,h=>by
  have next:∀(a':Act) v w,a'.tmps=a.tmps->wpList P ops Q (Wj (dE dj o.dst) r (gs ops dj b r)) (a'.put o.dst v) w->wpList P ops Q r (a'.put o.dst v) w:=by
   intro a' v w' e h'
   cases hd:dE dj o.dst with
   |true=>rw[hd]at h';exact h'
   |false=>rw[hd]at h';exact amA hL r _ _ (adQ hb e hd) h'
  have run:∀g,(Oper.wp P ⟨o.dst,pk dj b o.op,o.type,o.pos,o.after,g⟩ a w (wpList P ops Q (Wj (dE dj o.dst) r (gs ops dj b r))) Q\/(Oper.asks P ⟨o.dst,pk dj b o.op,o.type,o.pos,o.after,g⟩ a w/\LetsOut Q))->
    (o.wp P a w (wpList P ops Q r) Q\/(o.asks P a w/\LetsOut Q)):=by
   intro g hg
   rcases hg with hg|hg
   .left
    unfold Oper.wp at hg⊢
    rw[adP hb]at hg
    exact aaq (o:=o) next hg
   right
   unfold Oper.asks at hg⊢
   rw[adP hb]at hg;exact hg
  unfold gs at h
  cases hg:gv ops dj b o.guard with
  |none=>
   rw[hg]at h;simp only[wpList]at h⊢
   have e:Region.wanted ⟨o.dst,pk dj b o.op,o.type,o.pos,o.after,o.guard⟩ (yielded ops a.tmps)=Region.wanted o (yielded ops a.tmps):=by unfold Region.wanted;rfl
   rw[e]at h
   split
   .rename_i hw;rw[aR hw]at h;exact run _ h
   rename_i hw;rw[aP hw]at h;exact next _ _ _ O h
  |some t=>
   rw[hg]at h
   cases t with
   |true=>
    simp only[wpList]at h⊢
    rw[aR (Gm hb hg)]
    rw[aR aM]at h
    exact run _ h
   |false=>
    simp only[wpList]at h⊢
    rw[aP (by rw[Gm hb hg];simp)]
    cases hd:o.dst with
    |none=>
     rw[hd]at h
     rw[hd]at next
     exact next a undef w O h
    |some d=>
     rw[hd]at h
     rw[hd]at next
     simp only[wpList]at h
     rw[aR aM]at h
     rcases h with h|h
     .exact next _ _ _ O h
     exact(hL h.2).elim
theorem aoT(k:K):¬LetsOut (qJ n k):=by
 intro⟨a,w,h⟩
 exact h
theorem Kj:∀(l:List Oper) (σ:Env),σ dj= .bool b->RL P n ops k (gl n ops dj b l) (ge n ops dj b l σ) w->RL P n ops k l σ w
 |[],σ,_,h=>h
 |o::r,σ,hb,h=>by
  have stay:RL P n ops k (gs ops dj b (o::r)) σ w->RL P n ops k (o::r) σ w:=fun h a ha=>amA (aoT k) _ a w (ha.look hb ye) (h a ha)
  unfold gl ge at h
  obtain⟨dst,op,ty,pos,bH,g⟩:=o
  cases hg:gv ops dj b g with
  |none=>simp only[hg]at h;exact stay h
  |some t=>
   cases t with
   |true=>simp only[hg]at h;exact stay h
   |false=>
    simp only[hg]at h
    have hw:∀a,Is n σ a->Region.wanted ⟨dst,op,ty,pos,bH,g⟩ (yielded ops a.tmps)=false:=fun a ha=>Gm (ha.look hb ye) hg
    cases dst with
    |none=>
     have h1:=Kj r σ hb h
     intro a ha
     simp only[wpList,hw a ha]
     exact h1 a ha
    |some d=>
     simp only at h
     cases hd:Nat.beq d dj with
     |true=>rw[hd]at h;exact stay h
     |false=>
      rw[hd]at h
      cases hn:Nat.blt d n with
      |false=>rw[hn]at h;exact stay h
      |true=>
       rw[hn]at h
       have hne:dj≠d:=by intro e;subst e;simp at hd
       have h1:=Kj r (k7 σ d undef) (by rw[Wb _ _ hne];exact hb) h
       intro a ha
       simp only[wpList,hw a ha]
       exact h1 _ (ha.put hn undef)
theorem cD{j:Nat}{want:Bool}{dst:Option Tmp}{op:Op}{ty:TypeId}{pos:String}{bH:Array Edge}(hj:(ops[j]?).bind (·.dst)=some dj)(hb:σ dj= .bool b)
 (h:RL P n ops k (gl n ops dj b (⟨dst,op,ty,pos,bH,some (j,want)⟩::rest)) (ge n ops dj b (⟨dst,op,ty,pos,bH,some (j,want)⟩::rest) σ) w):RL P n ops k (⟨dst,op,ty,pos,bH,some (j,want)⟩::rest) σ w:=Kj _ _ hb h
theorem fW{c:Bool}(dj:Nat)(hb:σ dj= .bool c)(ht:c=true->RL P n ops k (gl n ops dj true l) (ge n ops dj true l σ) w)(hf:c=false->RL P n ops k (gl n ops dj false l) (ge n ops dj false l σ) w):RL P n ops k l σ w:=by
 cases hc:c with
 |true=>exact Kj _ _ (hc▸hb) (ht hc)
 |false=>exact Kj _ _ (hc▸hb) (hf hc)
theorem bI{p:Prop}[Decidable p](dj:Nat)(hb:σ dj= .bool (decide p))(ht:p->RL P n ops k (gl n ops dj true l) (ge n ops dj true l σ) w)(hf:¬p->RL P n ops k (gl n ops dj false l) (ge n ops dj false l σ) w):RL P n ops k l σ w:=by
 by_cases hc:p
 .exact Kj _ _ (by rw[hb,gq hc]) (ht hc)
 exact Kj _ _ (by rw[hb,gm hc]) (hf hc)
theorem A7{d:Nat}{ty:TypeId}{pos:String}{bH:Array Edge}(h:RL P n ops k rest (k7 σ d undef) w)(hd:Nat.blt d n=true:=by rfl):RL P n ops k (⟨some d,.move (.const undef),ty,pos,bH,none⟩::rest) σ w:=
 n5 hd (run_move O) h
end
end
end Go.Proofs.YtlhjdflgjbkpmaaGreatDoor.E
namespace Go.Proofs.YtlhjdflgjbkpmaaGreatDoor.M
def yl(n:Int):Bool:=decide (1<=n/\n<=64)
def below(n:Int):BitVec 64:=if n<=0 then 0#64 else if 64<=n then~~~0#64 else(1#64<<<(BitVec.ofInt 64 n).toNat)-1#64
theorem P9{n:Int}(h:n<=0):below n=0#64:=by simp[below,h]
theorem aar{n:Int}(h:64<=n):below n= ~~~0#64:=by grind[below]
theorem aas{n:Int}(h:¬n<=0)(h':¬64<=n):below n=(1#64<<<(BitVec.ofInt 64 n).toNat)-1#64:=by grind[below]
def ud(n k:Int):BitVec 64×Bool:=if 1<=n/\n<=64/\0<=k/\k<n then(below k,true)else(0#64,false)
theorem ajr{n:Int}(h:(!yl n)=false):1<=n/\n<=64:=by simpa[yl]using h
theorem ajs{n:Int}(h:(!yl n)=true):¬(1<=n/\n<=64):=by grind[yl]
theorem A8{n k:Int}(h:¬(1<=n/\n<=64/\0<=k/\k<n)):ud n k=(0#64,false):=by rw[ud,aP h]
theorem tF{n k:Int}(h:1<=n/\n<=64/\0<=k/\k<n):ud n k=(below k,true):=by rw[ud,aR h]
def level(n:Int)(s:BitVec 64):Int×Bool:=
 if 1<=n/\n<=64 then
  match(List.range n.toNat).find? (fun k:Nat=>s==below (k:Int))with
  |some k=>((k:Int),true)
  |none=>(0,false)
 else(0,false)
theorem Kk{n:Int}(s:BitVec 64)(h:¬(1<=n/\n<=64)):level n s=(0,false):=by grind[level]
theorem Kl{n k:Int}{s:BitVec 64}(h:1<=n/\n<=64)(h0:0<=k)(hk:k<n)(hs:s=below k)(hf:∀j:Int,0<=j->j<k->s≠below j):level n s=(k,true):=by
 have hfind:(List.range n.toNat).find? (fun i:Nat=>s==below (i:Int))=some k.toNat:=by
  rw[List.find?_range_eq_some]
  refine⟨?_,hG,?_⟩
  .rw[show((k.toNat:Int))=k by omega];simpa using hs
  intro j hj
  have:=hf j J J
  simpa using this
 simp only[level,aR h,hfind]
 rw[show((k.toNat:Int))=k by omega]
theorem DN{n:Int}{s:BitVec 64}(h:1<=n/\n<=64)(hf:∀j:Int,0<=j->j<n->s≠below j):level n s=(0,false):=by grind[below,level]
theorem mP{n:Int}(h:0<=n/\n<18446744073709551616):(BitVec.ofInt 64 n).toNat=n.toNat:=by grind
theorem eS(n:Int)(i:Nat):(below n).getLsbD i=decide (i<64/\(i:Int)<n):=by
 unfold below
 by_cases h:n<=0
 .rw[aR h];simp;omega
 rw[aP h]
 by_cases h':64<=n
 .rw[aR h',Pu,Vo,Bool.not_false,VQ,PC];omega
 rw[aP h',mP J]
 have e:(1#64<<<n.toNat)-1#64=BitVec.ofNat 64 (2^n.toNat-1):=by
  apply FO
  have h1:2^n.toNat<2^64:=Nat.pow_lt_pow_right J J
  have h2:0<2^n.toNat:=Nat.two_pow_pos _
  have h3:(1#64<<<n.toNat).toNat=2^n.toNat:=by
   simp[Pp,PB];exact h1
  rw[PA,h3,Vq,Vq]
  generalize 2^n.toNat=X at h1 h2
  omega
 rw[e,Vn,ac0]
 by_cases a:i<64<;>by_cases b:i<n.toNat<;>simp[a,b]<;>omega
def mQ(p:Nat->Bool):Nat->BitVec 64
 |0=>0#64
 |i+1=>if p i then mQ p i|||(1#64<<<i)else mQ p i
theorem lZ(i k:Nat):(1#64<<<i).getLsbD k=(decide (k<64)&&decide (k=i)):=by grind
theorem jN(p:Nat->Bool)(j i:Nat):(mQ p j).getLsbD i=(decide (i<j)&&decide (i<64)&&p i):=by
 induction j with
 |zero=>simp[mQ]
 |succ j ih=>
  unfold mQ
  by_cases hp:p j=true
  .rw[aR hp,Vz,ih,lZ]
   by_cases h2:i=j
   .subst h2;by_cases h1:i<64<;>simp[h1,hp]
   by_cases h1:i<64<;>by_cases h3:i<j<;>simp[h1,h2,h3]<;>omega
  rw[aP hp,ih]
  by_cases h2:i=j
  .subst h2;simp[hp]
  by_cases h1:i<64<;>by_cases h3:i<j<;>simp[h1,h3]<;>omega
def kq(l:List Int):BitVec 64:=mQ (fun i=>l.contains (i:Int)) 64
theorem gD(l:List Int)(i:Nat):(kq l).getLsbD i=(decide (i<64)&&l.contains (i:Int)):=by grind[kq,jN]
def ym(i:Int):Bool:=decide (0<=i/\i<64)
def hasB(s:BitVec 64)(i:Int):Bool:=ym i&&s.getLsbD i.toNat
def uf(s:BitVec 64)(i:Int):BitVec 64:=if ym i then s|||(1#64<<<(BitVec.ofInt 64 i).toNat)else s
def adR(s:BitVec 64)(i:Int):BitVec 64:=if ym i then s&&& ~~~(1#64<<<(BitVec.ofInt 64 i).toNat)else s
def rR(s:BitVec 64)(j:Nat):List Int:=((List.range j).filter (s.getLsbD ·)).map fun(i:Nat)=>(i:Int)
def fZ(s:BitVec 64):List Int:=rR s 64
def dS(a b:BitVec 64):Bool:=decide (a&&& ~~~b=0#64)
theorem wA(s:BitVec 64)(i:Int)(k:Nat):(uf s i).getLsbD k=(s.getLsbD k||(decide (k<64)&&decide ((k:Int)=i))):=by grind[uf,ym,lZ,mP]
theorem Nf(s:BitVec 64)(i:Int)(k:Nat):(adR s i).getLsbD k=(s.getLsbD k&& !decide ((k:Int)=i)):=by grind[adR,ym,lZ,mP]
theorem ec{a b:BitVec 64}(h:∀i,i<64->a.getLsbD i=b.getLsbD i):a=b:=by grind
theorem aat(l:List Int)(i:Int):uf (kq l) i=kq (l++[i]):=ec fun k hk=>by
 rw[wA,gD,gD]
 simp[hk,Dt]
theorem Yu:kq []=0#64:=ec fun k hk=>by rw[gD];simp
theorem aau(s:BitVec 64)(j:Nat)(i:Int):i∈rR s j↔0<=i/\i<j/\s.getLsbD i.toNat=true:=by grind[rR]
theorem fN(s:BitVec 64)(i:Int):i∈fZ s↔hasB s i=true:=by grind[fZ,aau,hasB,ym]
theorem ajt(s:BitVec 64):kq (fZ s)=s:=ec fun k hk=>by
 rw[gD]
 have:=fN s (k:Int)
 have hc:(fZ s).contains (k:Int)=hasB s k:=by
  rw[gd,<-this];simp
 rw[hc,hasB,ym];simp[hk];omega
theorem Km(s:BitVec 64)(j:Nat):rR s (j+1)=rR s j++(if s.getLsbD j then[(j:Int)]else[]):=by grind[rR,List.range_succ]
theorem Gn(s:BitVec 64)(j:Nat):(rR s j).length<=j:=by grind[rR]
theorem EA(s:BitVec 64):(fZ s).length<=64:=Gn s 64
theorem EB(a b:BitVec 64):dS a b=true↔∀i,i<64->a.getLsbD i=true->b.getLsbD i=true:=by
 unfold dS
 rw[dP]
 constructor
 .intro h i hi ha
  have:=aJ (fun z=>BitVec.getLsbD z i) h
  simp[hi,ha]at this
  exact this
 intro h
 refine ec fun i hi=> ?_
 have:=h i hi
 simp only[qS,Pu,hi,decide_true,po,Vo]
 cases ha:a.getLsbD i
 .rfl
 rw[this ha];rfl
theorem aju(s:BitVec 64){i:Int}(h:ym i=true):decide (s>>>(BitVec.ofInt 64 i).toNat&&&1#64=1#64)=hasB s i:=by
 have h':0<=i/\i<64:=by simpa[ym]using h
 rw[hasB,h,po,mP J]
 have key:s>>>i.toNat&&&1#64=if s.getLsbD i.toNat then 1#64 else 0#64:=by
  refine ec fun k hk=> ?_
  by_cases hb:s.getLsbD i.toNat=true
  .rw[aR hb]
   simp only[qS,ac3]
   by_cases h0:k=0
   .subst h0;simp[hb]
   simp[BitVec.getLsbD_one,h0]
  rw[aP hb]
  simp only[qS,ac3]
  by_cases h0:k=0
  .subst h0;simpa using hb
  simp[BitVec.getLsbD_one,h0]
 rw[key]
 by_cases hb:s.getLsbD i.toNat=true
 .rw[aR hb,hb];rfl
 rw[aP hb];simp at hb;rw[hb];rfl
theorem Wl(s:BitVec 64){i:Int}(h:ym i=false):hasB s i=false:=by rw[hasB,h];rfl
theorem IU(s:BitVec 64)(k:Nat):(s>>>k)%2#64=1#64↔s.getLsbD k=true:=by
 have:(s>>>k)%2#64=1#64↔(s>>>k).toNat%2=1:=by
  rw[<-VE];simp
 rw[this]
 have h2:(s>>>k).getLsbD 0=s.getLsbD k:=aA
 rw[<-h2,BitVec.getLsbD,Nat.testBit_zero,dP]
theorem half(s:BitVec 64)(k:Nat):(s>>>k)/2#64=s>>>(k+1):=by
 apply FO
 simp only[BitVec.toNat_udiv,Vd,Nat.shiftRight_add]
 rfl
def zy(l:List Int)(j:Nat):BitVec 64:=mQ (fun i=>l.contains (i:Int)) j
theorem ajv{p:Nat->Bool}{j:Nat}(hj:j<64):mQ p j+(1#64<<<j)=mQ p j|||(1#64<<<j):=by
 refine BitVec.add_eq_or_of_and_eq_zero _ _ (ec fun k hk=> ?_)
 rw[qS,jN,lZ]
 by_cases h:k=j
 .subst h;simp
 simp[h]
theorem aav{l:List Int}{j:Nat}(hj:j<64)(h:(j:Int)∈l):zy l j+(1#64<<<j)=zy l (j+1):=by grind[zy,ajv,mQ]
theorem Wm{l:List Int}{i k:Int}(h0:0<=i)(hi:i<64)(hk:0<=k)(hkl:k<l.length)(h:l.getD k.toNat 0=i):zy l i.toNat+(1#64<<<i.toNat)=zy l (i+1).toNat:=by grind[aav]
theorem adS{l:List Int}{j:Nat}(h:¬(j:Int)∈l):zy l j=zy l (j+1):=by grind[zy,mQ]
theorem aaw{l:List Int}{i:Int}(h0:0<=i)(hf:∀j:Int,0<=j->j<l.length->l.getD j.toNat 0≠i):zy l i.toNat=zy l (i+1).toNat:=by
 rw[show(i+1).toNat=i.toNat+1 by omega]
 refine adS fun hm=> ?_
 rw[show((i.toNat:Nat):Int)=i by omega]at hm
 obtain⟨j,hj,he⟩:=xU.1 hm
 refine hf j J J ?_
 rw[dW,ep,dO hj];exact he
theorem ajn(j:Nat):(1#64<<<j)*2#64=1#64<<<(j+1):=by
 apply FO
 have h1:(1#64).toNat=1:=rfl
 have h2:(2#64).toNat=2:=rfl
 rw[BitVec.toNat_mul,Pp,Pp,PB,PB,h1,h2,PL,PL,Nat.mod_mul_mod]
 rfl
theorem NL{l:List Int}{k:Int}(h0:0<=k)(h:k<l.length):l.take (k+1).toNat=l.take k.toNat++[l.getD k.toNat 0]:=by
 rw[show(k+1).toNat=k.toNat+1 by omega,HL J,ep,dO J];rfl
theorem Kn{l:List Int}{k:Int}(h:¬k<l.length):l.take k.toNat=l:=iD J
theorem EC{l:List Int}{n:Int}(h:∀i:Int,0<=i->i<64->(i∈l↔i<n)):kq l=below n:=ec fun k hk=>by
 rw[gD,eS]
 have:=h k J J
 rw[gd];simp[hk,this]
def upto(j:Int):List Int:=(List.range j.toNat).map fun(i:Nat)=>(i:Int)
theorem j9{j:Int}(h:0<=j):upto j++[j]=upto (j+1):=by
 unfold upto
 rw[show(j+1).toNat=j.toNat+1 by omega,wj,gp,JA,show((j.toNat:Nat):Int)=j by omega]
theorem rS{j:Int}:(upto j).length=j.toNat:=by simp[upto]
theorem cH{j i:Int}:i∈upto j↔0<=i/\i<j:=by
 simp only[upto,fI,pn]
 constructor
 .rintro⟨a,h1,rfl⟩;omega
 rintro⟨h1,h2⟩;exact⟨i.toNat,J,J⟩
theorem aax{s:BitVec 64}{j:Int}(h0:0<=j)(h:(s>>>j.toNat)%2#64=1#64):rR s j.toNat++[j]=rR s (j+1).toNat:=by
 rw[show(j+1).toNat=j.toNat+1 by omega,Km,aR ((IU s _).1 h),show((j.toNat:Nat):Int)=j by omega]
theorem adT{s:BitVec 64}{j:Int}(h0:0<=j)(h:¬(s>>>j.toNat)%2#64=1#64):rR s j.toNat=rR s (j+1).toNat:=by
 rw[show(j+1).toNat=j.toNat+1 by omega,Km,aP (fun e=>h ((IU s _).2 e)),lU]
theorem NM{s:BitVec 64}{j:Int}(h:¬j<64)(h':j<=64):rR s j.toNat=fZ s:=by grind[rR,fZ]
theorem dG{l:List Int}{k:Int}(h0:0<=k)(h:k<l.length):l.getD k.toNat 0∈l:=by grind
theorem R4(a b:BitVec 64):dS a b=(fZ a).all (hasB b ·):=by
 rw[gd,EB,iq]
 constructor
 .intro h i hi
  have:=(fN a i).1 hi
  simp only[hasB,ym,cm,dP]at this⊢
  exact⟨this.1,h _ J this.2⟩
 intro h i hi ha
 have:=h i ((fN a i).2 (by simp[hasB,ym,ha];omega))
 simp only[hasB,ym,cm,dP]at this
 simpa using this.2
def aAw(n:Int):BitVec 64:=if 1<=n/\n<=64 then below (n-1)else 0#64
theorem R5{n k:Int}(h:(ud n k).2=true):1<=n/\n<=64/\0<=k/\k<n:=by grind[A8]
theorem Wn{n k:Int}(h:(ud n k).2=false):¬(1<=n/\n<=64/\0<=k/\k<n):=by grind[tF]
theorem R6{n k:Int}{s:BitVec 64}(h0:0<=k)(hi:(ud n k).2=true)(hne:¬(ud n k).1=s)(hf:n<=64->∀j:Int,0<=j->j<k->s≠below j):n<=64->∀j:Int,0<=j->j<k+1->s≠below j:=by grind[tF,R5]
theorem R7{n k:Int}{s:BitVec 64}(h0:0<=k)(hk:k<n)(hf:n<=64->∀j:Int,0<=j->j<k->s≠below j)(hi:(ud n k).2=false):n<=64->∀j:Int,0<=j->j<k+1->s≠below j:=by
 intro hn
 have:=Wn hi
 omega
theorem aay{n k:Int}{s:BitVec 64}(h0:0<=k)(hi:(ud n k).2=true)(hf:n<=64->∀j:Int,0<=j->j<k->s≠below j)(he:(ud n k).1=s):level n s=(k,true):=by grind[R5,tF,Kl]
theorem CR{n k:Int}{s:BitVec 64}(h0:0<=k)(hk:k<=n\/k=0)(h6:k<=64)(hf:n<=64->∀j:Int,0<=j->j<k->s≠below j)(he:¬(k<n/\k<64)):level n s=(0,false):=by grind[DN,Kk]
theorem aaz{j k:Int}(h0:0<=j)(hjk:j<k)(hk:k<=64):below k≠below j:=fun e=>by
 have:=aJ (fun z=>BitVec.getLsbD z j.toNat) e
 simp only[eS]at this
 rw[gq J,gm J]at this
 cases this
theorem Wo{n k:Int}(h:1<=n/\n<=64/\0<=k/\k<n):level n (ud n k).1=(k,true):=by grind[tF,Kl,aaz]
theorem adU(i j:Int):below i|||below j=below (max i j):=ec fun k hk=>by
 rw[Vz,eS,eS,eS,gd];simp;omega
theorem aaA(i j:Int):below i&&&below j=below (min i j):=ec fun k hk=>by
 rw[qS,eS,eS,eS,gd];simp;omega
def pop(s:BitVec 64):Int:=
 let x:=(s>>>1&&&6148914691236517205#64)+(s&&&6148914691236517205#64)
 let x:=(x>>>2&&&3689348814741910323#64)+(x&&&3689348814741910323#64)
 let x:=(x>>>4+x)&&&1085102592571150095#64
 let x:=x+x>>>8
 let x:=x+x>>>16
 let x:=x+x>>>32
 (x&&&127#64).toInt
theorem yo:∀{l m:List Int},l.Pairwise (· <·)->m.Pairwise (· <·)->(∀x,x∈l↔x∈m)->l=m
 |[],[],_,_,_=>rfl
 |[],b::m,_,_,h=>by have:=(h b).2 aA;simp at this
 |a::l,[],_,_,h=>by have:=(h a).1 aA;simp at this
 |a::l,b::m,hl,hm,h=>by
  have hl':=lE.1 hl
  have hm':=lE.1 hm
  have hab:a=b:=by
   rcases cT.1 ((h a).1 aA)with h1|h1
   .exact h1
   rcases cT.1 ((h b).2 aA)with h2|h2
   .exact h2.symm
   have:=hm'.1 a h1;have:=hl'.1 b h2;omega
  subst hab
  congr 1
  refine yo hl'.2 hm'.2 fun x=> ?_
  constructor
  .intro hx
   rcases cT.1 ((h x).1 (fq _ hx))with h1|h1
   .have:=hl'.1 x hx;omega
   exact h1
  intro hx
  rcases cT.1 ((h x).2 (fq _ hx))with h1|h1
  .have:=hm'.1 x hx;omega
  exact h1
theorem q7(s:BitVec 64):(fZ s).Pairwise (· <·):=by grind[fZ,rR,List.pairwise_lt_range]
theorem yp{s:BitVec 64}:fZ s=[]↔s=0#64:=by
 constructor
 .intro h;rw[<-ajt s,h,Yu]
 rintro rfl;simp[fZ,rR]
def Low(s:BitVec 64)(j:Nat):Prop:=j<64/\s.getLsbD j=true/\∀i,i<j->s.getLsbD i=false
theorem Wp{s:BitVec 64}(h:s≠0#64):∃j,Low s j:=by
 have hne:fZ s≠[]:=fun e=>h (yp.1 e)
 obtain⟨a,l,e⟩:=List.exists_cons_of_ne_nil hne
 have ha:=(fN s a).1 (by rw[e];simp)
 simp only[hasB,ym,cm,dP]at ha
 refine⟨a.toNat,J,ha.2,fun i hi=> ?_⟩
 cases hb:s.getLsbD i with
 |false=>rfl
 |true=>
  have hm:=(fN s (i:Int)).2 (by simp[hasB,ym,hb];omega)
  rw[e]at hm
  have hs:=q7 s
  rw[e]at hs
  rcases cT.1 hm with h1|h1
  .omega
  have:=(lE.1 hs).1 _ h1;omega
theorem adV{s:BitVec 64}{j:Nat}(h:Low s j):∃m,s.toNat=2^j*(2*m+1):=by
 obtain⟨hj,hb,hz⟩:=h
 have h1:s.toNat%2^j=0:=by
  apply Nat.eq_of_testBit_eq
  intro i
  rw[Nat.testBit_mod_two_pow,Nat.zero_testBit]
  by_cases hi:i<j
  .have:=hz i hi;rw[BitVec.getLsbD]at this;simp[this]
  simp[hi]
 have h2:s.toNat/2^j%2=1:=by
  rw[BitVec.getLsbD,Nat.testBit_eq_decide_div_mod_eq]at hb
  simpa using hb
 refine⟨s.toNat/2^j/2,?_⟩
 have h3:=VI s.toNat (2^j)
 have h4:=VI (s.toNat/2^j) 2
 rw[h2]at h4
 rw[h4];omega
theorem HQ{s:BitVec 64}{j:Nat}(h:Low s j){i:Nat}(hi:i<64):(s-1#64).getLsbD i=if i<j then true else if i=j then false else s.getLsbD i:=by
 obtain⟨m,hm⟩:=adV h
 have hp:0<2^j:=Nat.two_pow_pos j
 have hlt:=s.isLt
 have h1:(s-1#64).toNat=2^j*(2*m)+(2^j-1):=by
  rw[PA]
  have e:(1#64).toNat=1:=rfl
  have e2:2^j*(2*m+1)=2^j*(2*m)+2^j:=by rw[Nat.mul_add,kX]
  rw[e];omega
 rw[BitVec.getLsbD,h1,ac1 _ J]
 by_cases h2:i<j
 .rw[aR h2,aR h2,ac0];simp[h2]
 rw[aP h2,aP h2]
 by_cases h3:i=j
 .subst h3;rw[aR O,JO];simp
 rw[aP h3,BitVec.getLsbD,hm]
 have e2:2^j*(2*m+1)=2^j*(2*m+1)+0:=J
 rw[e2,ac1 _ hp,aP h2]
 obtain⟨k,hk⟩:∃k,i-j=k+1:=⟨i-j-1,J⟩
 rw[hk,Nat.testBit_succ,Nat.testBit_succ]
 congr 1;omega
theorem Gp{s:BitVec 64}{j:Nat}(h:Low s j){i:Nat}(hi:i<64):(s&&&(s-1#64)).getLsbD i=(s.getLsbD i&& !decide (i=j)):=by grind[Low,HQ]
theorem ajw{s:BitVec 64}{j:Nat}(h:Low s j):fZ s=(j:Int)::fZ (s&&&(s-1#64)):=by
 refine yo (q7 s) (lE.2 ⟨fun x hx=> ?_,q7 _⟩) fun x=> ?_
 .have:=(fN _ x).1 hx
  simp only[hasB,ym,cm,dP]at this
  obtain⟨⟨h0,h1⟩,h2⟩:=this
  rw[Gp h J]at h2
  simp only[cm,AB,vi]at h2
  rcases Nat.lt_or_ge x.toNat j with hlt|hge
  .rw[h.2.2 _ hlt]at h2;cases h2.1
  omega
 rw[fN,cT,fN]
 simp only[hasB,ym,cm,dP]
 constructor
 .rintro⟨h1,h2⟩
  by_cases hx:x=j
  .exact .inl hx
  refine .inr ⟨h1,?_⟩
  rw[Gp h J,h2];simp;omega
 rintro(rfl|⟨h1,h2⟩)
 .have:=h.1;exact⟨J,by simpa using h.2.1⟩
 rw[Gp h J]at h2
 simp only[cm]at h2
 exact⟨h1,h2.1⟩
theorem ajx{s:BitVec 64}{j:Nat}(h:Low s j):s&&& -s=1#64<<<j:=by
 have hn: -s= ~~~(s-1#64):=by
  apply FO
  rw[BitVec.toNat_neg,BitVec.toNat_not,PA]
  have e:(1#64).toNat=1:=rfl
  have:=s.isLt
  rw[e];omega
 refine ec fun i hi=> ?_
 rw[hn,qS,Pu,HQ h hi,lZ]
 by_cases h1:i<j
 .rw[aR h1,h.2.2 i h1];simp;omega
 rw[aP h1]
 by_cases h2:i=j
 .rw[aR h2,h2,h.2.1];simp
 rw[aP h2];cases s.getLsbD i<;>simp[h2]
def zA:List Int:=[0,1,56,2,57,49,28,3,61,58,42,50,38,29,17,4,62,47,59,36,45,43,51,22,53,39,33,30,24,18,12,5,63,55,48,27,60,41,37,16,46,35,44,21,52,32,23,11,54,26,40,15,34,20,31,10,25,14,19,9,13,8,7,6]
def tz(s:BitVec 64):Int:=if s=0#64 then 64 else zA.getD (((s&&& -s)*285870213051353865#64)>>>58).toNat 0
theorem adW(x:BitVec 64):0<=((x>>>58).toNat:Int)/\((x>>>58).toNat:Int)<(64:Nat):=by
 have:(x>>>58).toNat<64:=by
  rw[Vd,ac4]
  have:=x.isLt
  omega
 omega
theorem aoU{s:BitVec 64}{j:Nat}(h:Low s j):tz s=j:=by
 have hne:s≠0#64:=fun e=>by have:=h.2.1;rw[e]at this;simp at this
 rw[tz,aP hne,ajx h]
 have key:∀k:Fin 64,zA.getD (((1#64<<<k.val)*285870213051353865#64)>>>58).toNat 0=(k.val:Int):=by decide+kernel
 exact key ⟨j,h.1⟩
theorem Qa{s:BitVec 64}(h:s≠0#64):fZ s=tz s::fZ (s&&&(s-1#64)):=by
 obtain⟨j,hj⟩:=Wp h
 rw[aoU hj];exact ajw hj
theorem Qb{s:BitVec 64}(h:s≠0#64):(fZ (s&&&(s-1#64))).length<(fZ s).length:=by
 rw[Qa h];simp
def atF:List Nat->Nat
 |[]=>0
 |d::r=>2^8*atF r+d
def aJc(x:Nat):List Nat:=[x%256,x/256%256,x/65536%256,x/16777216%256,x/4294967296%256,x/1099511627776%256,x/281474976710656%256,x/72057594037927936%256]
def g1(d:Nat):Nat:=((d>>>1)&&&85)+(d&&&85)
def g2(d:Nat):Nat:=((d>>>2)&&&51)+(d&&&51)
def pc8(d:Nat):Nat:=(List.range 8).countP d.testBit
def aJd(s:BitVec 64)(k:Int):Int×Bool:=if 0<=k/\k<(fZ s).length then((fZ s).getD k.toNat 0,true)else(0,false)
def kAt(k:Int)(n:Nat):Int:=if k-n< -9223372036854775808 then k-n+18446744073709551616 else k-n
theorem atG{s:BitVec 64}(h:s≠0#64):zA.getD (((s&&& -s)*285870213051353865#64)>>>58).toNat 0=tz s:=by rw[tz,aP h]
theorem ajy{a b:BitVec 64}{k:Int}(h0:0<=k)(hk:k<(fZ a).length)(h:(!hasB b ((fZ a).getD k.toNat 0))=true):dS a b=false:=by grind[R4,fZ]
theorem adX{a b:BitVec 64}(hf:∀j:Int,0<=j->j<(fZ a).length->hasB b ((fZ a).getD j.toNat 0)=true):dS a b=true:=by
 rw[R4,iq]
 intro x hx
 obtain⟨i,hi,rfl⟩:=qR hx
 have:=hf i J J
 simpa[ep,hi]using this
def aAx(s:BitVec 64):Int×Bool:=if s=0#64 then(0,false)else(tz s,true)
theorem Gq(a b:BitVec 64):dS a (a|||b)=true:=by grind[EB]
theorem ED(a b:BitVec 64):dS (a&&&b) a=true:=by grind[EB]
end Go.Proofs.YtlhjdflgjbkpmaaGreatDoor.M
namespace Go.Proofs.YtlhjdflgjbkpmaaGreatDoor.E
section
open Go Go.RowKit Go.Proofs.YtlhjdflgjbkpmaaGreatDoor.M
def oq(w:World):Prop:=∀j,j<64->w.cell? ⟨0,j,none⟩=some (.int .u8 (zA.getD j 0))
theorem oq.below{w w':World}(h:oq w)(hb:Below w.heap.size w w'):oq w':=fun j hj=>by
 have h1:=h j hj
 rw[hb.cell (World.block_lt_of_cell? w _ h1)];exact h1
theorem oq.hp{w0 w:World}{L:List a8}(h:oq w0)(hH:Hp w0 w L):oq w:=h.below hH.below
theorem oq.at{w:World}(h:oq w)(x:BitVec 64):w.cell? ⟨0,0+(((x>>>58).toNat:Int)).toNat*1,none⟩=some (.int .u8 (zA.getD (x>>>58).toNat 0)):=by
 have h2:=h (x>>>58).toNat (by have:=adW x;omega)
 generalize(x>>>58).toNat=j at*
 simpa using h2
theorem adY(j:Nat):0<=zA.getD j 0/\zA.getD j 0<=63:=by
 by_cases h:j<64
 .have key:∀k:Fin 64,0<=zA.getD k.val 0/\zA.getD k.val 0<=63:=by decide+kernel
  exact key ⟨j,h⟩
 have:zA.getD j 0=0:=by
  rw[ep,mJ (by simp[zA];omega)];rfl
 omega
theorem ajz{x:Int}(h:0<=x/\x<=63): -9223372036854775808<=x/\x<=9223372036854775807:=J
theorem Hp.A9{w0 w:World}{L:List a8}{b:Nat}{c:List Value}{e:TypeId}(h:Hp w0 w (.blk b (.cells c.toArray e (0,0))::L))(n sz:Nat)(hc:c.length=n*sz)(hn:n<=maxLen):
  Hp w0 w (.row (.slice (some ⟨b,0,none⟩) n n) e sz n c::L):=by
 refine⟨h.below,fun x hx=> ?_,?_⟩
 .rcases cT.1 hx with rfl|hx
  .have h1:=h.ok _ (tN ..)
   exact⟨hc,.inr ⟨b,n,c.toArray,rfl,h1.1,h1.2,eI _,hn,by simpa using hc,by simp[<-hc]⟩⟩
  exact h.ok x (fq _ hx)
 exact List.Pairwise.cons (fun y hy=>(lE.1 h.Kc).1 y hy) (lE.1 h.Kc).2
section drawn
variable{P:Program}{n:Nat}{l:List Oper}{S:World->Prop}{k:K}{xs:List (Nat×K)}{r:K}{σ:Env}{w w0:World}{L L' UU:List a8}{fuel i d:Nat}{listed:Array Bool}{op:Op}{ty:TypeId}{pos:String}{bH:Array Edge}{g:Option (Nat×Bool)}{v:Value}{dst:Option Tmp}
theorem ia{id:Nat}(hm:P.follows .mixedOrders=true)(hH:Hp w0 w L)(hs:L'.Sublist L)
  (h:∀w',Hp w0 w' L->AN P n l (fun w=>Hp w0 w L') k l.length (Array.replicate l.length false) σ w'):CW P n (.region id l.toArray true) k xs r σ w:=by
 intro a ha
 refine x9 (fun e a' w' hq=> ?_) (VO (id:=id) (Q:=qJ n k) hm (VP (S:=fun w=>Hp w0 w L') _ _ _ _ ?_))
 .cases e with
  |normal=>exact hq
  |exit id=>exact hq.elim
  |ret=>exact hq.elim
  |goto l=>exact hq.elim
  |panic c=>exact hq.elim
  |outgrown=>exact hq.elim
 have:=h _ hH.drew a ha
 simpa using this
theorem ic(i j:Nat)(hr:Region.ready .any l.toArray listed=[i,j])(h1:AO P n l S k fuel listed σ w i)(h2:AO P n l S k fuel listed σ w j):AN P n l S k (fuel+1) listed σ w:=by simp_all[adN]
theorem bW(hi:l[i]?=some ⟨some d,op,ty,pos,bH,g⟩)(hg:∀a,Is n σ a->Region.wanted ⟨some d,op,ty,pos,bH,g⟩ (yielded l.toArray a.tmps)=true)(hd:Nat.blt d n=true)
  (hH:Hp w0 w UU) (hs:L'.Sublist UU) (hr:(execOp (ev σ) ⟨some d,op,ty,pos,bH,g⟩).run P w= .ok (.value v) w)
  (h:AN P n l (fun w=>Hp w0 w L') k fuel (listed.setIfInBounds i true) (k7 σ d v) w):AO P n l (fun w=>Hp w0 w L') k fuel listed σ w i:=
 A4 hi hg hd hr (hH.sub hs) h
theorem eK{j b:Nat}{c c':Array Value}{e:TypeId}(hi:l[i]?=some ⟨none,op,ty,pos,bH,g⟩)(hg:∀a,Is n σ a->Region.wanted ⟨none,op,ty,pos,bH,g⟩ (yielded l.toArray a.tmps)=true)
  (hH:Hp w0 w UU) (hj:UU[j]?=some (.blk b (.cells c e (0,0)))) (hs:L'.Sublist (UU.set j (.blk b (.cells c' e (0,0)))))
  (hr:(execOp (ev σ) ⟨none,op,ty,pos,bH,g⟩).run P w= .ok .skip (w.setRow b c'))
  (h:∀w',Hp w0 w' (UU.set j (.blk b (.cells c' e (0,0))))->AN P n l (fun w=>Hp w0 w L') k fuel (listed.setIfInBounds i true) σ w'):AO P n l (fun w=>Hp w0 w L') k fuel listed σ w i:=
 Kf hi hg hr ((hH.set hj).sub hs) (h _ (hH.set hj))
end drawn
theorem a6{w:World}{base:Nat}{e:TypeId}{sz n:Nat}{v:Value}{xs:List Value}(h:w.ownsRow base e sz v n xs):v.cells=#[v]/\v.oneCell'=true:=by
 rcases h.2 with⟨rfl,_⟩|⟨g,cap,cur,rfl,_⟩<;>exact⟨rfl,rfl⟩
theorem Sl.conv{w:World}{v:Value}{sz n n':Nat}{c c':List Value}(h:Sl w v sz n c)(hn:n=n')(hc:c=c'):Sl w v sz n' c':=by subst hn hc;exact h
def uW(v:Value)(k:Nat):Value:=
 match v with
 | .slice a _ c=> .slice a k c
 |v=>v
theorem Sl.cut{w:World}{v:Value}{sz n:Nat}{cells:List Value}(h:Sl w v sz n cells)(k:Nat)(hk:k<=n):Sl w (uW v k) sz k (cells.take (k*sz)):=by
 obtain⟨a,cap,hv,hnc,ha⟩:=h.shape
 subst hv
 have e1:sb (.slice a k cap)=sb (.slice a n cap):=by cases a<;>rfl
 have e2:so (.slice a k cap)=so (.slice a n cap):=by cases a<;>rfl
 refine⟨⟨a,cap,rfl,J,fun h0=> ?_⟩,?_,fun j c hc=> ?_,kg hk h.small⟩
 .show a=some ⟨sb (.slice a k cap),so (.slice a k cap),none⟩
  rw[e1,e2];exact ha J
 .rw[eD,h.len];exact qI (qH _ hk)
 show w.cell? ⟨sb (.slice a k cap),so (.slice a k cap)+j,none⟩=some c
 rw[e1,e2]
 rw[tM]at hc
 split at hc
 .exact h.cell j c hc
 .cases hc
section atH
variable{P:Program}{σ:Env}{w:World}{dst:Option Tmp}{ty t:TypeId}{pos:String}{bH:Array Edge}{g:Option (Nat×Bool)}{x y:Operand}{v:Value}{sz n:Nat}{cells:List Value}{k:IntKind}{i:Int}
theorem Cb{e:TypeId}(hS:Sl w v sz n cells)(hu:P.underlying t=some (.slice e))(hs:∀w,(sizeOf e).run P w= .ok sz w)(hx:ev σ x=v)(hy:ev σ y= .int k i)(hi:0<=i/\i<=n):
  (execOp (ev σ) ⟨dst,.slice t x none (some y) none,ty,pos,bH,g⟩).run P w= .ok (.value (uW v i.toNat)) w:=by
 obtain⟨a,cap,hv,hnc,ha⟩:=hS.shape
 subst hv
 have h1:0<=i/\i<=(cap:Int):=J
 have h2:(Instr.slice t (.slice a n cap) none (some (.int k i)) none).run P w= .ok (.slice a i.toNat cap) w:=by
  simp[Instr.slice,Instr.sliceBounds,Instr.sliceBound,jG hu,asIntOf,h1,hs]
  intro h;cases a<;>rfl
 have h3:(Instr.sliceAt t (.slice a n cap) none (some (.int k i)) none).run P w= .ok (.slice a i.toNat cap) w:=by
  simp[Instr.sliceAt,jG hu,h2]
 simp[execOp,hx,hy,h3,uW]
end atH
end
end Go.Proofs.YtlhjdflgjbkpmaaGreatDoor.E
namespace Go.Proofs.YtlhjdflgjbkpmaaGreatDoor.M
theorem nt{b:Bool}(h:(!b)=true):b=false:=by cases b;rfl;cases h
theorem nf{b:Bool}(h:(!b)=false):b=true:=by cases b;cases h;rfl
structure Rl where
 n:Int
 up:Nat->BitVec 64
def Rl.put(r:Rl)(i:Nat)(x:BitVec 64):Rl:=⟨r.n,fun j=>if j=i then x else r.up j⟩
def Rl.eq(a b:Rl):Prop:=a.n=b.n/\∀i,i<64->a.up i=b.up i
instance(a b:Rl):Decidable (a.eq b):=inferInstanceAs (Decidable (a.n=b.n/\∀i,i<64->a.up i=b.up i))
def Rl.none:Rl:=⟨0,fun _=>0#64⟩
def pts(r:Rl):Int:=max 0 (min r.n 64)
theorem dr(r:Rl):0<=pts r/\pts r<=64:=by unfold pts;omega
def zU(r:Rl)(i:Int):Bool:=decide (0<=i/\i<pts r)
def bE(r:Rl)(i j:Int):Bool:=zU r i&&zU r j&&(r.up i.toNat).getLsbD j.toNat
theorem p6{r:Rl}{i:Int}:zU r i=true↔0<=i/\i<pts r:=by simp[zU]
theorem aoV{r:Rl}{i:Int}(h:zU r i=true):0<=i/\i<64:=by have:=dr r;have:=p6.1 h;omega
theorem adZ{r:Rl}{i:Int}(h:zU r i=true):ym i=true:=by grind[aoV,ym]
theorem ajA{r:Rl}{i j:Int}(hi:zU r i=true)(hj:zU r j=true):hasB (r.up i.toNat) j=bE r i j:=by grind[bE,hasB,adZ]
theorem IV{r:Rl}{i j:Int}(hi:zU r i=false):bE r i j=false:=by rw[bE,hi];rfl
theorem Qc{r:Rl}{i j:Int}(hj:zU r j=false):bE r i j=false:=by rw[bE,hj];simp
theorem ajB{r:Rl}{i j:Int}(hi:0<=i)(hj:0<=j)(hi2:i<pts r)(hj2:j<pts r):decide ((r.up i.toNat>>>(BitVec.ofInt 64 j).toNat)%2#64=1#64)=bE r i j:=by grind[Rl,pts,bE,dr,ajA,p6,hasB,adZ,mP,IU]
theorem IW{r:Rl}{i j:Int}(h:¬(0<=i/\0<=j/\i<pts r/\j<pts r)):bE r i j=false:=by grind[bE,zU,p6]
def ug(r:Rl)(i:Int):BitVec 64:=r.up i.toNat&&&below (pts r)
def yq(r:Rl)(i:Int):BitVec 64:=adR (ug r i) i
def CS(n:Int)(f:Nat->BitVec 64)(k:Int):Rl:=⟨n,fun i=>if(i:Int)<k then f i else 0#64⟩
theorem wB{n:Int}{f h:Nat->BitVec 64}(e:∀i,f i=h i):(⟨n,f⟩:Rl)=⟨n,h⟩:=by rw[show f=h from funext e]
theorem Gr(n:Int)(f:Nat->BitVec 64):(⟨n,fun _=>0#64⟩:Rl)=CS n f 0:=by grind[Rl,CS,wB]
theorem Ko{n:Int}{f:Nat->BitVec 64}{k:Int}{x:BitVec 64}(h:0<=k)(hx:x=f k.toNat):(CS n f k).put k.toNat x=CS n f (k+1):=wB fun i=>by
 show(if i=k.toNat then x else if(i:Int)<k then f i else 0#64)=if(i:Int)<k+1 then f i else 0#64
 by_cases h1:i=k.toNat
 .subst h1;rw[aR O,aR J,hx]
 rw[aP h1]
 by_cases h2:(i:Int)<k
 .rw[aR h2,aR J]
 rw[aP h2,aP J]
def ed(r:Rl):Rl:=CS (pts r) (fun i=>ug r i) (pts r)
theorem Yv(r:Rl)(i:Int)(j:Nat):(ug r i).getLsbD j=((r.up i.toNat).getLsbD j&&decide (j<64/\(j:Int)<pts r)):=by grind[ug,eS]
theorem tj(r:Rl){i:Int}(hi:0<=i/\i<pts r)(j:Nat):(ug r i).getLsbD j=bE r i j:=by grind[dr,Yv,bE,p6,zU,pts]
def p7(r:Rl)(i k:Int):List Int:=(upto k).filter (bE r i ·)
theorem aaB{r:Rl}{i k:Int}(h0:0<=k)(h:bE r i k=true):p7 r i k++[k]=p7 r i (k+1):=by grind[p7,j9]
theorem aaC{r:Rl}{i k:Int}(h0:0<=k)(h:bE r i k=false):p7 r i k=p7 r i (k+1):=by grind[p7,j9]
theorem NN{r:Rl}{i k:Int}:(p7 r i k).length<=k.toNat:=by grind[Rl,p7,bE,upto,rS]
theorem aaD{r:Rl}{i:Int}(hi:0<=i/\i<pts r):kq (p7 r i (pts r))=ug r i:=ec fun j hj=>by
 rw[gD,tj r hi,gq hj,po,gd]
 simp only[p7,Dt,dP,wk,cH]
 refine⟨fun h=>h.2,fun h=>⟨?_,h⟩⟩
 have:zU r j=true:=by
  simp only[bE,cm]at h;exact h.1.2
 exact p6.1 this
def vp(f:Int->BitVec 64)(l:List Int):BitVec 64:=l.foldl (fun a i=>a|||f i) 0#64
theorem Kp{f:Int->BitVec 64}{l:List Int}{k:Int}(h0:0<=k)(h:k<l.length):vp f (l.take k.toNat)|||f (l.getD k.toNat 0)=vp f (l.take (k+1).toNat):=by grind[NL,vp]
theorem R8(f:Int->BitVec 64):∀(l:List Int) (a:BitVec 64) (j:Nat),(l.foldl (fun a i=>a|||f i) a).getLsbD j=(a.getLsbD j||l.any fun i=>(f i).getLsbD j)
 |[],a,j=>by simp
 |i::l,a,j=>by rw[nW,R8 f l,Vz,List.any_cons,Bool.or_assoc]
theorem Gs(f:Int->BitVec 64)(l:List Int)(j:Nat):(vp f l).getLsbD j=l.any fun i=>(f i).getLsbD j:=by rw[vp,R8];simp
theorem Wq{s:BitVec 64}{k:Int}(h0:0<=k)(h:k<(fZ s).length):hasB s ((fZ s).getD k.toNat 0)=true:=by grind[fN,List.getElem?_eq_getElem,List.getElem_mem]
theorem yt{s:BitVec 64}{i:Int}(h:hasB s i=true):0<=i/\i<64:=by grind[hasB,ym]
theorem NO{s:BitVec 64}{k:Int}(h0:0<=k)(h:k<(fZ s).length):0<=(fZ s).getD k.toNat 0/\(fZ s).getD k.toNat 0<64:=yt (Wq h0 h)
def upR(r:Rl)(s:BitVec 64):BitVec 64:=vp (ug r) (fZ (s&&&below (pts r)))
def wC(r:Rl)(s:BitVec 64)(k:Int):BitVec 64:=mQ (fun i=>decide (ug r i&&&s≠0#64)) k.toNat
def CT(r:Rl)(s:BitVec 64):BitVec 64:=wC r s (pts r)
theorem ad1{p:Nat->Bool}{k:Int}(h0:0<=k)(hk:k<64)(h:p k.toNat=true):uf (mQ p k.toNat) k=mQ p (k+1).toNat:=ec fun j hj=>by
 rw[wA,jN,jN]
 by_cases h1:(j:Int)=k
 .have:j=k.toNat:=J
  subst this
  have h2:k.toNat<(k+1).toNat:=J
  rw[gq h2,gq hj,gq h1,h];simp
 have h3:(j<k.toNat)↔(j<(k+1).toNat):=J
 rw[gm h1,show decide (j<k.toNat)=decide (j<(k+1).toNat)from PC.2 h3];simp
theorem ad2{p:Nat->Bool}{k:Int}(h0:0<=k)(h:p k.toNat=false):mQ p k.toNat=mQ p (k+1).toNat:=ec fun j hj=>by
 rw[jN,jN]
 by_cases h1:j=k.toNat
 .subst h1;rw[h];simp
 have h3:(j<k.toNat)↔(j<(k+1).toNat):=J
 rw[show decide (j<k.toNat)=decide (j<(k+1).toNat)from PC.2 h3]
theorem ad3{r:Rl}{s:BitVec 64}{k:Int}(h0:0<=k)(hk:k<64)(h:ug r k&&&s≠0#64):uf (wC r s k) k=wC r s (k+1):=by grind[Rl,ug,uf,wC,ad1]
theorem ad4{r:Rl}{s:BitVec 64}{k:Int}(h0:0<=k)(h:¬ug r k&&&s≠0#64):wC r s k=wC r s (k+1):=by grind[Rl,ug,wC,ad2]
def o3(u:Nat->BitVec 64)(k:Int):Nat->BitVec 64:=fun i=>if(i:Int)<k then uf (u i) i else u i
theorem aaE(n:Int)(u:Nat->BitVec 64):(⟨n,u⟩:Rl)=⟨n,o3 u 0⟩:=by grind[Rl,o3,wB]
theorem ad5{n k:Int}{u:Nat->BitVec 64}(h0:0<=k):Rl.put ⟨n,o3 u k⟩ k.toNat (uf (o3 u k k.toNat) k)=⟨n,o3 u (k+1)⟩:=wB fun i=>by
 show(if i=k.toNat then uf (o3 u k k.toNat) k else o3 u k i)=o3 u (k+1) i
 unfold o3
 by_cases h1:i=k.toNat
 .subst h1
  rw[aR O,aP J,aR J,fF h0]
 rw[aP h1]
 by_cases h2:(i:Int)<k
 .rw[aR h2,aR J]
 rw[aP h2,aP J]
def jo(m:Nat)(k:Int)(u:Nat->BitVec 64):Nat->BitVec 64:=fun i=>if(i:Int)<k/\(u i).getLsbD m=true then u i|||u m else u i
theorem aaF(m:Nat)(n:Int)(u:Nat->BitVec 64):(⟨n,u⟩:Rl)=⟨n,jo m 0 u⟩:=by grind[Rl,jo,wB]
theorem ad6(m:Nat)(k:Int)(u:Nat->BitVec 64):jo m k u m=u m:=by grind[jo]
theorem R9{n m k:Int}{u:Nat->BitVec 64}(m0:0<=m)(h0:0<=k)(h:hasB (jo m.toNat k u k.toNat) m=true):
  Rl.put ⟨n,jo m.toNat k u⟩ k.toNat (jo m.toNat k u k.toNat|||jo m.toNat k u m.toNat)=⟨n,jo m.toNat (k+1) u⟩:=wB fun i=>by
 rw[hasB,cm]at h
 have e:jo m.toNat k u k.toNat=u k.toNat:=aP J
 rw[e]at h⊢
 rw[ad6]
 show(if i=k.toNat then u k.toNat|||u m.toNat else jo m.toNat k u i)=jo m.toNat (k+1) u i
 unfold jo
 by_cases h1:i=k.toNat
 .subst h1
  rw[aR O,aR ⟨J,h.2⟩]
 rw[aP h1]
 have:((i:Int)<k)↔((i:Int)<k+1):=J
 simp only[this]
theorem ad7{n m k:Int}{u:Nat->BitVec 64}(m0:0<=m/\m<64)(h0:0<=k)(h:hasB (jo m.toNat k u k.toNat) m=false):(⟨n,jo m.toNat k u⟩:Rl)=⟨n,jo m.toNat (k+1) u⟩:=by grind[wB,jo,hasB,ym]
def wall(n:Int)(u:Nat->BitVec 64):Nat->Nat->BitVec 64
 |0=>u
 |m+1=>jo m n (wall n u m)
theorem aaG{n m:Int}{u:Nat->BitVec 64}(h:0<=m):(⟨n,jo m.toNat n (wall n u m.toNat)⟩:Rl)=⟨n,wall n u (m+1).toNat⟩:=by
 rw[show(m+1).toNat=m.toNat+1 by omega];rfl
def iG(r:Rl):Rl:=⟨pts r,wall (pts r) (o3 (ed r).up (pts r)) (pts r).toNat⟩
theorem aoW{l:List Int}{x k:Int}(h0:0<=k)(h:k<l.length)(e:l.getD k.toNat 0=x):l.contains x=true:=by grind
theorem atI{l:List Int}{x:Int}(hf:∀j:Int,0<=j->j<l.length->l.getD j.toNat 0≠x):l.contains x=false:=by
 rw[Dt,vi]
 intro h
 obtain⟨i,hi,rfl⟩:=qR h
 refine hf i J J ?_
 simp[ep,hi]
end Go.Proofs.YtlhjdflgjbkpmaaGreatDoor.M
namespace Go.Proofs.YtlhjdflgjbkpmaaGreatDoor.E
section
open Go Go.RowKit Go.Proofs.YtlhjdflgjbkpmaaGreatDoor.M
def uX(r:Rl):List Value:=I r.n::(List.range 64).map fun i=>U (r.up i)
@[irreducible] def dK(r:Rl):Array Value:=(uX r).toArray
theorem iH(r:Rl):dK r=(uX r).toArray:=by unfold dK;rfl
theorem ox(r:Rl):(uX r).length=65:=by simp[uX]
theorem Gg(r:Rl):(dK r).size=65:=by rw[iH];simp[uX]
theorem fp(r:Rl):(dK r)[0]?=some (I r.n):=by rw[iH];simp[uX]
theorem vx(r:Rl){i:Nat}(h:i<64):(dK r)[0+1+i*1]?=some (U (r.up i)):=by
 rw[iH,show 0+1+i*1=i+1 by omega];simp[uX,h]
theorem Kq(r:Rl):∀u∈dK r,u.oneCell'=true:=by
 rw[iH];simp[uX]
 exact⟨rfl,fun _ _=>rfl⟩
theorem xe(r:Rl)(i:Nat)(x:BitVec 64):(dK r).setIfInBounds (0+1+i*1) (U x)=dK (r.put i x):=by
 rw[iH,iH]
 apply Vt
 intro j
 rw[CP]
 simp only[FP,tQ,ox]
 cases j with
 |zero=>
  rw[aP J]
  simp[uX,Rl.put]
 |succ j=>
  simp only[uX,List.getElem?_cons_succ,ph]
  by_cases h:i=j
  .subst h
   rw[aR J]
   by_cases h2:i<64
   .rw[aR J];simp[h2,Rl.put]
   rw[aP J];simp[h2]
  rw[aP J]
  by_cases h2:j<64
  .have h3:¬j=i:=fun e=>h e.symm
   simp[h2,Rl.put,h3]
  simp[h2]
section runs
variable{P:Program}{σ:Env}{w:World}{dst:Option Tmp}{ty t u:TypeId}{pos:String}{bH:Array Edge}{g:Option (Nat×Bool)}{x y:Operand}{b:Nat}{e:TypeId}{r:Rl}{fr:Nat×Nat}
theorem dD{ps:List (Nat×Operand)}{vs:List (Nat×Value)}{cells:Array Value}(h:ps.map (fun p=>(p.1,ev σ p.2))=vs)(hb:P.built t vs=some cells):
 (execOp (ev σ) ⟨dst,.build t ps.toArray,ty,pos,bH,g⟩).run P w= .ok (.value (.agg cells)) w:=Go.Proofs.YtlhjdflgjbkpmaaGreatDoor.E.run_build h hb
theorem bf{c:List Value}(hg:w.heap[b]?=some (.cells c.toArray e fr)):w.rangeAt b 0 c:=fun j v hj=>by
 unfold World.cell?
 simp only[hg]
 simpa using hj
theorem aO{d:TypeDesc}(hu:P.underlying t=some d)(hd:d.isRow=true)(hi:(P.info? t).map (·.size)=some 65)(hx:ev σ x= .pointer (some ⟨b,0,none⟩))
 (hg:w.heap[b]?=some (.cells (dK r) e fr)):(execOp (ev σ) ⟨dst,.load t x,ty,pos,bH,g⟩).run P w= .ok (.value (.agg (dK r))) w:=by grind[iH,cG,ox,bf]
theorem ni{r0:Rl}(hi:(P.info? t).map (·.size)=some 65)(hx:ev σ x= .pointer (some ⟨b,0,none⟩))(hy:ev σ y= .agg (dK r))(hg:w.heap[b]?=some (.cells (dK r0) e (0,0))):
 (execOp (ev σ) ⟨dst,.store t x y,ty,pos,bH,g⟩).run P w= .ok .skip (w.setRow b (dK r)):=by grind[dX,Gg,Kq]
theorem aAy(a b:BitVec 64):(((a.toNat:Nat):Int)==((b.toNat:Nat):Int))=decide (a=b):=by grind[BitVec.eq_of_toNat_eq]
theorem amD(d:Nat){t e:TypeId}{len:Nat}(f h:Nat->BitVec 64)(hu:P.underlying t=some (.array len e))(he:P.underlying e=some (.int .u64))(hs:∀w,(sizeOf e).run P w= .ok 1 w)(ha:∀w,(isAgg e).run P w= .ok false w):
  (Op.equalIn (d+1+1) t (.agg ((List.range len).map fun i=>U (f i)).toArray) (.agg ((List.range len).map fun i=>U (h i)).toArray)).run P w= .ok (decide (∀i,i<len->f i=h i)) w:=by
 unfold Op.equalIn
 simp only[sH,jG hu,wg,hs]
 rw[Std.Legacy.Range.forIn_eq_forIn_range']
 have key:∀(n s:Nat),s+n<=len->(Sem.run P (forIn (List.range' s n 1) ((none:Option Bool),()) fun i __s=>do
      let __do_lift<-part e (List.map (fun i=>U (f i)) (List.range len)).toArray (i*1)
      let Sa<-part e (List.map (fun i=>U (h i)) (List.range len)).toArray (i*1)
      let __do_lift<-Op.equalIn (d+1) e __do_lift Sa
      if(!__do_lift)=true then pure (ForInStep.done (some false,()))else pure (ForInStep.yield (none,()))) w)
   = .ok (if∀i,i<n->f (s+i)=h (s+i)then(none,())else(some false,())) w:=by
  intro n
  induction n with
  |zero=>
   intro s hs2
   have:∀i,i<0->f (s+i)=h (s+i):=fun i b=>by omega
   rw[aR this];rfl
  |succ n ih=>
   intro s hs2
   have hp:∀g:Nat->BitVec 64,(part e (List.map (fun i=>U (g i)) (List.range len)).toArray (s*1)).run P w= .ok (U (g s)) w:=fun g=>by
    simp[part,ha,show s<len by omega]
   rw[List.range'_succ,List.forIn_cons]
   simp only[sH,hp,wg,PD w d e .u64 .u64 _ _ he,aAy]
   by_cases h1:f s=h s
   .rw[gq h1]
    simp only[Bool.not_true,sZ,ww,Sem.run_pure,wg]
    rw[ih (s+1) J]
    by_cases h2:∀i,i<n->f (s+1+i)=h (s+1+i)
    .have h3:∀i,i<n+1->f (s+i)=h (s+i):=fun i a=>by
      cases i with
      |zero=>exact h1
      |succ i=>have:=h2 i J;rwa[show s+1+i=s+(i+1)by omega]at this
     rw[aR h2,aR h3]
    have h3:¬∀i,i<n+1->f (s+i)=h (s+i):=fun h3=>h2 fun i a=>by
     have:=h3 (i+1) J;rwa[show s+(i+1)=s+1+i by omega]at this
    rw[aP h2,aP h3]
   rw[gm h1]
   have h3:¬∀i,i<n+1->f (s+i)=h (s+i):=fun h3=>h1 (h3 0 J)
   rw[aP h3]
   simp only[Bool.not_false,tU,Sem.run_pure,wg]
 have k2:=key len 0 J
 have e0:(Std.Legacy.Range.mk 0 len 1 ay).size=len:=by simp[Std.Legacy.Range.size]
 simp only[e0]
 rw[k2]
 by_cases h2:∀i,i<len->f i=h i
 .have h3:∀i,i<len->f (0+i)=h (0+i):=fun i b=>by rw[gA];exact h2 i b
  rw[aR h3,gq h2];rfl
 have h3:¬∀i,i<len->f (0+i)=h (0+i):=fun h3=>h2 fun i b=>by have:=h3 i b;rwa[gA]at this
 rw[aP h3,gm h2];rfl
theorem aaH(r:Rl):(dK r).extract 1 (1+64)=((List.range 64).map fun i=>U (r.up i)).toArray:=by grind[iH,uX]
structure ajC(P:Program)(t:TypeId)(f0 f1:Field)(e:TypeId):Prop where
 u:P.underlying t=some (.struct (P.fieldsOf t))
 f:P.fieldsOf t=#[f0,f1]
 n0:f0.name≠ "_"
 n1:f1.name≠ "_"
 o0:f0.offset=0
 o1:f1.offset=1
 u0:P.underlying f0.type=some (.int .i64)
 a0:∀w,(isAgg f0.type).run P w= .ok false w
 u1:P.underlying f1.type=some (.array 64 e)
 a1:∀w,(isAgg f1.type).run P w= .ok true w
 s1:∀w,(sizeOf f1.type).run P w= .ok 64 w
 ue:P.underlying e=some (.int .u64)
 se:∀w,(sizeOf e).run P w= .ok 1 w
 ae:∀w,(isAgg e).run P w= .ok false w
 st:P.stoodInHeld t=false
 eg:P.eqGuardType P.depth t=false
theorem ajC.eql{f0 f1:Field}(T:ajC P t f0 f1 e)(a b:Rl)(w:World):(Op.equalIn 10000 t (.agg (dK a)) (.agg (dK b))).run P w= .ok (decide (a.eq b)) w:=by
 rw[run_equalIn_struct w 9999 t _ _ T.u T.st,T.f]
 have p0:∀r:Rl,(part f0.type (dK r) f0.offset).run P w= .ok (I r.n) w:=fun r=>by
  rw[T.o0];have:=fp r;simp[part,T.a0,this]
 have p1:∀r:Rl,(part f1.type (dK r) f1.offset).run P w= .ok (.agg ((List.range 64).map fun i=>U (r.up i)).toArray) w:=fun r=>by
  rw[T.o1,<-aaH];simp[part,T.a1,T.s1]
 have e0:(Op.equalIn 9999 f0.type (I a.n) (I b.n)).run P w= .ok (a.n==b.n) w:=PD w 9998 _ .i64 .i64 _ _ T.u0
 have e1:(Op.equalIn 9999 f1.type (.agg ((List.range 64).map fun i=>U (a.up i)).toArray) (.agg ((List.range 64).map fun i=>U (b.up i)).toArray)).run P w= .ok (decide (∀i:Nat,i<64->a.up i=b.up i)) w:=
  amD 9997 _ _ T.u1 T.ue T.se T.ae
 simp only[Op.eqFields,T.n0,T.n1,ne_eq,VA,tU,sH,p0,e0,wg]
 by_cases h0:a.n=b.n
 .by_cases h1:∀i,i<64->a.up i=b.up i
  .rw[gq h1]at e1
   rw[gq (show a.eq b from⟨h0,h1⟩)];simp[h0,p1,e1]
  rw[gm h1]at e1
  rw[gm (show¬a.eq b from fun h=>h1 h.2)];simp[h0,p1,e1]
 rw[gm (show¬a.eq b from fun h=>h0 h.1)];simp[h0]
theorem DO{f0 f1:Field}{a b:Rl}(T:ajC P t f0 f1 e)(hx:ev σ x= .agg (dK a))(hy:ev σ y= .agg (dK b)):
  (execOp (ev σ) ⟨dst,.binOp .eql t x y u,ty,pos,bH,g⟩).run P w= .ok (.value (.bool (decide (a.eq b)))) w:=by
 have h:=run_eql_struct (P:=P) w t (dK a) (dK b)
 rw[T.eql]at h
 simp only[execOp,hx,hy,sH,VJ w .eql t x y _ _ T.eg,wg]
 simp[h]
structure amE(P:Program)(t:TypeId)(f0 f1:Field):Prop where
 u:P.underlying t=some (.struct (P.fieldsOf t))
 f:P.fieldsOf t=#[f0,f1]
 n0:f0.name≠ "_"
 n1:f1.name≠ "_"
 o0:f0.offset=0
 o1:f1.offset=1
 u0:P.underlying f0.type=some (.int .i64)
 a0:∀w,(isAgg f0.type).run P w= .ok false w
 u1:P.underlying f1.type=some (.int .i64)
 a1:∀w,(isAgg f1.type).run P w= .ok false w
 st:P.stoodInHeld t=false
 eg:P.eqGuardType P.depth t=false
theorem amE.eql{f0 f1:Field}(T:amE P t f0 f1)(a b c d:Int)(w:World):(Op.equalIn 10000 t (.agg #[I a,I b]) (.agg #[I c,I d])).run P w= .ok (decide ((a,b)=(c,d))) w:=by
 rw[run_equalIn_struct w 9999 t _ _ T.u T.st,T.f]
 have p0:∀x y:Int,(part f0.type #[I x,I y] f0.offset).run P w= .ok (I x) w:=fun x y=>by
  rw[T.o0];simp[part,T.a0]
 have p1:∀x y:Int,(part f1.type #[I x,I y] f1.offset).run P w= .ok (I y) w:=fun x y=>by
  rw[T.o1];simp[part,T.a1]
 have e0:(Op.equalIn 9999 f0.type (I a) (I c)).run P w= .ok (a==c) w:=PD w 9998 _ .i64 .i64 _ _ T.u0
 have e1:(Op.equalIn 9999 f1.type (I b) (I d)).run P w= .ok (b==d) w:=PD w 9998 _ .i64 .i64 _ _ T.u1
 simp only[Op.eqFields,T.n0,T.n1,ne_eq,VA,tU,sH,p0,e0,wg]
 by_cases h0:a=c
 .subst h0
  by_cases h1:b=d
  .subst h1;simp[p1,e1]
  simp[p1,e1,h1]
 simp[h0]
theorem ad8{w0 w:World}{fn:Func}{L:List a8}{i p:Nat}{q:Value->World->Prop}{d:TypeDesc}{ty:TypeId}(h:fn.results=#[.cell p ty])(hp:σ p= .pointer (some ⟨b,0,none⟩))(hH:Hp w0 w L)
  (hi:L[i]?=some (.blk b (.cells (dK r) e fr))) (hu:P.underlying ty=some d) (hd:d.isRow=true) (hz:(P.info? ty).map (·.size)=some 65) (hq:q (.agg (dK r)) w):Out P fn q σ w:=
 fun n a ha=>⟨_,results_cell_row h _ w b e (dK r) fr d (by rw[ha.get,hp]) (hH.blk hi) hu (by cases d<;>simp_all) (by rw[Gg];exact hz),hq⟩
def prL(l:List (Int×Int)):List Value:=l.flatMap fun p=>[I p.1,I p.2]
@[simp] theorem atJ(l:List (Int×Int))(a b:Int):prL (l++[(a,b)])=prL l++[I a,I b]:=by simp[prL]
end runs
end
end Go.Proofs.YtlhjdflgjbkpmaaGreatDoor.E
namespace Go.Proofs.YtlhjdflgjbkpmaaGreatDoor.M
theorem ad9(m:Nat)(n:Int)(u:Nat->BitVec 64)(i j:Nat):(jo m n u i).getLsbD j=((u i).getLsbD j||(decide ((i:Int)<n)&&(u i).getLsbD m&&(u m).getLsbD j)):=by grind[jo]
structure Thr(n:Int)(u0 u:Nat->BitVec 64)(m:Nat):Prop where
 DP:∀i j:Nat,(u i).getLsbD j=true->(i:Int)<n/\(j:Int)<n
 base:∀i j:Nat,(u0 i).getLsbD j=true->(u i).getLsbD j=true
 thr:∀k:Nat,k<m->∀i j:Nat,(u i).getLsbD k=true->(u k).getLsbD j=true->(u i).getLsbD j=true
 sound:∀S:Nat->Prop,(∀x y:Nat,S x->(u0 x).getLsbD y=true->S y)->∀x y:Nat,S x->(u x).getLsbD y=true->S y
theorem Thr.pass{n:Int}{u0 u:Nat->BitVec 64}{m:Nat}(h:Thr n u0 u m):Thr n u0 (jo m n u) (m+1):=by
 have bit:∀i j:Nat,(jo m n u i).getLsbD j=true↔((u i).getLsbD j=true\/((u i).getLsbD m=true/\(u m).getLsbD j=true)):=fun i j=>by
  rw[ad9]
  simp only[oR,cm,dP]
  constructor
  .rintro(h1|⟨⟨h1,h2⟩,h3⟩)
   .exact .inl h1
   exact .inr ⟨h2,h3⟩
  rintro(h1|⟨h1,h2⟩)
  .exact .inl h1
  exact .inr ⟨⟨(h.DP _ _ h1).1,h1⟩,h2⟩
 refine⟨fun i j hb=> ?_,fun i j hb=>(bit i j).2 (.inl (h.base i j hb)),fun k hk i j h1 h2=> ?_,fun S hS x y hx hb=> ?_⟩
 .rcases(bit i j).1 hb with h1|⟨h1,h2⟩
  .exact h.DP i j h1
  exact⟨(h.DP i m h1).1,(h.DP m j h2).2⟩
 .rw[bit]at*
  by_cases e:k=m
  .subst e
   have a1:(u i).getLsbD k=true:=by rcases h1 with h1|h1;exact h1;exact h1.1
   have a2:(u k).getLsbD j=true:=by rcases h2 with h2|h2;exact h2;exact h2.2
   exact .inr ⟨a1,a2⟩
  have hk':k<m:=J
  rcases h1 with h1|⟨h1,h1'⟩<;>rcases h2 with h2|⟨h2,h2'⟩
  .exact .inl (h.thr k hk' i j h1 h2)
  .exact .inr ⟨h.thr k hk' i m h1 h2,h2'⟩
  .exact .inr ⟨h1,h.thr k hk' m j h1' h2⟩
  exact .inr ⟨h1,h2'⟩
 rcases(bit x y).1 hb with h1|⟨h1,h2⟩
 .exact h.sound S hS x y hx h1
 exact h.sound S hS m y (h.sound S hS x m hx h1) h2
theorem Thr.wall{n:Int}{u0:Nat->BitVec 64}(hi:∀i j:Nat,(u0 i).getLsbD j=true->(i:Int)<n/\(j:Int)<n):∀m,Thr n u0 (wall n u0 m) m
 |0=>⟨hi,fun _ _ h=>h,fun k hk=>J,fun S hS x y hx hb=>hS x y hx hb⟩
 |m+1=>(Thr.wall hi m).pass
theorem EE(r:Rl)(i j:Nat):(o3 (ed r).up (pts r) i).getLsbD j=true↔((i:Int)<pts r/\(j:Int)<pts r/\(bE r i j=true\/i=j)):=by grind[Rl,o3,ed,pts,bE,dr,CS,ug,wA,tj,p6]
theorem Cc(r:Rl):Thr (pts r) (o3 (ed r).up (pts r)) (iG r).up (pts r).toNat:=Thr.wall (fun i j h=>by have:=(EE r i j).1 h;exact⟨this.1,this.2.1⟩) _
theorem Yw{r:Rl}{u:Nat->BitVec 64}:pts ⟨pts r,u⟩=pts r:=by unfold pts;simp;omega
theorem yg(r:Rl):pts (iG r)=pts r:=Yw
theorem Gt(r:Rl):pts (ed r)=pts r:=Yw
theorem jc{r:Rl}{i j:Int}(h:bE r i j=true):(0<=i/\i<pts r)/\(0<=j/\j<pts r)/\(r.up i.toNat).getLsbD j.toNat=true:=by grind[bE,p6]
theorem IX{r:Rl}{i j:Int}(hi:0<=i/\i<pts r)(hj:0<=j/\j<pts r)(h:(r.up i.toNat).getLsbD j.toNat=true):bE r i j=true:=by grind[bE,p6]
theorem Yx{r:Rl}{i j:Nat}:((iG r).up i).getLsbD j=true↔bE (iG r) i j=true:=by
 constructor
 .intro h
  have:=(Cc r).DP i j h
  exact IX Gi Gi wx
 intro h
 have:=(jc h).2.2;simpa using this
theorem xf{r:Rl}{i:Int}(h:0<=i/\i<pts r):bE (iG r) i i=true:=
 IX Gi Gi ((Cc r).base _ _ ((EE r _ _).2 ⟨J,J,.inr O⟩))
theorem EF{r:Rl}{i j:Int}(h:bE r i j=true):bE (iG r) i j=true:=by
 obtain⟨h1,h2,-⟩:=jc h
 refine IX Gi Gi ((Cc r).base _ _ ((EE r _ _).2 ⟨J,J,.inl ?_⟩))
 rw[fF h1.1,fF h2.1];exact h
theorem mh{r:Rl}{i j k:Int}(h1:bE (iG r) i j=true)(h2:bE (iG r) j k=true):bE (iG r) i k=true:=by
 obtain⟨a1,a2,a3⟩:=jc h1
 obtain⟨b1,b2,b3⟩:=jc h2
 exact IX a1 b2 ((Cc r).thr _ (by rw[yg]at a2;omega) _ _ a3 b3)
theorem Cd{r:Rl}{i j:Int}(h:bE (iG r) i j=true)(S:Int->Prop)(hS:∀x y,S x->bE r x y=true->S y)(hi:S i):S j:=by
 obtain⟨a1,a2,a3⟩:=jc h
 have:=(Cc r).sound (fun x=>S (x:Int)) (fun x y hx hb=>by
  obtain⟨-,-,h1|h1⟩:=(EE r x y).1 hb
  .exact hS _ _ hx h1
  subst h1;exact hx) i.toNat j.toNat (by rw[fF a1.1];exact hi) a3
 rwa[fF a2.1]at this
def scan(r:Rl)(x:Int)(l:List Int):Nat->List Int
 |0=>l
 |b+1=>if(bE r x b&& !(scan r x l b).contains (b:Int))=true then scan r x l b++[(b:Int)]else scan r x l b
def UW(r:Rl):Nat->Nat->List Int->List Int
 |0,_,l=>l
 |f+1,a,l=>if a<l.length then UW r f (a+1) (scan r (l.getD a 0) l (pts r).toNat)else l
def wD(r:Rl)(i:Int):List Int:=if zU r i then UW r 65 0 [i]else[]
theorem NJ{r:Rl}{i:Int}(h:¬(0<=i/\i<pts r)):wD r i=[]:=aP fun h'=>h (p6.1 h')
def Sb(r:Rl)(l:List Int):Prop:=l.Nodup/\∀x∈l,0<=x/\x<pts r
theorem Ce:∀(n:Nat) (l:List Int),l.Nodup->(∀x∈l,0<=x/\x<(n:Int))->l.length<=n
 |0,l,_,h=>by
  cases l with
  |nil=>simp
  |cons x l=>have:=h x aA;omega
 |n+1,l,hn,h=>by
  by_cases hm:(n:Int)∈l
  .have h1:=Ve hm
   have h2:=Ce n (l.erase (n:Int)) (hn.erase _) fun x hx=>by
    have h3:=(hn.mem_erase_iff).1 hx
    have:=h x h3.2;omega
   have:0<l.length:=Pq hm
   omega
  have:=Ce n l hn fun x hx=>by
   have:=h x hx
   have:x≠n:=fun e=>hm (e▸hx)
   omega
  omega
theorem Sb.len{r:Rl}{l:List Int}(h:Sb r l):l.length<=64:=by
 have hp:=dr r
 have:=Ce (pts r).toNat l h.1 fun x hx=>by have:=h.2 x hx;omega
 omega
theorem Sb.one{r:Rl}{i:Int}(h:0<=i/\i<pts r):Sb r [i]:=by grind[Rl,pts,Sb]
theorem Sb.add{r:Rl}{l:List Int}{b:Int}(h:Sb r l)(hb:0<=b/\b<pts r)(hc:l.contains b=false):Sb r (l++[b]):=by grind[Rl,Sb,pts]
theorem Yy{r:Rl}{x:Int}{l:List Int}(h:Sb r l):∀k:Nat,(k:Int)<=pts r->Sb r (scan r x l k)
 |0,_=>h
 |k+1,hk=>by
  have ih:=Yy (x:=x) h k J
  unfold scan
  split
  .rename_i hc
   simp only[cm,AB]at hc
   exact ih.add ⟨J,J⟩ hc.2
  exact ih
theorem Kr{r:Rl}{x:Int}{l:List Int}:∀k:Nat,∃t,scan r x l k=l++t/\∀y∈t,bE r x y=true
 |0=>⟨[],by simp[scan],aA⟩
 |k+1=>by
  obtain⟨t,h1,h2⟩:=Kr (r:=r) (x:=x) (l:=l) k
  unfold scan
  split
  .rename_i hc
   simp only[cm]at hc
   refine⟨t++[(k:Int)],by rw[h1,dg],fun y hy=> ?_⟩
   rcases eF.1 hy with hy|hy
   .exact h2 y hy
   simp at hy;subst hy;exact hc.1
  exact⟨t,h1,h2⟩
theorem Sd{r:Rl}{x:Int}{l:List Int}:∀(k:Nat) (b:Nat),b<k->bE r x b=true->(b:Int)∈scan r x l k
 |0,b,hb,_=>by omega
 |k+1,b,hb,h=>by
  have ih:=Sd (r:=r) (x:=x) (l:=l) k b
  unfold scan
  split
  .rename_i hc
   by_cases e:b=k
   .subst e;simp
   exact dy _ (ih J h)
  rename_i hc
  by_cases e:b=k
  .subst e
   rw[h]at hc;simp at hc;exact hc
  exact ih J h
theorem Yz{r:Rl}(Q:Int->Prop)(hQ:∀x y,Q x->bE r x y=true->Q y):∀(f a:Nat) (l:List Int),(∀x∈l,Q x)->∀x∈UW r f a l,Q x
 |0,a,l,h=>h
 |f+1,a,l,h=>by
  unfold UW
  split
  .rename_i ha
   refine Yz Q hQ f (a+1) _ ?_
   obtain⟨t,h1,h2⟩:=Kr (r:=r) (x:=l.getD a 0) (l:=l) (pts r).toNat
   rw[h1]
   intro y hy
   rcases eF.1 hy with hy|hy
   .exact h y hy
   refine hQ _ _ (h (l.getD a 0) ?_) (h2 y hy)
   rw[ep,dO ha];exact pS _
  exact h
theorem Ks{r:Rl}:∀(f a:Nat) (l:List Int),f+a=65->Sb r l->a<=l.length->(∀k,k<a->∀b,bE r (l.getD k 0) b=true->b∈l)->
  Sb r (UW r f a l)/\(∀x∈l,x∈UW r f a l)/\∀x∈UW r f a l,∀b,bE r x b=true->b∈UW r f a l
 |0,a,l,hf,hok,ha,h=>by have:=hok.len;omega
 |f+1,a,l,hf,hok,ha,h=>by
  have hp:=dr r
  unfold UW
  split
  .rename_i hlt
   obtain⟨t,h1,h2⟩:=Kr (r:=r) (x:=l.getD a 0) (l:=l) (pts r).toNat
   have Se:∀k,k<l.length->(l++t).getD k 0=l.getD k 0:=fun k hk=>by
    rw[ep,ep,xS hk]
   have ih:=Ks f (a+1) (scan r (l.getD a 0) l (pts r).toNat) J (Yy hok _ J) (by rw[h1,cV];omega) (fun k hk b hb=>by
    rw[h1,Se k J]at hb
    by_cases e:k=a
    .subst e
     obtain⟨-,b2,-⟩:=jc hb
     have:=Sd (r:=r) (x:=l.getD k 0) (l:=l) (pts r).toNat b.toNat J (by rw[fF b2.1];exact hb)
     rwa[fF b2.1]at this
    rw[h1];exact dy _ (h k J b hb))
   refine⟨ih.1,fun x hx=>ih.2.1 x (by rw[h1];exact dy _ hx),ih.2.2⟩
  rename_i hge
  refine⟨hok,fun x hx=>hx,fun x hx b hb=> ?_⟩
  obtain⟨k,hk,rfl⟩:=qR hx
  refine h k J b ?_
  rw[ep,dO hk];exact hb
theorem aaI(r:Rl)(i j:Int):j∈wD r i↔bE (iG r) i j=true:=by
 by_cases h:0<=i/\i<pts r
 .rw[wD,aR (p6.2 h)]
  have hc:=Ks 65 0 [i] O (Sb.one h) aA (fun k hk=>J)
  constructor
  .intro hj
   exact Yz (fun x=>bE (iG r) i x=true) (fun x y hx hy=>mh hx (EF hy)) 65 0 [i] (fun x hx=>by simp at hx;subst hx;exact xf h) j hj
  intro hj
  exact Cd hj (fun x=>x∈UW r 65 0 [i]) (fun x y hx hy=>hc.2.2 x hx y hy) (hc.2.1 i aA)
 rw[NJ h]
 constructor
 .intro hj;cases hj
 intro hj
 have:=(jc hj).1
 rw[yg]at this;exact absurd this h
theorem aea{r:Rl}{a:Int}{l:List Int}(h0:0<=a)(h:a<l.length)(hl:l.length<=64):UW r (65-a.toNat) a.toNat l=UW r (65-(a+1).toNat) (a+1).toNat (scan r (l.getD a.toNat 0) l (pts r).toNat):=by
 rw[show 65-a.toNat=(65-(a+1).toNat)+1 by omega,show(a+1).toNat=a.toNat+1 by omega]
 rw[UW,aR J]
theorem YA{r:Rl}{a:Int}{l:List Int}(h0:0<=a)(h:¬a<l.length):UW r (65-a.toNat) a.toNat l=l:=by
 cases 65-a.toNat with
 |zero=>rfl
 |succ f=>rw[UW,aP J]
theorem aeb{r:Rl}{x b:Int}{l:List Int}(h0:0<=b)(h:bE r x b=true)(hc:(scan r x l b.toNat).contains b=false):scan r x l b.toNat++[b]=scan r x l (b+1).toNat:=by
 rw[show(b+1).toNat=b.toNat+1 by omega]
 rw[scan,fF h0,h,hc];rfl
theorem aec{r:Rl}{x b:Int}{l:List Int}(h0:0<=b)(h:bE r x b=false):scan r x l b.toNat=scan r x l (b+1).toNat:=by
 rw[show(b+1).toNat=b.toNat+1 by omega]
 rw[scan,fF h0,h];rfl
theorem aed{r:Rl}{x b:Int}{l:List Int}(h0:0<=b)(hc:(scan r x l b.toNat).contains b=true):scan r x l b.toNat=scan r x l (b+1).toNat:=by
 rw[show(b+1).toNat=b.toNat+1 by omega]
 rw[scan,fF h0,hc];simp
theorem aaJ(r:Rl){i:Nat}(h:(i:Int)<pts r):kq (wD r i)=(iG r).up i:=ec fun j hj=>by
 rw[gD,gq hj,po,gd,Yx,<-aaI]
 simp[Dt]
theorem Sf(r:Rl){i:Nat}(h:¬(i:Int)<pts r):(iG r).up i=0#64:=ec fun j hj=>by
 cases hc:((iG r).up i).getLsbD j with
 |false=>simp
 |true=>exact absurd ((Cc r).DP i j hc).1 h
theorem ajD(r:Rl):CS (pts r) (fun i=>kq (wD r i)) (pts r)=iG r:=by
 refine wB fun i=> ?_
 by_cases h:(i:Int)<pts r
 .rw[aR h];exact aaJ r h
 rw[aP h];exact(Sf r h).symm
theorem aaK(r:Rl):ed (iG r)=iG r:=by
 have hp:=dr r
 unfold ed
 rw[yg]
 refine wB fun i=> ?_
 show(if(i:Int)<pts r then ug (iG r) i else 0#64)=(iG r).up i
 by_cases h:(i:Int)<pts r
 .rw[aR h]
  refine ec fun j hj=> ?_
  rw[tj (iG r) ⟨J,by rw[yg];exact h⟩,gd,Yx]
 rw[aP h];exact(Sf r h).symm
def aee(n:Int):Rl:=⟨pts ⟨n,fun _=>0#64⟩,fun _=>0#64⟩
def aAB(r:Rl)(p:Int×Int):Rl:=if zU r p.1&&zU r p.2 then r.put p.1.toNat (uf (r.up p.1.toNat) p.2)else r
def ofR(n:Int)(l:List (Int×Int)):Rl:=l.foldl aAB (aee n)
def aGn(r:Rl)(i j:Int):Rl:=if zU r i&&zU r j then(ed r).put i.toNat (uf ((ed r).up i.toNat) j)else ed r
def Cf(r:Rl)(i:Int):BitVec 64:=upR r (kq [i])&&&CT r (kq [i])
def fO(r:Rl):Bool:=decide ((ed r).eq (iG r))&&decide (∀i:Nat,i<(pts r).toNat->∀j:Nat,j<i->(bE r i j&&bE r j i)=false)
theorem aaL(r:Rl)(i j:Int):bE (ed r) i j=bE r i j:=by
 have hp:=dr r
 by_cases hi:0<=i/\i<pts r
 .by_cases hj:0<=j/\j<pts r
  .rw[bE,zU,zU,Gt,gq hi,gq hj]
   have e:(ed r).up i.toNat=ug r i:=by
    show(if((i.toNat:Nat):Int)<pts r then ug r (i.toNat:Nat)else 0#64)=ug r i
    rw[fF hi.1,aR hi.2]
   rw[e,tj r hi,fF hj.1];rfl
  rw[Qc (by rw[zU,Gt];exact gm hj),Qc (by rw[zU];exact gm hj)]
 rw[IV (by rw[zU,Gt];exact gm hi),IV (by rw[zU];exact gm hi)]
theorem has_eq{a b:Rl}(h:a.eq b)(i j:Int):bE a i j=bE b i j:=by
 have hp:pts a=pts b:=by unfold pts;rw[h.1]
 have hb:=dr b
 by_cases hi:0<=i/\i<pts b
 .rw[bE,bE,zU,zU,zU,zU,hp,h.2 i.toNat J]
 rw[IV (by rw[zU,hp];exact gm hi),IV (by rw[zU];exact gm hi)]
theorem q9{r:Rl}(h:(ed r).eq (iG r))(i j:Int):bE r i j=bE (iG r) i j:=by rw[<-aaL,has_eq h]
theorem aef(r:Rl)(s:BitVec 64)(j:Nat):(upR r s).getLsbD j=true↔∃i:Int,hasB s i=true/\bE r i j=true:=by
 rw[upR,Gs,Dv]
 constructor
 .rintro⟨i,h1,h2⟩
  rw[fN,hasB,qS,eS,cm,cm,dP,ym,dP]at h1
  have hi:0<=i/\i<pts r:=J
  refine⟨i,by rw[hasB,h1.2.1,ym,gq J];rfl,?_⟩
  rwa[tj r hi]at h2
 rintro⟨i,h1,h2⟩
 have hi:=(jc h2).1
 have hb:=yt h1
 refine⟨i,?_,by rw[tj r hi];exact h2⟩
 rw[fN,hasB,qS,eS]
 rw[hasB,cm]at h1
 rw[h1.1,h1.2,gq J];rfl
theorem Sg{s:BitVec 64}:s≠0#64↔∃i:Nat,s.getLsbD i=true:=by
 constructor
 .intro h
  by_cases hc:∃i:Nat,s.getLsbD i=true
  .exact hc
  refine absurd (ec fun i _=> ?_) h
  cases hb:s.getLsbD i with
  |false=>simp
  |true=>exact absurd ⟨i,hb⟩ hc
 rintro⟨i,h⟩ e
 rw[e]at h;simp at h
theorem Kt(r:Rl)(s:BitVec 64)(j:Nat):(CT r s).getLsbD j=true↔∃i:Int,hasB s i=true/\bE r j i=true:=by
 have hp:=dr r
 rw[CT,wC,jN,cm,cm,dP,dP,dP]
 rw[Sg]
 constructor
 .rintro⟨⟨h1,h2⟩,i,h3⟩
  rw[qS,cm,tj r ⟨J,J⟩]at h3
  have hi:=(jc h3.1).2.1
  exact⟨i,by rw[hasB,ym,gq J];simpa using h3.2,h3.1⟩
 rintro⟨i,h1,h2⟩
 obtain⟨a1,a2,-⟩:=jc h2
 refine⟨⟨J,J⟩,i.toNat,?_⟩
 rw[qS,tj r a1,fF a2.1,h2]
 rw[hasB,cm]at h1
 rw[h1.2];rfl
theorem Si{i j:Int}(h:0<=i/\i<64):hasB (kq [i]) j=true↔j=i:=by grind[fN,yt,hasB,gD,ym]
theorem Ku{r:Rl}{i:Int}(h:0<=i/\i<pts r)(j:Nat):(Cf r i).getLsbD j=true↔(bE r i j=true/\bE r j i=true):=by grind[Rl,pts,Cf,bE,dr,aef,Kt,Si]
theorem aaM{r:Rl}(h:¬(ed r).eq (iG r)):fO r=false:=by grind[fO]
theorem DQ{r:Rl}:(∀i:Nat,i<(pts r).toNat->∀j:Nat,j<i->(bE r i j&&bE r j i)=false)↔∀i j:Int,bE r i j=true->bE r j i=true->i=j:=by
 constructor
 .intro h i j h1 h2
  obtain⟨a1,a2,-⟩:=jc h1
  by_cases e:i=j
  .exact e
  by_cases hlt:j<i
  .have:=h i.toNat J j.toNat J
   rw[fF a1.1,fF a2.1,h1,h2]at this;cases this
  have:=h j.toNat J i.toNat J
  rw[fF a1.1,fF a2.1,h1,h2]at this;cases this
 intro h i hi j hj
 cases h1:bE r i j with
 |false=>rfl
 |true=>
  cases h2:bE r j i with
  |false=>rfl
  |true=>have:=h i j h1 h2;omega
theorem aeg{r:Rl}{k:Int}(hc:(ed r).eq (iG r))(hk:0<=k/\k<pts r)(h:Cf r k≠kq [k]):fO r=false:=by
 rw[fO,Bool.and_eq_false_iff]
 refine .inr (gm fun ha=>h ?_)
 have hp:=dr r
 rw[DQ]at ha
 refine ec fun j hj=> ?_
 rw[gd,Ku hk]
 constructor
 .rintro⟨h1,h2⟩
  have:=ha _ _ h1 h2
  rw[gD];simp[Dt];omega
 intro h1
 have:(j:Int)=k:=by rw[gD]at h1;simp[Dt]at h1;omega
 rw[this,q9 hc,xf hk];simp
theorem aaN{r:Rl}(hc:(ed r).eq (iG r))(h:∀j:Int,0<=j->j<pts r->Cf r j=kq [j]):fO r=true:=by
 rw[fO,gq hc,po,dP,DQ]
 intro i j h1 h2
 obtain⟨a1,a2,-⟩:=jc h1
 have hp:=dr r
 have h3:=(Ku a1 j.toNat).2 (by rw[fF a2.1];exact⟨h1,h2⟩)
 rw[h i a1.1 a1.2,gD]at h3
 simp[Dt]at h3;omega
theorem Kx{r:Rl}{i:Int}(h:0<=i/\i<pts r)(j:Nat):(yq r i).getLsbD j=true↔bE r i j=true/\¬(j:Int)=i:=by
 rw[yq,Nf,tj r h];simp
theorem aeh{n:Int}(j:Nat)(h:(below n).getLsbD j=true):(j:Int)<n:=by grind[eS]
def vz(r:Rl)(s:BitVec 64):BitVec 64:=vp (yq r) (fZ s)&&&s
def Ky(r:Rl):Nat->BitVec 64->Int->Int
 |0,_,n=>n
 |f+1,s,n=>if vz r s=0#64 then n else Ky r f (vz r s) (n+1)
def YB(r:Rl):Int×Bool:=if fO r then(Ky r 65 (below (pts r)) 0,true)else(0,false)
theorem ajE{r:Rl}{s:BitVec 64}(hs:∀j:Nat,s.getLsbD j=true->(j:Int)<pts r)(j:Nat)(h:(vz r s).getLsbD j=true):(j:Int)<pts r:=by grind[vz]
theorem Gu:∀(l m:List Int),l.Nodup->(∀x∈l,x∈m)->l.length<=m.length
 |[],m,_,_=>by simp
 |x::l,m,hn,h=>by
  rw[mM]at hn
  have hx:=h x aA
  have:=Gu l (m.erase x) hn.2 fun y hy=>(List.mem_erase_of_ne (show y≠x from fun e=>hn.1 (by rw[<-e];exact hy))).2 (h y (by simp[hy]))
  have h2:=Ve hx
  have:0<m.length:=Pq hx
  simp;omega
theorem Gv(s:BitVec 64):(fZ s).Nodup:=by
 have:=q7 s
 exact this.imp fun h=>by omega
theorem aei{a b:BitVec 64}{j:Int}(h:∀i:Int,hasB a i=true->hasB b i=true)(hb:hasB b j=true)(ha:hasB a j=false):(fZ a).length<(fZ b).length:=by
 have:=Gu (j::fZ a) (fZ b) (by
  rw[mM]
  exact⟨fun hm=>absurd ((fN _ _).1 hm) (by rw[ha];simp),Gv a⟩) fun x hx=>by
   rcases cT.1 hx with rfl|hx
   .exact(fN _ _).2 hb
   exact(fN _ _).2 (h x ((fN _ _).1 hx))
 simp at this;omega
theorem KA(lt:Int->Int->Prop)(hi:∀x,¬lt x x)(ht:∀x y z,lt x y->lt y z->lt x z):∀l:List Int,l≠[]->∃m∈l,∀x∈l,¬lt x m
 |[],h=>absurd O h
 |[a],_=>⟨a,aA,fun x hx=>by simp at hx;subst hx;exact hi _⟩
 |a::b::l,_=>by
  obtain⟨m,hm,h⟩:=KA lt hi ht (b::l) aA
  by_cases ha:lt a m
  .refine⟨a,aA,fun x hx=> ?_⟩
   rcases cT.1 hx with rfl|hx
   .exact hi _
   exact fun hxa=>h x hx (ht _ _ _ hxa ha)
  refine⟨m,fq _ hm,fun x hx=> ?_⟩
  rcases cT.1 hx with rfl|hx
  .exact ha
  exact h x hx
theorem uh{r:Rl}(h:fO r=true):(ed r).eq (iG r)/\∀i j:Int,bE r i j=true->bE r j i=true->i=j:=by
 rw[fO,cm,dP,dP,DQ]at h;exact h
theorem rT{r:Rl}(h:fO r=true){i j k:Int}(h1:bE r i j=true)(h2:bE r j k=true):bE r i k=true:=by grind[uh,q9,mh]
theorem eL(a b:BitVec 64)(i:Int):hasB (a&&&b) i=(hasB a i&&hasB b i):=by grind[hasB,ym]
theorem IY(a b:BitVec 64)(i:Int):hasB (a|||b) i=(hasB a i||hasB b i):=by grind[hasB,ym]
theorem Sj{s:BitVec 64}{i:Int}(h:hasB s i=true):s.getLsbD i.toNat=true:=by grind[hasB]
theorem ajF{s:BitVec 64}{j:Nat}(h:s.getLsbD j=true):hasB s j=true:=by grind[hasB,ym]
theorem ajG{r:Rl}{s:BitVec 64}(ho:fO r=true)(hs:∀j:Nat,s.getLsbD j=true->(j:Int)<pts r)(h:¬vz r s=0#64):(fZ (vz r s)).length<(fZ s).length:=by
 have hne:fZ s≠[]:=fun e=>by
  rw[yp]at e;subst e
  exact h (by rw[vz];simp)
 obtain⟨m,hm,hmin⟩:=KA (fun x y=>bE r x y=true/\x≠y) (fun x hx=>hx.2 O) (fun x y z h1 h2=>⟨rT ho h1.1 h2.1,fun e=>by
  subst e
  exact h1.2 ((uh ho).2 _ _ h1.1 h2.1)⟩) (fZ s) hne
 rw[fN]at hm
 refine aei (j:=m) (fun i hi=>by rw[vz,eL,cm]at hi;exact hi.2) hm ?_
 cases hc:hasB (vz r s) m with
 |false=>rfl
 |true=>
  rw[vz,eL,cm]at hc
  have h1:=Sj hc.1
  rw[Gs,Dv]at h1
  obtain⟨x,hx,hb⟩:=h1
  have hxs:=(fN _ _).1 hx
  have hbd:=yt hxs
  have hxp:=hs _ (Sj hxs)
  have hmb:=yt hm
  rw[Kx ⟨hbd.1,J⟩,fF hmb.1]at hb
  exact absurd ⟨hb.1,fun e=>hb.2 e.symm⟩ (hmin x hx)
def aAC(r:Rl)(i:Int):BitVec 64:=yq r i&&& ~~~vp (yq r) (fZ (yq r i))
def aej(r:Rl)(k:Int):List (Int×Int):=(upto k).flatMap fun i=>(fZ (aAC r i)).map fun y=>(i,y)
def azu(r:Rl):List (Int×Int):=if fO r then aej r (pts r)else[]
def aAD:Rl:=⟨3,fun i=>[7#64,6#64,4#64].getD i 0#64⟩
def aGo(p:Int->Bool)(l:List Int)(a:Int):Bool:=(l.take a.toNat).any p
theorem aaO{r:Rl}{k:Int}(hk:¬k<pts r)(hf:∀i j:Int,0<=j->j<i->i<k->(bE r i j&&bE r j i)=false):fO r=decide ((ed r).eq (iG r)):=by grind[fO,pts,bE]
theorem Sk{r:Rl}{i j:Int}(h1:bE r i j=true)(h2:bE r j i=true)(h:j<i):fO r=false:=by grind[fO,uh]
def Sm(r:Rl)(k j:Int):Bool:=(upto j).all fun x=> !(bE r k x&&bE r x k)
def zB(r:Rl)(k:Int):Int:=(((upto k).filter fun i=>Sm (iG r) i i).length:Nat)
theorem aoY{r:Rl}{k:Int}(h0:0<=k):0<=zB r k/\zB r k<=k:=by grind[Sm,iG,upto,rS,zB]
theorem kr{s:BitVec 64}{j:Int}:hasB s j=true↔(0<=j/\j<64)/\s.getLsbD j.toNat=true:=by grind[hasB,ym]
theorem KB(f:Int->BitVec 64)(l:List Int)(j:Int):hasB (vp f l) j=true↔∃i∈l,hasB (f i) j=true:=by grind[kr,Gs]
theorem ku{r:Rl}{i j:Int}(h:bE r i j=true):(0<=i/\i<pts r)/\(0<=j/\j<pts r):=by have:=jc h;exact⟨this.1,this.2.1⟩
theorem KC{r:Rl}{i:Int}(h:0<=i/\i<pts r)(j:Int):hasB (yq r i) j=true↔bE r i j=true/\j≠i:=by grind[kr,Kx,ku,dr]
theorem nj(n j:Int):hasB (below n) j=true↔0<=j/\j<64/\j<n:=by grind[kr,eS]
def xP(r:Rl):Nat->BitVec 64
 |0=>below (pts r)
 |k+1=>vz r (xP r k)
theorem Qd(r:Rl):∀k j:Nat,(xP r k).getLsbD j=true->(j:Int)<pts r
 |0,j,h=>aeh j h
 |k+1,j,h=>ajE (Qd r k) j h
theorem aek{r:Rl}{k:Nat}{j:Int}(h:hasB (xP r k) j=true):0<=j/\j<pts r:=by
 have:=kr.1 h
 have h2:=Qd r k _ this.2
 omega
theorem IZ{r:Rl}(k:Nat)(j:Int):hasB (xP r (k+1)) j=true↔hasB (xP r k) j=true/\∃i:Int,hasB (xP r k) i=true/\bE r i j=true/\j≠i:=by
 rw[xP,vz,eL,cm,KB,and_comm]
 refine VK fun hj=> ?_
 constructor
 .rintro⟨i,hi,h⟩
  have hi2:=(fN _ _).1 hi
  exact⟨i,hi2,(KC (aek hi2) j).1 h⟩
 rintro⟨i,hi,h⟩
 exact⟨i,(fN _ _).2 hi,(KC (aek hi) j).2 h⟩
theorem ael{r:Rl}:∀(k:Nat) {i j:Int},hasB (xP r k) i=true->bE r i j=true->j≠i->hasB (xP r (k+1)) j=true
 |0,i,j,hi,h,hne=>by
  have hb:=ku h;have hp:=dr r
  exact(IZ 0 j).2 ⟨(nj _ _).2 J,i,hi,h,hne⟩
 |k+1,i,j,hi,h,hne=>by
  have h1:=(IZ k i).1 hi
  exact(IZ (k+1) j).2 ⟨ael k h1.1 h hne,i,hi,h,hne⟩
theorem Sn{r:Rl}{j:Int}{a b:Nat}(h:a<=b)(hb:hasB (xP r b) j=true):hasB (xP r a) j=true:=by
 induction b with
 |zero=>rwa[show a=0 by omega]
 |succ b ih=>
  by_cases he:a=b+1
  .rwa[he]
  exact ih J ((IZ b j).1 hb).1
theorem uj(j:Int):hasB 0#64 j=false:=by rw[hasB];simp
theorem aoZ{r:Rl}{k:Nat}(h:xP r (k+1)≠0#64):xP r k≠0#64:=by grind[xP,vz]
theorem Ws{s:BitVec 64}{n:Int}(h0:0<=n)(h:∀j:Nat,s.getLsbD j=true->(j:Int)<n):(fZ s).length<=n.toNat:=
 Ce n.toNat (fZ s) (Gv s) fun x hx=>by
  have h1:=kr.1 ((fN _ _).1 hx)
  have:=h _ h1.2
  omega
theorem YC{s:BitVec 64}(h:s≠0#64):0<(fZ s).length:=by grind[yp]
theorem I0{r:Rl}(ho:fO r=true):∀k:Nat,xP r k≠0#64->(fZ (xP r k)).length+k<=(pts r).toNat
 |0,_=>by have:=Ws (dr r).1 (Qd r 0);omega
 |k+1,h=>by
  have h1:=I0 ho k (aoZ h)
  have h2:(fZ (xP r (k+1))).length<(fZ (xP r k)).length:=ajG ho (Qd r k) h
  omega
theorem YD{s:BitVec 64}{j:Int}(h:hasB s j=true):s≠0#64:=by grind[uj]
theorem aem{r:Rl}(ho:fO r=true){k:Nat}{j:Int}(h:hasB (xP r k) j=true):(k:Int)<pts r:=by
 have h1:=I0 ho k (YD h)
 have h2:=YC (YD h)
 have:=dr r
 omega
theorem Gw{r:Rl}(ho:fO r=true):∀f k:Nat,f+k=65->(k=0\/xP r k≠0#64)->∃m:Nat,Ky r f (xP r k) k=(m:Int)/\xP r (m+1)=0#64/\(m=0\/xP r m≠0#64)
 |0,k,h,h2=>by
  have hp:=dr r
  rcases h2 with h2|h2
  .omega
  have:=I0 ho k h2;omega
 |f+1,k,h,h2=>by
  by_cases hs:vz r (xP r k)=0#64
  .exact⟨k,by rw[Ky,aR hs],hs,h2⟩
  obtain⟨m,h3,h4⟩:=Gw ho f (k+1) J (.inr hs)
  refine⟨m,?_,h4⟩
  rw[Ky,aP hs,<-h3];rfl
def aGp(r:Rl)(F:Nat->Int):Prop:=∀j:Int,0<=j->j<pts r->0<=F j.toNat/\hasB (xP r (F j.toNat).toNat) j=true
def Wt(F:Nat->Int)(i:Nat)(x:Int):Nat->Int:=fun j=>if j=i then x else F j
theorem aen{F:Nat->Int}{i:Nat}{x:Int}(h:F i<=x)(k:Nat):F k<=Wt F i x k:=by grind[Wt]
def rf(r:Rl)(F0 F:Nat->Int)(i k:Int):Prop:=∀j:Int,j<k->bE r i j=true->i≠j->F0 i.toNat+1<=F j.toNat
def yu(r:Rl)(F0 F:Nat->Int)(k:Int):Prop:=∀i:Int,i<k->rf r F0 F i (pts r)
def NQ(F0 F:Nat->Int):Prop:=∀k,F0 k<=F k
theorem NQ.refl(F:Nat->Int):NQ F F:=fun _=>kY _
theorem NQ.put{F0 F:Nat->Int}{i:Nat}{x:Int}(h:NQ F0 F)(hx:F i<=x):NQ F0 (Wt F i x):=by grind[NQ,Wt,aen]
theorem rf.put{r:Rl}{F0 F:Nat->Int}{i k:Int}{j:Nat}{x:Int}(h:rf r F0 F i k)(hx:F j<=x):rf r F0 (Wt F j x) i k:=by grind[Rl,rf,Wt,aen]
theorem yu.put{r:Rl}{F0 F:Nat->Int}{k:Int}{j:Nat}{x:Int}(h:yu r F0 F k)(hx:F j<=x):yu r F0 (Wt F j x) k:=fun i hi=>(h i hi).put hx
theorem rf.next{r:Rl}{F0 F:Nat->Int}{i k:Int}(h:rf r F0 F i k)(hk:bE r i k=true->i≠k->F0 i.toNat+1<=F k.toNat):rf r F0 F i (k+1):=by grind[Rl,rf,bE]
theorem rf.none(r:Rl)(F0 F:Nat->Int)(i:Int):rf r F0 F i 0:=fun j h1 h2 _=>by have:=(ku h2).2;omega
theorem yu.none(r:Rl)(F0 F:Nat->Int):yu r F0 F 0:=fun i hi j _ h2 _=>by have:=(ku h2).1;omega
theorem yu.next{r:Rl}{F0 F:Nat->Int}{i k:Int}(h:yu r F0 F i)(hk:¬k<pts r)(h2:rf r F0 F i k):yu r F0 F (i+1):=by grind[Rl,yu,pts,rf]
def aGq(r:Rl)(F:Nat->Int)(k:Int):Prop:=∀(v:Nat) (j:Int),(v:Int)<=k->hasB (xP r v) j=true->(v:Int)<=F j.toNat
def aAE(r:Rl)(i j k:Int):Bool:=(upto k).any fun x=>decide (x≠i)&&decide (x≠j)&&bE r i x&&bE r x j
def aAF(r:Rl)(i j:Int):Bool:=decide (i≠j)&&bE r i j&& !aAE r i j (pts r)
def aAG(r:Rl)(i k:Int):List (Int×Int):=((upto k).filter (aAF r i ·)).map fun y=>(i,y)
theorem vA(k:Int):(upto k).Pairwise (· <·):=by
 rw[upto,FU]
 exact Vi.imp fun h=>by omega
def Tidy(r:Rl):Prop:=r.n=pts r/\∀i j:Nat,(r.up i).getLsbD j=true->(i:Int)<pts r/\(j:Int)<pts r
theorem Tidy.plain{r:Rl}(h:Tidy r):ed r=r:=by
 obtain⟨n,u⟩:=r
 have hn:n=pts ⟨n,u⟩:=h.1
 show(⟨pts ⟨n,u⟩,_⟩:Rl)=⟨n,u⟩
 rw[<-hn]
 refine wB fun i=>ec fun j hj=> ?_
 rw[gd]
 by_cases hi:(i:Int)<n
 .rw[aR hi,Yv,cm,dP]
  exact⟨fun h2=>h2.1,fun h2=>⟨h2,J,(h.2 i j h2).2⟩⟩
 rw[aP hi]
 constructor
 .intro h2;simp at h2
 intro h2;exact absurd (by have:=(h.2 i j h2).1;rw[<-hn]at this;exact this) hi
def inQ(n:Int)(q:Int×Int):Bool:=decide (0<=q.1/\0<=q.2/\q.1<pts ⟨n,fun _=>0#64⟩/\q.2<pts ⟨n,fun _=>0#64⟩)
def inR(r:Rl)(q:Int×Int):Bool:=decide (0<=q.1/\0<=q.2/\q.1<pts r/\q.2<pts r)
def aAH(n:Int)(p:Int×Int)(l:List (Int×Int))(k:Int):Bool:=(l.take k.toNat).any fun q=>decide (q=p)&&inQ n q
end Go.Proofs.YtlhjdflgjbkpmaaGreatDoor.M
namespace Go.Proofs.YtlhjdflgjbkpmaaGreatDoor.E
section
open Go Go.RowKit Go.Proofs.YtlhjdflgjbkpmaaGreatDoor.M
section ext
variable{w0 w:World}{L:List a8}{b off:Nat}{c:Array Value}{e:TypeId}{fr:Nat×Nat}{v:Value}{o:Obj}
theorem keep{o:Obj}(hb:Below w0.heap.size w0 w)(h:w0.heap[b]?=some o):w.heap[b]?=some o:=by
 rw[hb.block b (Ay.1 h).1];exact h
theorem Hp.ext(h:Hp w0 w L)(hb:w0.heap[b]?=some o):w.heap[b]?=some o:=by
 rw[h.below.block b (Ay.1 hb).1];exact hb
theorem Hp.dY(h:Hp w0 w L)(hb:w0.heap[b]?=some (.cells c e fr))(hc:c[off]?=some v):w.cell? ⟨b,off,none⟩=some v:=by
 rw[wu w b off c e fr (h.ext hb)];exact hc
end ext
def aAI(f:Nat->Int):List Value:=(List.range 64).map fun i=>I (f i)
@[irreducible] def aJg(f:Nat->Int):Array Value:=(aAI f).toArray
section runs
variable{P:Program}{σ:Env}{w:World}{dst:Option Tmp}{ty t u:TypeId}{pos:String}{bH:Array Edge}{g:Option (Nat×Bool)}{x y:Operand}{b:Nat}{e:TypeId}{r:Rl}{fr:Nat×Nat}
theorem EG{sz:Nat}(hu:P.underlying t=some (.slice e))(hs:∀w,(sizeOf e).run P w= .ok sz w):
  (execOp (ev σ) ⟨dst,.buildSlice t 0 #[],ty,pos,bH,g⟩).run P w= .ok (.value (.slice (some ⟨w.heap.size,0,none⟩) 0 0)) (w.alloc (.cells #[] e)):=by
 have h:(Instr.buildSlice t 0 #[]).run P w= .ok (.slice (some ⟨w.heap.size,0,none⟩) 0 0) (w.alloc (.cells #[] e)):=by
  simp[Instr.buildSlice,jG hu,hs,Instr.fill,newRow,newObj,Sem.run,show Array.range 0=#[]by decide]
 simp[execOp,h]
def rlL(l:List Rl):List Value:=l.flatMap uX
theorem DR{f:FuncId}{cs vs:List Value}{HO:List Operand}{ats:Array TypeId}(hf:∀args w,(callFunc f args).run P w= .ok (.enter f args) w)(hx:ev σ x= .func (.func f) #[] cs.toArray)(h:HO.map (ev σ)=vs):
  (execOp (ev σ) ⟨dst,.call {callee:= .value x,args:=HO.toArray,argTypes:=ats},ty,pos,bH,g⟩).run P w= .ok (.enter f (vs++cs).toArray) w:=by
 have:=NK (P:=P) (w:=w) (dst:=dst) (ty:=ty) (pos:=pos) (bH:=bH) (g:=g) (ats:=ats) hf hx h
 rw[this,List.append_toArray]
theorem KD{f:FuncId}{cs:List Value}{ats:Array TypeId}(hf:∀args w,(callFunc f args).run P w= .ok (.enter f args) w)(hx:ev σ x= .func (.func f) #[] cs.toArray):
 (execOp (ev σ) ⟨dst,.call {callee:= .value x,args:=#[],argTypes:=ats},ty,pos,bH,g⟩).run P w= .ok (.enter f cs.toArray) w:=DR (HO:=[]) hf hx O
theorem kH{f:FuncId}{cs:List Value}{v1:Value}{x1:Operand}{ats:Array TypeId}(hf:∀args w,(callFunc f args).run P w= .ok (.enter f args) w)(hx:ev σ x= .func (.func f) #[] cs.toArray)(h1:ev σ x1=v1):
 (execOp (ev σ) ⟨dst,.call {callee:= .value x,args:=#[x1],argTypes:=ats},ty,pos,bH,g⟩).run P w= .ok (.enter f (v1::cs).toArray) w:=DR (HO:=[x1]) (vs:=[v1]) hf hx (by simp[h1])
theorem iw{f:FuncId}{cs:List Value}{v1 v2:Value}{x1 x2:Operand}{ats:Array TypeId}(hf:∀args w,(callFunc f args).run P w= .ok (.enter f args) w)(hx:ev σ x= .func (.func f) #[] cs.toArray)(h1:ev σ x1=v1)(h2:ev σ x2=v2):
 (execOp (ev σ) ⟨dst,.call {callee:= .value x,args:=#[x1,x2],argTypes:=ats},ty,pos,bH,g⟩).run P w= .ok (.enter f (v1::v2::cs).toArray) w:=DR (HO:=[x1,x2]) (vs:=[v1,v2]) hf hx (by simp[h1,h2])
end runs
section atK
variable{P:Program}{n:Nat}{l:List Oper}{k:K}{σ:Env}{w w0:World}{L' UU:List a8}{fuel i d:Nat}{listed:Array Bool}{ty:TypeId}{pos:String}{bH:Array Edge}{g:Option (Nat×Bool)}{x y:Operand}
theorem k8{t e:TypeId}{j:Nat}{ie:TypeInfo}{z:Value}{size bytes:Nat}{v u:Value}{m m':Nat}{xs news:List Value}(hi:l[i]?=some ⟨some d,.call {callee:= .builtin .append,args:=#[x,y],argTypes:=#[t,t]},ty,pos,bH,g⟩)
  (hg:∀a,Is n σ a->Region.wanted ⟨some d,.call {callee:= .builtin .append,args:=#[x,y],argTypes:=#[t,t]},ty,pos,bH,g⟩ (yielded l.toArray a.tmps)=true) (hd:Nat.blt d n=true) (hH:Hp w0 w UU) (hL:UU[j]?=some (.row v e size m xs))
  (hs:∀v',L'.Sublist (UU.set j (.row v' e size (m+m') (xs++news)))) (hS:Sl w u size m' news)
  (hx:ev σ x=v) (hy:ev σ y=u) (ht:P.underlying t=some (.slice e)) (hie:P.info? e=some ie) (hz:ie.zero=some z)
  (hsize:ie.size=size) (hby:ie.bytes=bytes) (hzs:z.cells.size=size) (hsz:0<size) (h1:∀u∈news,u.oneCell'=true)
  (hbytes:(m+m')*bytes<=140737488355328) (h63:m+m'<=maxLen)
  (hk:∀v' w',Hp w0 w' (UU.set j (.row v' e size (m+m') (xs++news)))->AN P n l (fun w=>Hp w0 w L') k fuel (listed.setIfInBounds i true) (k7 σ d v') w'):AO P n l (fun w=>Hp w0 w L') k fuel listed σ w i:=by
 obtain⟨v',w',hr,h2,h3,h4⟩:=rQ (P:=P) (ty:=ty) ht hie hz hsize hby hzs hsz (hH.get hL) hS h1 h63 hbytes hH.size
 have hH':=hH.xd hL h2 h3 h4
 exact A4 hi hg hd (rN hx hy hr) (hH'.sub (hs v')) (hk v' w' hH')
end atK
end
end Go.Proofs.YtlhjdflgjbkpmaaGreatDoor.E
namespace Go.Proofs.YtlhjdflgjbkpmaaGreatDoor.M
def uk(P:Int->Bool)(n:Int):Int×Bool:=match(upto n).find? P with
 |some u=>(u,true)
 |none=>(0,false)
theorem aaP{n:Int}:∀(k:Nat),(k:Int)<=n->upto n=upto k++((List.range (n.toNat-k)).map fun(i:Nat)=>((k+i:Nat):Int)):=fun k h=>by
 rw[upto,upto,show n.toNat=k+(n.toNat-k)by omega,VN,gp]
 simp
theorem pw{P:Int->Bool}{n k:Int}(h0:0<=k)(hk:k<n)(hp:P k=true)(hf:∀j:Int,0<=j->j<k->P j=false):uk P n=(k,true):=by
 have h:(upto n).find? P=some k:=by
  rw[aaP k.toNat J,List.find?_append]
  have h1:(upto (k.toNat:Int)).find? P=none:=by
   rw[List.find?_eq_none]
   intro x hx
   have:=cH.1 hx
   rw[hf x this.1 J];simp
  rw[h1,show n.toNat-k.toNat=(n.toNat-k.toNat-1)+1 by omega,Vj]
  simp only[Option.none_or,kV,JP,fF h0,List.find?_cons,hp]
 rw[uk,h]
theorem rU{P:Int->Bool}{n:Int}(hf:∀j:Int,0<=j->j<n->P j=false):uk P n=(0,false):=by grind[upto,cH,uk]
theorem mR(P:Int->Bool)(n:Int):(∃k:Int,0<=k/\k<n/\P k=true/\(∀j:Int,0<=j->j<k->P j=false)/\uk P n=(k,true))\/((∀j:Int,0<=j->j<n->P j=false)/\uk P n=(0,false)):=by
 have key:∀m:Nat,(∃k:Int,0<=k/\k<m/\P k=true/\∀j:Int,0<=j->j<k->P j=false)\/∀j:Int,0<=j->j<m->P j=false:=fun m=>by
  induction m with
  |zero=>exact .inr fun j h1 h2=>by omega
  |succ m ih=>
   rcases ih with⟨k,h1,h2,h3,h4⟩|h
   .exact .inl ⟨k,h1,J,h3,h4⟩
   .cases hm:P m with
    |true=>exact .inl ⟨m,J,J,hm,h⟩
    |false=>
     refine .inr fun j h1 h2=> ?_
     by_cases e:j=m
     .rw[e];exact hm
     exact h j h1 J
 rcases key n.toNat with⟨k,h1,h2,h3,h4⟩|h
 .exact .inl ⟨k,h1,J,h3,h4,pw h1 J h3 h4⟩
 exact .inr ⟨fun j h1 h2=>h j h1 J,rU fun j h1 h2=>h j h1 J⟩
def ig(r:Rl)(i:Int):BitVec 64:=upR r (kq [i])
def bN(r:Rl)(i:Int):BitVec 64:=if zU r i then CT r (kq [i])else 0#64
theorem Qe(i j:Int):hasB (kq [i]) j=true↔j=i/\0<=i/\i<64:=by grind[yt,hasB,gD,Si]
theorem eA(r:Rl)(i j:Int):hasB (ig r i) j=bE r i j:=by
 have hp:=dr r
 rw[gd,kr,ig,aef]
 constructor
 .rintro⟨h1,x,h2,h3⟩
  rw[fF h1.1]at h3
  rw[<-((Qe i x).1 h2).1];exact h3
 intro h
 have hb:=ku h
 refine⟨J,i,(Qe i i).2 ⟨rfl,J⟩,?_⟩
 rw[fF hb.2.1];exact h
theorem aeo(r:Rl)(i j:Int):hasB (CT r (kq [i])) j=bE r j i:=by
 have hp:=dr r
 rw[gd,kr,Kt]
 constructor
 .rintro⟨h1,x,h2,h3⟩
  rw[fF h1.1]at h3
  rw[<-((Qe i x).1 h2).1];exact h3
 intro h
 have hb:=ku h
 refine⟨J,i,(Qe i i).2 ⟨rfl,J⟩,?_⟩
 rw[fF hb.1.1];exact h
theorem dA(r:Rl)(i j:Int):hasB (bN r i) j=bE r j i:=by grind[bN,zU,aeo,uj,Qc]
theorem tw{a b:BitVec 64}(h:∀j:Int,hasB a j=hasB b j):a=b:=ec fun j hj=>by
 have:=h j
 rw[hasB,hasB,ym,gq J]at this
 simpa using this
theorem ez{a b:BitVec 64}:dS a b=true↔∀j:Int,hasB a j=true->hasB b j=true:=by
 rw[EB]
 constructor
 .intro h j hj
  have:=kr.1 hj
  exact kr.2 ⟨this.1,h _ J this.2⟩
 intro h i hi hb
 have:=kr.1 (h i (ajF hb))
 simpa using this.2
def mS(g:Int->BitVec 64)(i j u:Int):Bool:=hasB (g i&&&g j) u&&dS (g i&&&g j) (g u)
def zC(g:Int->BitVec 64)(n i j:Int):Int×Bool:=uk (mS g i j) n
theorem atM{s:BitVec 64}{a b:Int}(h0:0<=a)(hb:b<(fZ s).length)(h:a<b):(fZ s).getD a.toNat 0<(fZ s).getD b.toNat 0:=by grind[List.pairwise_iff_getElem,q7,List.getElem?_eq_getElem]
theorem YE{s:BitVec 64}{j:Int}(h:hasB s j=true):∃a:Int,0<=a/\a<(fZ s).length/\(fZ s).getD a.toNat 0=j:=by
 obtain⟨k,hk,he⟩:=qR ((fN _ _).2 h)
 refine⟨k,J,J,?_⟩
 rw[ep,dW,dO hk,he];rfl
theorem aep{g:Int->BitVec 64}{n i j a:Int}(hn:∀u,hasB (g i&&&g j) u=true->u<n)(a0:0<=a)(a1:a<(fZ (g i&&&g j)).length)(h:dS (g i&&&g j) (g ((fZ (g i&&&g j)).getD a.toNat 0))=true)
  (hf:∀b:Int,0<=b->b<a->dS (g i&&&g j) (g ((fZ (g i&&&g j)).getD b.toNat 0))=false):zC g n i j=((fZ (g i&&&g j)).getD a.toNat 0,true):=by
 have h1:=Wq a0 a1
 have h2:=NO a0 a1
 refine pw h2.1 (hn _ h1) (by rw[mS,h1,h];rfl) fun x x0 x1=> ?_
 rw[mS]
 cases hc:hasB (g i&&&g j) x with
 |false=>rfl
 |true=>
  obtain⟨b,b0,b1,hb⟩:=YE hc
  have hba:b<a:=by
   rcases VB b a with h3|h3|h3
   .exact h3
   .subst h3;omega
   have:=atM a0 b1 h3;omega
  rw[<-hb,hf b b0 hba];rfl
theorem ajH{g:Int->BitVec 64}{n i j a:Int}(a1:¬a<(fZ (g i&&&g j)).length)(hf:∀b:Int,0<=b->b<a->dS (g i&&&g j) (g ((fZ (g i&&&g j)).getD b.toNat 0))=false):zC g n i j=(0,false):=by grind[fZ,dS,zC,rU,mS,hasB,YE]
def iC(r:Rl)(i j:Int):Int×Bool:=zC (ig r) (pts r) i j
def pZ(r:Rl)(i j:Int):Int×Bool:=zC (bN r) (pts r) i j
theorem aeq{r:Rl}{i j u:Int}(h:hasB (ig r i&&&ig r j) u=true):u<pts r:=by
 rw[eL,cm,eA]at h;exact(ku h.1).2.2
theorem aaQ{r:Rl}{i j u:Int}(h:hasB (bN r i&&&bN r j) u=true):u<pts r:=by
 rw[eL,cm,dA]at h;exact(ku h.1).1.2
def CU(r:Rl)(i j u v:Int):Bool:=bE r i u&&bE r j u&&(upto v).all fun x=> !(bE r i x&&bE r j x&& !bE r u x)
def CV(r:Rl)(i j u v:Int):Bool:=bE r u i&&bE r u j&&(upto v).all fun x=> !(bE r x i&&bE r x j&& !bE r x u)
theorem VX{r:Rl}{i j u v:Int}(h0:0<=v):CU r i j u (v+1)=(CU r i j u v&& !(bE r i v&&bE r j v&& !bE r u v)):=by grind[CU,j9]
theorem VY{r:Rl}{i j u v:Int}(h0:0<=v):CV r i j u (v+1)=(CV r i j u v&& !(bE r v i&&bE r v j&& !bE r v u)):=by grind[CV,j9]
theorem Gx(r:Rl)(i j u:Int){v:Int}(hv:v=pts r):mS (ig r) i j u=CU r i j u v:=by
 subst hv
 rw[mS,CU,eL,eA,eA,gd,cm,cm (_&&_)]
 refine VK fun _=> ?_
 rw[ez,iq]
 constructor
 .intro h x hx
  have:=h x
  rw[eL,eA,eA,eA,cm]at this
  cases h1:bE r i x with
  |false=>rfl
  |true=>cases h2:bE r j x with
   |false=>rfl
   |true=>rw[this ⟨h1,h2⟩];rfl
 intro h x hx
 rw[eL,eA,eA,cm]at hx
 have h3:=h x (cH.2 (ku hx.1).2)
 rw[hx.1,hx.2]at h3
 rw[eA];simpa using h3
theorem Gy(r:Rl)(i j u:Int){v:Int}(hv:v=pts r):mS (bN r) i j u=CV r i j u v:=by
 subst hv
 rw[mS,CV,eL,dA,dA,gd,cm,cm (_&&_)]
 refine VK fun _=> ?_
 rw[ez,iq]
 constructor
 .intro h x hx
  have:=h x
  rw[eL,dA,dA,dA,cm]at this
  cases h1:bE r x i with
  |false=>rfl
  |true=>cases h2:bE r x j with
   |false=>rfl
   |true=>rw[this ⟨h1,h2⟩];rfl
 intro h x hx
 rw[eL,dA,dA,cm]at hx
 have h3:=h x (cH.2 (ku hx.1).1)
 rw[hx.1,hx.2]at h3
 rw[dA];simpa using h3
theorem Sp{r:Rl}{i j u v:Int}(u0:0<=u)(u1:u<pts r)(hv:v=pts r)(h:CU r i j u v=true)(hf:∀x:Int,0<=x->x<u->mS (ig r) i j x=false):iC r i j=(u,true):=
 pw u0 u1 (by rw[Gx r i j u hv];exact h) hf
theorem ajI{r:Rl}{i j u:Int}(u1:¬u<pts r)(hf:∀x:Int,0<=x->x<u->mS (ig r) i j x=false):iC r i j=(0,false):=rU fun x h1 h2=>hf x h1 J
theorem Sq{r:Rl}{i j u v:Int}(u0:0<=u)(u1:u<pts r)(hv:v=pts r)(h:CV r i j u v=true)(hf:∀x:Int,0<=x->x<u->mS (bN r) i j x=false):pZ r i j=(u,true):=
 pw u0 u1 (by rw[Gy r i j u hv];exact h) hf
theorem ajJ{r:Rl}{i j u:Int}(u1:¬u<pts r)(hf:∀x:Int,0<=x->x<u->mS (bN r) i j x=false):pZ r i j=(0,false):=rU fun x h1 h2=>hf x h1 J
def s5(r:Rl)(i j:Int):Bool:=(iC r i j).2&&(pZ r i j).2
def rV(r:Rl):Bool:=decide (1<=r.n/\r.n<=64)&&fO r&&(upto r.n).all fun i=>(upto i).all fun j=>s5 r i j
theorem I1{r:Rl}(h:¬(1<=r.n/\r.n<=64)):rV r=false:=by grind[rV]
theorem YF{r:Rl}(h:fO r=false):rV r=false:=by rw[rV,h];simp
theorem I2{r:Rl}{i j:Int}(i0:i<r.n)(j0:0<=j)(j1:j<i)(h:s5 r i j=false):rV r=false:=by
 cases hc:rV r with
 |false=>rfl
 |true=>
  rw[rV,cm,iq]at hc
  have h1:=hc.2 i (cH.2 ⟨J,i0⟩)
  rw[iq]at h1
  rw[h1 j (cH.2 ⟨j0,j1⟩)]at h;cases h
theorem YG{r:Rl}{k:Int}(hn:1<=r.n/\r.n<=64)(ho:fO r=true)(hk:¬k<r.n)(hf:∀i j:Int,0<=j->j<i->i<k->s5 r i j=true):rV r=true:=by grind[rV,cH]
def eC(r:Rl)(w:BitVec 64):Int×Bool:=uk (fun i=>decide (bN r i=w)) (pts r)
theorem Cg{r:Rl}{w:BitVec 64}{k:Int}(h0:0<=k)(hk:k<pts r)(h:bN r k=w)(hf:∀j:Int,0<=j->j<k->bN r j≠w):eC r w=(k,true):=by grind[Rl,pts,bN,eC,pw]
theorem EH{r:Rl}{w:BitVec 64}{k:Int}(hk:¬k<pts r)(hf:∀j:Int,0<=j->j<k->bN r j≠w):eC r w=(0,false):=by grind[Rl,pts,bN,eC,rU]
def jq(r:Rl)(a b:BitVec 64):BitVec 64:=if((eC r a).2&&(eC r b).2&&(iC r (eC r a).1 (eC r b).1).2)=true then bN r (iC r (eC r a).1 (eC r b).1).1 else a|||b
theorem NR{r:Rl}{a b:BitVec 64}(h1:(eC r a).2=true)(h2:(eC r b).2=true)(h3:(iC r (eC r a).1 (eC r b).1).2=true):jq r a b=bN r (iC r (eC r a).1 (eC r b).1).1:=by grind[jq]
theorem NS{r:Rl}{a b:BitVec 64}(h1:(eC r a).2=false):jq r a b=a|||b:=by rw[jq,h1];rfl
theorem NT{r:Rl}{a b:BitVec 64}(h1:(eC r b).2=false):jq r a b=a|||b:=by rw[jq,h1];simp
theorem aaR{r:Rl}{a b:BitVec 64}(h1:(iC r (eC r a).1 (eC r b).1).2=false):jq r a b=a|||b:=by rw[jq,h1];simp
def DS(r:Rl)(g:Int->BitVec 64):Int×Bool:=uk (fun i=>decide (g i=below (pts r))) (pts r)
theorem ajK{r:Rl}{g:Int->BitVec 64}{k:Int}(h0:0<=k)(hk:k<pts r)(h:g k=below (pts r))(hf:∀j:Int,0<=j->j<k->g j≠below (pts r)):DS r g=(k,true):=by grind[Rl,pts,below,DS,pw]
theorem ao0{r:Rl}{g:Int->BitVec 64}{k:Int}(hk:¬k<pts r)(hf:∀j:Int,0<=j->j<k->g j≠below (pts r)):DS r g=(0,false):=by grind[Rl,pts,below,DS,rU]
def p8(r:Rl)(i k:Int):List Int:=(upto k).filter (bE r · i)
theorem aaS{r:Rl}{i k:Int}(h0:0<=k)(h:bE r k i=true):p8 r i k++[k]=p8 r i (k+1):=by grind[p8,j9]
theorem aer{r:Rl}{i k:Int}(h0:0<=k)(h:bE r k i=false):p8 r i k=p8 r i (k+1):=by grind[p8,j9]
theorem NU{r:Rl}{i k:Int}:(p8 r i k).length<=k.toNat:=by grind[p8,rS]
theorem Sr(l:List Int)(j:Int):hasB (kq l) j=true↔(0<=j/\j<64)/\j∈l:=by grind[kr,gD]
theorem aaT{r:Rl}{i k:Int}(hk:k=pts r):kq (p8 r i k)=bN r i:=tw fun j=>by
 subst hk
 have hp:=dr r
 rw[gd,Sr,dA,p8,wk,cH]
 constructor
 .exact fun h=>h.2.2
 intro h
 have:=(ku h).1
 exact⟨J,this,h⟩
def ajL(r:Rl)(t:Bool)(i k:Int):Bool:=(upto k).all fun x=>if t then bE r x i else bE r i x
theorem KE{r:Rl}{i k:Int}(hk:k=pts r):ajL r false i k=true↔ig r i=below (pts r):=by
 subst hk
 rw[ajL,iq]
 constructor
 .intro h
  refine tw fun j=> ?_
  rw[gd,eA,nj]
  constructor
  .intro h1;have:=ku h1;have:=dr r;omega
  intro h1;simpa using h j (cH.2 J)
 intro h x hx
 have h1:=cH.1 hx
 have hp:=dr r
 have h2:hasB (ig r i) x=true:=by rw[h,nj];omega
 rw[eA]at h2;simpa using h2
def aJh:Rl:=⟨5,fun i=>[31#64,18#64,20#64,24#64,16#64].getD i 0#64⟩
theorem NV(g:Int->BitVec 64)(n i j:Int):zC g n i j=zC g n j i:=by
 rw[zC,zC]
 congr 1
 funext u
 rw[mS,mS,BitVec.and_comm]
theorem join_comm(r:Rl)(i j:Int):iC r i j=iC r j i:=NV _ _ _ _
theorem meet_comm(r:Rl)(i j:Int):pZ r i j=pZ r j i:=NV _ _ _ _
theorem iI{r:Rl}(h:rV r=true):(1<=r.n/\r.n<=64)/\fO r=true/\pts r=r.n/\∀i j:Int,0<=j->j<i->i<r.n->s5 r i j=true:=by
 rw[rV,cm,cm,dP,iq]at h
 refine⟨h.1.1,h.1.2,by unfold pts;omega,fun i j h1 h2 h3=> ?_⟩
 have h4:=h.2 i (cH.2 ⟨J,h3⟩)
 rw[iq]at h4
 exact h4 j (cH.2 ⟨h1,h2⟩)
structure IsJ(r:Rl)(i j k:Int):Prop where
 a:bE r i k=true
 b:bE r j k=true
 l:∀v:Int,bE r i v=true->bE r j v=true->bE r k v=true
structure IsM(r:Rl)(i j k:Int):Prop where
 a:bE r k i=true
 b:bE r k j=true
 g:∀v:Int,bE r v i=true->bE r v j=true->bE r v k=true
theorem Ss{r:Rl}{i j k:Int}:mS (ig r) i j k=true↔IsJ r i j k:=by
 rw[mS,eL,eA,eA,cm,cm,ez]
 constructor
 .rintro⟨⟨h1,h2⟩,h3⟩
  refine⟨h1,h2,fun v h4 h5=> ?_⟩
  have:=h3 v
  rw[eL,eA,eA,eA,cm]at this
  exact this ⟨h4,h5⟩
 rintro⟨h1,h2,h3⟩
 refine⟨⟨h1,h2⟩,fun v hv=> ?_⟩
 rw[eL,eA,eA,cm]at hv
 rw[eA];exact h3 v hv.1 hv.2
theorem St{r:Rl}{i j k:Int}:mS (bN r) i j k=true↔IsM r i j k:=by
 rw[mS,eL,dA,dA,cm,cm,ez]
 constructor
 .rintro⟨⟨h1,h2⟩,h3⟩
  refine⟨h1,h2,fun v h4 h5=> ?_⟩
  have:=h3 v
  rw[eL,dA,dA,dA,cm]at this
  exact this ⟨h4,h5⟩
 rintro⟨h1,h2,h3⟩
 refine⟨⟨h1,h2⟩,fun v hv=> ?_⟩
 rw[eL,dA,dA,cm]at hv
 rw[dA];exact h3 v hv.1 hv.2
theorem xg{r:Rl}(h:fO r=true){i:Int}(hi:0<=i/\i<pts r):bE r i i=true:=by grind[q9,uh,xf]
theorem I3{r:Rl}(h:rV r=true){i j:Int}(hi:0<=i/\i<r.n)(hj:0<=j/\j<r.n):(iC r i j).2=true/\IsJ r i j (iC r i j).1:=by
 obtain⟨hn,ho,hp,hb⟩:=iI h
 rcases mR (mS (ig r) i j) (pts r)with⟨k,k0,k1,k2,-,k3⟩|⟨h1,h2⟩
 .have h3:iC r i j=(k,true):=k3
  rw[h3];exact⟨rfl,Ss.1 k2⟩
 have h3:iC r i j=(0,false):=h2
 exfalso
 rcases VB i j with hl|hl|hl
 .have:=hb j i hi.1 hl hj.2
  rw[s5,cm,join_comm,h3]at this;cases this.1
 .subst hl
  have h4:=h1 i hi.1 J
  have h5:=xg ho (show 0<=i/\i<pts r by omega)
  rw[Ss.2 ⟨h5,h5,fun v hv _=>hv⟩]at h4;cases h4
 have:=hb i j hj.1 hl hi.2
 rw[s5,cm,h3]at this;cases this.1
theorem I4{r:Rl}(h:rV r=true){i j:Int}(hi:0<=i/\i<r.n)(hj:0<=j/\j<r.n):(pZ r i j).2=true/\IsM r i j (pZ r i j).1:=by
 obtain⟨hn,ho,hp,hb⟩:=iI h
 rcases mR (mS (bN r) i j) (pts r)with⟨k,k0,k1,k2,-,k3⟩|⟨h1,h2⟩
 .have h3:pZ r i j=(k,true):=k3
  rw[h3];exact⟨rfl,St.1 k2⟩
 have h3:pZ r i j=(0,false):=h2
 exfalso
 rcases VB i j with hl|hl|hl
 .have:=hb j i hi.1 hl hj.2
  rw[s5,cm,meet_comm,h3]at this;cases this.2
 .subst hl
  have h4:=h1 i hi.1 J
  have h5:=xg ho (show 0<=i/\i<pts r by omega)
  rw[St.2 ⟨h5,h5,fun v hv _=>hv⟩]at h4;cases h4
 have:=hb i j hj.1 hl hi.2
 rw[s5,cm,h3]at this;cases this.2
section aAJ
variable{r:Rl}(h:rV r=true){a b c:Int}(ha:0<=a/\a<r.n)(hb:0<=b/\b<r.n)(hc:0<=c/\c<r.n)
include h ha hb
theorem YH:0<=(iC r a b).1/\(iC r a b).1<r.n:=by
 have:=(ku (I3 h ha hb).2.a).2
 rw[(iI h).2.2.1]at this;exact this
theorem amG:0<=(pZ r a b).1/\(pZ r a b).1<r.n:=by
 have:=(ku (I4 h ha hb).2.a).1
 rw[(iI h).2.2.1]at this;exact this
theorem aaU:bN r (pZ r a b).1=bN r a&&&bN r b:=tw fun j=>by
 have ho:=(iI h).2.1
 have hm:=(I4 h ha hb).2
 rw[eL,dA,dA,dA,gd,cm]
 exact⟨fun h1=>⟨rT ho h1 hm.a,rT ho h1 hm.b⟩,fun h1=>hm.g j h1.1 h1.2⟩
include hc
end aAJ
theorem ajM{r:Rl}(h:rV r=true){a b:Int}(ha:0<=a/\a<r.n)(hb:0<=b/\b<r.n):(bE r a b==dS (bN r a) (bN r b))=true:=by
 have ho:=(iI h).2.1
 rw[AM,gd,ez]
 constructor
 .intro h1 j hj
  rw[dA]at hj⊢;exact rT ho hj h1
 intro h1
 have:=h1 a
 rw[dA,dA]at this
 exact this (xg ho (by rw[(iI h).2.2.1];exact ha))
theorem ajN{r:Rl}(h:rV r=true):∃m:Int,(0<=m/\m<r.n)/\∀x:Int,0<=x->x<r.n->bE r m x=true:=by
 have hs:=iI h
 have key:∀k:Nat,(k:Int)<r.n->∃m:Int,(0<=m/\m<r.n)/\∀x:Int,0<=x->x<=k->bE r m x=true:=fun k=>by
  induction k with
  |zero=>exact fun hk=>⟨0,J,fun x h1 h2=>by rw[show x=0 by omega];exact xg hs.2.1 J⟩
  |succ k ih=>
   intro hk
   obtain⟨m,h1,h2⟩:=ih J
   have hm:=(I4 h h1 (show 0<=((k+1:Nat):Int)/\((k+1:Nat):Int)<r.n by omega)).2
   refine⟨_,amG h h1 (show 0<=((k+1:Nat):Int)/\((k+1:Nat):Int)<r.n by omega),fun x h3 h4=> ?_⟩
   by_cases he:x=((k+1:Nat):Int)
   .rw[he];exact hm.b
   exact rT hs.2.1 hm.a (h2 x h3 J)
 obtain⟨m,h1,h2⟩:=key (r.n-1).toNat J
 exact⟨m,h1,fun x h3 h4=>h2 x h3 J⟩
theorem ajO{r:Rl}(h:rV r=true):(DS r (ig r)).2=true/\(0<=(DS r (ig r)).1/\(DS r (ig r)).1<r.n)/\∀x:Int,0<=x->x<r.n->bE r (DS r (ig r)).1 x=true:=by
 have hs:=iI h
 rcases mR (fun i=>decide (ig r i=below (pts r))) (pts r)with⟨k,k0,k1,k2,-,k3⟩|⟨h1,-⟩
 .have h3:DS r (ig r)=(k,true):=k3
  rw[h3]
  refine⟨rfl,by rw[hs.2.2.1]at k1;exact⟨k0,k1⟩,fun x h4 h5=> ?_⟩
  have:=(KE (r:=r) (i:=k) O).2 (JD k2)
  rw[ajL,iq]at this
  simpa using this x (cH.2 J)
 obtain⟨m,hm,hx⟩:=ajN h
 have h4:=h1 m hm.1 J
 rw[vi]at h4
 exact absurd ((KE (r:=r) (i:=m) O).1 (by
  rw[ajL,iq]
  intro x hx2
  have:=cH.1 hx2
  simpa using hx x this.1 J)) h4
theorem word_inj{r:Rl}(ho:fO r=true){a b:Int}(ha:0<=a/\a<pts r)(hb:0<=b/\b<pts r)(e:bN r a=bN r b):a=b:=by
 have h1:hasB (bN r b) a=true:=by rw[<-e,dA];exact xg ho ha
 have h2:hasB (bN r a) b=true:=by rw[e,dA];exact xg ho hb
 rw[dA]at h1 h2
 exact(uh ho).2 _ _ h1 h2
theorem um{r:Rl}(ho:fO r=true){a:Int}(ha:0<=a/\a<pts r):eC r (bN r a)=(a,true):=by grind[Cg,word_inj]
theorem aaV{r:Rl}(h:rV r=true){a b:Int}(ha:0<=a/\a<r.n)(hb:0<=b/\b<r.n):jq r (bN r a) (bN r b)=bN r (iC r a b).1:=by grind[Rl,rV,jq,bN,iC,iI,um,pts,NR,I3]
def cZ(r:Rl):Bool:=decide (1<=r.n/\r.n<=8)&&decide ((ed r).eq (iG r))
theorem gx{r:Rl}(h:cZ r=true):(1<=r.n/\r.n<=8)/\pts r=r.n/\(ed r).eq (iG r):=by grind[cZ,pts]
theorem Gz{r:Rl}(h:cZ r=true){i:Int}(hi:0<=i/\i<r.n):bE r i i=true:=by simp_all[gx,q9,xf]
theorem I5{r:Rl}(h:cZ r=true){i j k:Int}(h1:bE r i j=true)(h2:bE r j k=true):bE r i k=true:=by grind[Rl,cZ,bE,gx,q9,mh]
theorem zV{r:Rl}(h:cZ r=true){i j:Int}(h1:bE r i j=true):(0<=i/\i<r.n)/\(0<=j/\j<r.n):=by
 have:=ku h1
 rw[(gx h).2.1]at this;exact this
theorem NW(r:Rl)(s:BitVec 64)(j:Int):hasB (CT r s) j=true↔∃i:Int,hasB s i=true/\bE r j i=true:=by
 have hp:=dr r
 rw[kr,Kt]
 constructor
 .rintro⟨h1,i,h2,h3⟩;rw[fF h1.1]at h3;exact⟨i,h2,h3⟩
 rintro⟨i,h2,h3⟩
 have hb:=ku h3
 exact⟨J,i,h2,by rw[fF hb.1.1];exact h3⟩
def HR(r:Rl)(w:BitVec 64)(o:Int):BitVec 64:=(w>>>(BitVec.ofInt 64 (8*o)).toNat)&&&below r.n
theorem Su{r:Rl}{w:BitVec 64}{o:Int}(ho:0<=o/\o<8)(hn:r.n<=8)(x:Int):hasB (HR r w o) x=true↔(0<=x/\x<r.n)/\hasB w (8*o+x)=true:=by grind[HR,eL,nj,kr,mP]
def vB(f:Int->BitVec 64)(k:Int):BitVec 64:=(upto k).foldl (fun a o=>a|||(f o<<<(BitVec.ofInt 64 (8*o)).toNat)) 0#64
theorem GC{f:Int->BitVec 64}{k:Int}(h0:0<=k):vB f k|||(f k<<<(BitVec.ofInt 64 (8*k)).toNat)=vB f (k+1):=by grind[vB,j9]
theorem ajP{a:BitVec 64}{o:Int}(ho:0<=o/\o<8)(z:Int):hasB (a<<<(BitVec.ofInt 64 (8*o)).toNat) z=true↔(0<=z/\z<64)/\hasB a (z-8*o)=true:=by grind[kr,mP]
theorem Sv{f:Int->BitVec 64}(z:Int):∀k:Nat,k<=8->(hasB (vB f k) z=true↔∃o:Int,(0<=o/\o<k)/\(0<=z/\z<64)/\hasB (f o) (z-8*o)=true)
 |0,_=>by
  rw[show vB f ((0:Nat):Int)=0#64 from O,uj]
  constructor
  .intro h;cases h
  rintro⟨o,h,-⟩;omega
 |k+1,hk=>by
  have e:vB f ((k+1:Nat):Int)=vB f (k:Int)|||(f k<<<(BitVec.ofInt 64 (8*(k:Int))).toNat):=(GC (k:=(k:Int)) J).symm
  rw[e,IY,oR,Sv z k J,ajP J]
  constructor
  .rintro(⟨o,h1,h2⟩|⟨h1,h2⟩)
   .exact⟨o,J,h2⟩
   exact⟨k,J,h1,h2⟩
  rintro⟨o,h1,h2,h3⟩
  by_cases he:o=k
  .subst he;exact .inr ⟨h2,h3⟩
  exact .inl ⟨o,J,h2,h3⟩
theorem Sw{f:Int->BitVec 64}{n:Int}(hn:0<=n/\n<=8)(hf:∀o y:Int,0<=o->o<n->hasB (f o) y=true->y<8)(z:Int):hasB (vB f n) z=true↔∃o y:Int,(0<=o/\o<n)/\hasB (f o) y=true/\z=8*o+y:=by
 have h:=Sv (f:=f) z n.toNat J
 rw[fF hn.1]at h
 rw[h]
 constructor
 .rintro⟨o,h1,h2,h3⟩;exact⟨o,z-8*o,h1,h3,J⟩
 rintro⟨o,y,h1,h2,h3⟩
 have:=yt h2
 have:=hf o y h1.1 h1.2 h2
 exact⟨o,h1,J,by rw[show z-8*o=y by omega];exact h2⟩
def GD(r:Rl)(w:BitVec 64)(o:Int):BitVec 64:=vp (fun p=>CT r (HR r w p)) (fZ (ig r o))
def fy(r:Rl)(w:BitVec 64):BitVec 64:=if cZ r then vB (GD r w) r.n else 0#64
theorem DT{r:Rl}(h:cZ r=true)(w:BitVec 64)(o x:Int):hasB (GD r w o) x=true↔∃p y:Int,bE r o p=true/\bE r x y=true/\hasB w (8*p+y)=true:=by
 have hs:=gx h
 rw[GD,KB]
 constructor
 .rintro⟨p,hp,h1⟩
  rw[fN,eA]at hp
  have hb:=zV h hp
  rw[NW]at h1
  obtain⟨y,h2,h3⟩:=h1
  rw[Su J hs.1.2]at h2
  exact⟨p,y,hp,h3,h2.2⟩
 rintro⟨p,y,h1,h2,h3⟩
 have hb:=zV h h1
 refine⟨p,by rw[fN,eA];exact h1,?_⟩
 rw[NW]
 exact⟨y,(Su J hs.1.2 y).2 ⟨(zV h h2).2,h3⟩,h2⟩
theorem iR{r:Rl}(h:cZ r=true)(w:BitVec 64)(z:Int):hasB (fy r w) z=true↔∃o x p y:Int,z=8*o+x/\bE r o p=true/\bE r x y=true/\hasB w (8*p+y)=true:=by
 have hs:=gx h
 rw[fy,aR h,Sw J (fun o y _ _ hy=>by
  obtain⟨p,q,-,h2,-⟩:=(DT h w o y).1 hy
  have:=zV h h2;omega)]
 constructor
 .rintro⟨o,x,h1,h2,h3⟩
  obtain⟨p,y,h4⟩:=(DT h w o x).1 h2
  exact⟨o,x,p,y,h3,h4⟩
 rintro⟨o,x,p,y,h3,h4⟩
 exact⟨o,x,(zV h h4.1).1,(DT h w o x).2 ⟨p,y,h4⟩,h3⟩
theorem Sy{r:Rl}{w:BitVec 64}(h:cZ r=false):fy r w=0#64:=by rw[fy,h];rfl
theorem aaW{r:Rl}{w:BitVec 64}(h:cZ r=true):vB (GD r w) r.n=fy r w:=by rw[fy,h];rfl
def EI(r:Rl)(w:BitVec 64)(o x:Int):Bool:=decide (0<=o/\0<=x/\o<r.n/\x<r.n)&&hasB w (8*o+x)
theorem Ch{r:Rl}{w:BitVec 64}{o x:Int}:EI r w o x=true↔(0<=o/\0<=x/\o<r.n/\x<r.n)/\hasB w (8*o+x)=true:=by grind[EI]
def Qf(r:Rl)(w:BitVec 64)(o x:Int):Bool:=(upto r.n).any fun p=>(upto r.n).any fun y=>EI r w p y&&bE r o p&&bE r x y
theorem I6{r:Rl}{w:BitVec 64}{o x:Int}:Qf r w o x=true↔∃p y:Int,EI r w p y=true/\bE r o p=true/\bE r x y=true:=by
 rw[Qf,Dv]
 constructor
 .rintro⟨p,-,h⟩
  rw[Dv]at h
  obtain⟨y,-,h⟩:=h
  rw[cm,cm]at h
  exact⟨p,y,h.1.1,h.1.2,h.2⟩
 rintro⟨p,y,h1,h2,h3⟩
 have hb:=(Ch.1 h1).1
 refine⟨p,cH.2 J,?_⟩
 rw[Dv]
 exact⟨y,cH.2 J,by rw[h1,h2,h3];rfl⟩
theorem aes{r:Rl}{w:BitVec 64}{o x k:Int}(hk:¬k<r.n)(hf:∀p y:Int,0<=p->p<k->¬(EI r w p y=true/\bE r o p=true/\bE r x y=true)):Qf r w o x=false:=by grind[Qf,I6,Ch]
def DU(r:Rl)(w:BitVec 64)(o k:Int):List Int:=((upto k).filter (Qf r w o ·)).map (8*o+·)
def Ba(r:Rl)(w:BitVec 64)(k:Int):List Int:=(upto k).flatMap fun o=>DU r w o r.n
theorem aet{r:Rl}{w:BitVec 64}{o k:Int}(h0:0<=k)(h:Qf r w o k=true):DU r w o k++[8*o+k]=DU r w o (k+1):=by grind[DU,j9]
theorem ajQ{r:Rl}{w:BitVec 64}{o k:Int}(h0:0<=k)(h:Qf r w o k=false):DU r w o k=DU r w o (k+1):=by grind[DU,j9]
theorem Sz{r:Rl}{w:BitVec 64}{k x:Int}(h0:0<=k)(hx:x=r.n):Ba r w k++DU r w k x=Ba r w (k+1):=by grind[Ba,j9]
theorem KF{r:Rl}{w:BitVec 64}{o k:Int}:(DU r w o k).length<=k.toNat:=by grind[DU,rS]
theorem YI{f:Int->List Int}{m:Nat}(h:∀o,(f o).length<=m):∀l:List Int,(l.flatMap f).length<=l.length*m
 |[]=>by simp
 |o::l=>by
  have:=YI h l
  have:=h o
  rw[s0,cV,eE,kE];omega
theorem KG{r:Rl}{w:BitVec 64}{k:Int}(hn:r.n<=8)(hk:k<=8):(Ba r w k).length<=64:=by
 have h:=YI (f:=fun o=>DU r w o r.n) (m:=8) (fun o=>kg KF J) (upto k)
 rw[rS]at h
 have:k.toNat*8<=64:=J
 exact kg h this
theorem SA{r:Rl}{w:BitVec 64}{o k z:Int}:z∈DU r w o k↔∃x:Int,(0<=x/\x<k)/\Qf r w o x=true/\z=8*o+x:=by
 rw[DU,fI]
 constructor
 .rintro⟨x,hx,rfl⟩
  rw[wk,cH]at hx
  exact⟨x,hx.1,hx.2,rfl⟩
 rintro⟨x,h1,h2,rfl⟩
 exact⟨x,wk.2 ⟨cH.2 h1,h2⟩,rfl⟩
theorem aaX{r:Rl}{w:BitVec 64}{k:Int}(h:cZ r=true)(hk:k=r.n):kq (Ba r w k)=fy r w:=tw fun z=>by
 subst hk
 have hs:=gx h
 rw[gd,Sr,iR h,Ba,List.mem_flatMap]
 constructor
 .rintro⟨h1,o,ho,hz⟩
  rw[SA]at hz
  obtain⟨x,hx,hf,rfl⟩:=hz
  obtain⟨p,y,h2,h3,h4⟩:=I6.1 hf
  exact⟨o,x,p,y,rfl,h3,h4,(Ch.1 h2).2⟩
 rintro⟨o,x,p,y,rfl,h2,h3,h4⟩
 have b1:=zV h h2;have b2:=zV h h3
 refine⟨J,o,cH.2 b1.1,?_⟩
 rw[SA]
 exact⟨x,b2.1,I6.2 ⟨p,y,Ch.2 ⟨J,h4⟩,h2,h3⟩,rfl⟩
def oN(r:Rl)(w:BitVec 64):Bool:=cZ r&&decide (fy r w=w)
def aGt(r:Rl)(s:BitVec 64)(x k:Int):Bool:=(upto k).any fun y=>hasB s y&&bE r y x
def aGu(r:Rl)(s:BitVec 64)(o k:Int):List Int:=((upto k).filter fun x=> !hasB (upR r s) x).map (8*o+·)
def aAK(o:Int)(s:BitVec 64):Int->BitVec 64:=fun x=>if x=o then s else 0#64
def amH(r:Rl)(o:Int):Bool:=cZ r&&decide (0<=o/\o<r.n)
def atN(r:Rl)(o:Int)(s:BitVec 64):BitVec 64:=if amH r o then fy r (vB (aAK o (below r.n&&& ~~~upR r s)) r.n)else 0#64
def aeu(r:Rl)(w:BitVec 64)(o:Int):BitVec 64:=if amH r o then below r.n&&& ~~~HR r w o else 0#64
def aGv(r:Rl)(w:BitVec 64)(o k:Int):List Int:=(upto k).filter fun x=> !EI r w o x
def aAL(r:Rl)(w:BitVec 64)(k:Int):List Int:=(upto k).filter fun o=>decide (HR r w o≠0#64)
def Qg(r:Rl)(w:BitVec 64):BitVec 64:=if cZ r then kq (aAL r w r.n)else 0#64
def Wu(r:Rl):BitVec 64:=if cZ r then vB (fun _=>below r.n) r.n else 0#64
theorem YJ{r:Rl}(h:cZ r=true)(z:Int):hasB (Wu r) z=true↔∃o x:Int,(0<=o/\o<r.n)/\(0<=x/\x<r.n)/\z=8*o+x:=by
 have hs:=gx h
 rw[Wu,aR h,Sw J fun o y _ _ hy=>by rw[nj]at hy;omega]
 constructor
 .rintro⟨o,x,h1,h2,h3⟩
  rw[nj]at h2
  exact⟨o,x,h1,J,h3⟩
 rintro⟨o,x,h1,h2,h3⟩
 exact⟨o,x,h1,(nj _ _).2 J,h3⟩
def aJi(r:Rl)(k:Int):List Int:=(upto k).flatMap fun o=>(upto r.n).map (8*o+·)
def I7(r:Rl):Int:=if cZ r then zB r (pts r)*zB r (pts r)else 0
theorem KH{r:Rl}(h:cZ r=true):zB r (pts r)*zB r (pts r)=I7 r:=by rw[I7,h];rfl
theorem aev{r:Rl}(h:cZ r=true)(v:BitVec 64):dS (v&&&Wu r) (fy r v)=true:=ez.2 fun z hz=>by
 rw[eL,cm,YJ h]at hz
 obtain⟨h1,o,x,h2,h3,rfl⟩:=hz
 exact(iR h v _).2 ⟨o,x,o,x,rfl,Gz h h2,Gz h h3,h1⟩
theorem Wv{r:Rl}(h:cZ r=true)(v:BitVec 64):dS (fy r v) (Wu r)=true:=ez.2 fun z hz=>by
 obtain⟨o,x,p,y,rfl,h1,h2,-⟩:=(iR h v z).1 hz
 exact(YJ h _).2 ⟨o,x,(zV h h1).1,(zV h h2).1,rfl⟩
theorem aAM{o x p y:Int}(hx:0<=x/\x<8)(hy:0<=y/\y<8)(h:8*o+x=8*p+y):o=p/\x=y:=J
theorem Qh{r:Rl}(h:cZ r=true)(v:BitVec 64):fy r (fy r v)=fy r v:=tw fun z=>by
 have hs:=gx h
 rw[gd,iR h,iR h]
 constructor
 .rintro⟨o,x,p,y,rfl,h1,h2,h3⟩
  obtain⟨p',y',q,t,e,h4,h5,h6⟩:=(iR h v _).1 h3
  have b1:=zV h h1;have b2:=zV h h2;have b3:=zV h h4;have b4:=zV h h5
  obtain⟨rfl,rfl⟩:=aAM J J e
  exact⟨o,x,q,t,rfl,I5 h h1 h4,I5 h h2 h5,h6⟩
 rintro⟨o,x,p,y,rfl,h1,h2,h3⟩
 have b1:=zV h h1;have b2:=zV h h2
 exact⟨o,x,o,x,rfl,Gz h b1.1,Gz h b2.1,(iR h v _).2 ⟨o,x,p,y,rfl,h1,h2,h3⟩⟩
theorem KI{r:Rl}(h:cZ r=true){v w:BitVec 64}(hv:dS v w=true):dS (fy r v) (fy r w)=true:=by grind[ez,iR]
theorem GF{r:Rl}(h:cZ r=true){w:BitVec 64}(e:fy r w=w):oN r w=true:=by grind[oN]
theorem atO{r:Rl}(h:cZ r=true)(v w:BitVec 64):oN r (fy r v|||fy r w)=true:=GF h (tw fun z=>by
 rw[gd]
 constructor
 .intro hz
  obtain⟨o,x,p,y,e,h1,h2,h3⟩:=(iR h _ z).1 hz
  rw[IY,oR]at h3⊢
  rcases h3 with h3|h3
  .left;rw[<-Qh h v];exact(iR h _ z).2 ⟨o,x,p,y,e,h1,h2,h3⟩
  right;rw[<-Qh h w];exact(iR h _ z).2 ⟨o,x,p,y,e,h1,h2,h3⟩
 intro hz
 have h1:hasB (Wu r) z=true:=by
  rw[IY,oR]at hz
  rcases hz with hz|hz
  .exact ez.1 (Wv h v) z hz
  exact ez.1 (Wv h w) z hz
 exact ez.1 (aev h _) z (by rw[eL,hz,h1];rfl))
theorem ao1{r:Rl}(h:cZ r=true)(v w:BitVec 64):oN r (fy r v&&&fy r w)=true:=GF h (tw fun z=>by
 rw[gd]
 constructor
 .intro hz
  have h1:=ez.1 (KI h (ED (fy r v) (fy r w))) z hz
  have h2:=ez.1 (KI h (v:=fy r v&&&fy r w) (w:=fy r w) (by rw[BitVec.and_comm];exact ED _ _)) z hz
  rw[Qh h]at h1 h2
  rw[eL,h1,h2];rfl
 intro hz
 have h1:hasB (Wu r) z=true:=by
  have hz2:=hz
  rw[eL,cm]at hz2
  exact ez.1 (Wv h v) z hz2.1
 exact ez.1 (aev h _) z (by rw[eL (fy r v&&&fy r w),hz,h1];rfl))
def aAN(r:Rl)(i:Int):BitVec 64:=fy r (kq [i])
def KJ(r:Rl)(p:Int):Bool:=decide (0<=p/\p<r.n)&&Sm (iG r) p p
theorem KK{r:Rl}(h:cZ r=true)(p:Int):KJ r p=true↔(0<=p/\p<r.n)/\∀x:Int,0<=x->x<p->¬(bE r p x=true/\bE r x p=true):=by grind[Rl,cZ,KJ,bE,gx,Sm,cH,q9]
theorem Ww{r:Rl}(h:cZ r=true):∀(n:Nat) (p:Int),p<=n->0<=p->p<r.n->∃q:Int,q<=p/\KJ r q=true/\bE r p q=true/\bE r q p=true
 |n,p,hn,h0,h1=>by
  cases hc:KJ r p with
  |true=>exact⟨p,kY _,hc,Gz h ⟨h0,h1⟩,Gz h ⟨h0,h1⟩⟩
  |false=>
   have hex:∃x:Int,0<=x/\x<p/\bE r p x=true/\bE r x p=true:=Po fun hno=>by
    have:KJ r p=true:=(KK h p).2 ⟨⟨h0,h1⟩,fun x x0 x1 hx=>hno ⟨x,x0,x1,hx⟩⟩
    rw[hc]at this;cases this
   obtain⟨x,x0,x1,x2,x3⟩:=hex
   cases n with
   |zero=>omega
   |succ n=>
    obtain⟨q,q1,q2,q3,q4⟩:=Ww h n x J x0 J
    exact⟨q,J,q2,I5 h x2 q3,I5 h q4 x3⟩
def KL(r:Rl)(i:Int):Bool:=KJ r (i/8)&&KJ r (i%8)
def ao2(r:Rl)(k:Int):List (BitVec 64):=((upto k).filter (KL r)).map (aAN r)
def aJj(c:BitVec 64)(l:List (BitVec 64))(j:Int):Bool:=decide (c=0#64)||(l.take j.toNat).any fun w=>decide (w=c)
theorem aew{r:Rl}(h:cZ r=true){o p:Int}(hp:hasB (ig r o) p=true):0<=p/\p<8:=by
 have hs:=gx h
 rw[eA]at hp
 have:=zV h hp;omega
def aAO:Rl:=⟨2,fun i=>[3#64,2#64].getD i 0#64⟩
theorem aex(A:Int->Bool):((upto 64).filter fun i=>A (i/8)&&A (i%8)).length=((upto 8).filter A).length*((upto 8).filter A).length:=by
 have e:upto 64=(upto 8).flatMap fun p=>(upto 8).map (8*p+·):=by decide+kernel
 have key:∀l:List Int,((l.flatMap fun p=>(upto 8).map (8*p+·)).filter fun i=>A (i/8)&&A (i%8)).length=(l.filter A).length*((upto 8).filter A).length:=fun l=>by
  induction l with
  |nil=>simp
  |cons p l ih=>
   rw[s0,Pv,cV,ih]
   have h1:(((upto 8).map (8*p+·)).filter fun i=>A (i/8)&&A (i%8))=((upto 8).filter fun y=>A p&&A y).map (8*p+·):=by
    rw[List.filter_map]
    congr 1
    refine List.filter_congr fun y hy=> ?_
    have:=cH.1 hy
    simp only[Function.comp]
    rw[show(8*p+y)/8=p by omega,show(8*p+y)%8=y by omega]
   rw[h1,fx]
   cases hp:A p with
   |true=>
    rw[wc hp,eE,kE]
    simp only[po]
    show((upto 8).filter A).length+_=_
    omega
   |false=>simp[hp]
 rw[e,key]
theorem aaY{r:Rl}(h:cZ r=true){k:Int}(hk:k=64):((ao2 r k).length:Int)=I7 r:=by
 subst hk
 have hs:=gx h
 have h1:(upto 8).filter (KJ r)=(upto (pts r)).filter fun i=>Sm (iG r) i i:=by
  refine yo ((vA _).filter _) ((vA _).filter _) fun x=> ?_
  rw[wk,wk,cH,cH,KJ,cm,dP,hs.2.1]
  constructor
  .rintro⟨h2,h3,h4⟩;exact⟨h3,h4⟩
  rintro⟨h2,h3⟩;exact⟨J,h2,h3⟩
 rw[<-KH h,ao2,fx,show KL r=fun i=>KJ r (i/8)&&KJ r (i%8)from O,aex,h1,zB]
 push_cast;rfl
abbrev Tx:=ByteArray
def qY(s:Tx)(i:Int):Int:=((s.data.toList.getD i.toNat 0).toNat:Int)
def iP(c:Int):Bool:=decide (97<=c/\c<=122)
def s4(c:Int):Bool:=decide ((97<=c/\c<=122)\/(48<=c/\c<=57)\/c=95)
def gY(s:Tx):Bool:=decide (1<=s.size/\s.size<=16)&&iP (qY s 0)&&(upto s.size).all fun i=>s4 (qY s i)
theorem Ci{s:Tx}(h:¬(1<=s.size/\s.size<=16)):gY s=false:=by grind[gY]
theorem NY{s:Tx}(h:iP (qY s 0)=false):gY s=false:=by rw[gY,h];simp
theorem GG{s:Tx}{i:Int}(i0:0<=i)(i1:i<s.size)(h:s4 (qY s i)=false):gY s=false:=by grind[gY,cH]
theorem N0{s:Tx}{k:Int}(h1:1<=s.size/\s.size<=16)(h2:iP (qY s 0)=true)(hk:¬k<s.size)(hf:∀j:Int,0<=j->j<k->s4 (qY s j)=true):gY s=true:=by grind[gY,cH]
theorem Bb{c:Int}(h:iP c=true):s4 c=true:=by grind[iP,s4]
def rW(P:Int->Bool)(n:Int):Int:=if(uk P n).2 then(uk P n).1 else-1
theorem uo{P:Int->Bool}{n k:Int}(h0:0<=k)(hk:k<n)(hp:P k=true)(hf:∀j:Int,0<=j->j<k->P j=false):rW P n=k:=by
 rw[rW,pw h0 hk hp hf];rfl
theorem EJ{P:Int->Bool}{n:Int}(hf:∀j:Int,0<=j->j<n->P j=false):rW P n= -1:=by
 rw[rW,rU hf];rfl
theorem KM(P:Int->Bool)(n:Int):(∃k:Int,0<=k/\k<n/\P k=true/\(∀j:Int,0<=j->j<k->P j=false)/\rW P n=k)\/((∀j:Int,0<=j->j<n->P j=false)/\rW P n= -1):=by grind[rW,mR,uo,EJ]
abbrev o4:Tx:=⟨#[]⟩
def p9(l:List Tx)(s:Tx):Int:=rW (fun i=>decide (l.getD i.toNat o4=s)) l.length
theorem e8{α:Type}{l:List α}{d:α}{i:Int}(h0:0<=i)(h:i<l.length):l[i.toNat]?=some (l.getD i.toNat d):=by grind
theorem getD_take{α:Type}{l:List α}{d:α}{i k:Int}(h0:0<=i)(h:i<k):(l.take k.toNat).getD i.toNat d=l.getD i.toNat d:=by grind
def xh(l:List Tx):Int:=rW (fun i=>decide (p9 l (l.getD i.toNat o4)<i)) l.length
theorem aey{l:List Tx}{i:Int}(i0:0<=i)(i1:i<l.length):decide (p9 (l.take i.toNat) (l.getD i.toNat o4)>=0)=decide (p9 l (l.getD i.toNat o4)<i):=by
 rw[gd,dP,dP]
 have hl:((l.take i.toNat).length:Int)=i:=by rw[eD];omega
 rw[p9,hl]
 rcases KM (fun j=>decide ((l.take i.toNat).getD j.toNat o4=l.getD i.toNat o4)) i with⟨k,k0,k1,k2,k3,e⟩|⟨h,e⟩
 .rw[e]
  have h1:p9 l (l.getD i.toNat o4)=k:=uo k0 J (by rw[<-k2,getD_take k0 k1]) fun j a b=>by
   rw[<-k3 j a b,getD_take a J]
  rw[h1];omega
 rw[e]
 have h1:p9 l (l.getD i.toNat o4)=i:=uo i0 i1 aA fun j a b=>by
  rw[<-h j a b,getD_take a b]
 rw[h1];omega
def aGw(a b:List Tx):Bool:=decide (a=b)
end Go.Proofs.YtlhjdflgjbkpmaaGreatDoor.M
namespace Go.Proofs.YtlhjdflgjbkpmaaGreatDoor.E
section
open Go Go.RowKit Go.Proofs.YtlhjdflgjbkpmaaGreatDoor.M
abbrev S(s:Tx):Value:= .string s
abbrev HS(l:List Tx):List Value:=l.map Value.string
theorem Bc{l:List Tx}{k:Int}(h:0<=k/\k<l.length):(HS l)[k.toNat*1]?=some (S (l.getD k.toNat o4)):=by grind
theorem gG{w:World}{v:Value}{sz n:Nat}{c:List Value}(h:Sl w v sz n c):v.oneCell'=true/\v.cells=#[v]:=by
 obtain⟨a,cap,rfl,-,-⟩:=h.shape;exact⟨rfl,rfl⟩
theorem Sl.aAP{w:World}{v:Value}{l:List Tx}{n:Int}(h:Sl w v 1 l.length (HS l))(hn:0<=n/\n<=l.length):Sl w (uW v n.toNat) 1 (l.take n.toNat).length (HS (l.take n.toNat)):=
 (h.cut n.toNat J).conv (by rw[eD];omega) (by rw[kX];exact AI.symm)
theorem ao3{s:Tx}:s=o4↔s.size=0:=by
 constructor
 .intro h;rw[h];rfl
 intro h
 cases s with
 |mk d=>
  have:d.size=0:=h
  have e:d=#[]:=acZ this
  rw[e]
section runs
variable{P:Program}{σ:Env}{w:World}{dst:Option Tmp}{ty t u:TypeId}{pos:String}{bH:Array Edge}{g:Option (Nat×Bool)}{x y:Operand}{a b:Tx}{k:IntKind}{i:Int}
theorem ao4(a b:Tx):(a.toList==b.toList)=decide (a=b):=by
 rw[ByteArray.toList_eq,ByteArray.toList_eq,gd,AM,dP]
 constructor
 .exact fun h=>WideShapes.bytes_inj h
 exact fun h=>by rw[h]
theorem aez{op:BinOp}{v:Value}(hx:ev σ x=S a)(hy:ev σ y=S b)(h:(binOp op t (S a) (S b)).run P w= .ok v w):
  (execOp (ev σ) ⟨dst,.binOp op t x y u,ty,pos,bH,g⟩).run P w= .ok (.value v) w:=by
 have he:(eqGuard op t x y (S a) (S b))=pure ():=by cases op<;>rfl
 simp[execOp,hx,hy,he,h]
theorem KO(hx:ev σ x=S a)(hy:ev σ y=S b):(execOp (ev σ) ⟨dst,.binOp .eql t x y u,ty,pos,bH,g⟩).run P w= .ok (.value (.bool (decide (a=b)))) w:=
 aez hx hy (by rw[binOp_string_eql,ao4];rfl)
theorem rX(ht:P.underlying t=some .string)(hx:ev σ x=S a)(hy:ev σ y= .int k i)(h:0<=i/\i<a.size):(execOp (ev σ) ⟨dst,.index t x y,ty,pos,bH,g⟩).run P w= .ok (.value (.int .u8 (qY a i))) w:=by
 have h1:=run_index_string (P:=P) w t a k i ht
 rw[dif_pos h]at h1
 have h2:((a[i.toNat]'J).toNat:Int)=qY a i:=by
  have hl:i.toNat<a.data.toList.length:=by
   have:a.data.toList.length=a.size:=by cases a;rfl
   omega
  rw[qY,ep,dO hl]
  cases a;rfl
 rw[h2]at h1
 simp[execOp,hx,hy,h1]
end runs
abbrev Vu:=Nat->Obj->Prop
def Kw(w:World):Vu:=fun b o=>w.heap[b]?=some o
def Kz(K:Vu)(Z:List a8):Vu:=fun b o=>K b o\/a8.blk b o∈Z
def N1(K:Vu)(b j:Nat)(c:Value):Prop:=∃cs e fr,K b (.cells cs e fr)/\cs[j]?=some c
structure n7(K:Vu)(v:Value)(sz n:Nat)(cells:List Value):Prop where
 shape:∃a cap,v= .slice a n cap/\n<=cap/\(0<n->a=some ⟨sb v,so v,none⟩)
 len:cells.length=n*sz
 cell:∀j c,cells[j]?=some c->N1 K (sb v) (so v+j) c
 small:n<=maxLen
def Le(K K':Vu):Prop:=∀b o,K b o->K' b o
theorem Le.refl(K:Vu):Le K K:=fun _ _ h=>h
theorem Le.trans{K K' K'':Vu}(h:Le K K')(h':Le K' K''):Le K K'':=fun b o hb=>h' b o (h b o hb)
theorem Le.z(K:Vu)(Z:List a8):Le K (Kz K Z):=fun _ _ h=> .inl h
theorem Le.zz{K:Vu}{Z Z':List a8}(h:∀x,x∈Z->x∈Z'):Le (Kz K Z) (Kz K Z'):=fun b o hb=>hb.imp id (h _)
theorem Le.kk{K:Vu}{Z Z':List a8}:Le (Kz (Kz K Z) Z') (Kz K (Z'++Z)):=fun b o hb=>by
 rcases hb with(hb|hb)|hb
 .exact .inl hb
 .exact .inr (by simp[hb])
 exact .inr (by simp[hb])
theorem N1.mono{K K':Vu}{b j:Nat}{c:Value}(h:N1 K b j c)(hl:Le K K'):N1 K' b j c:=by
 obtain⟨cs,e,fr,h1,h2⟩:=h;exact⟨cs,e,fr,hl _ _ h1,h2⟩
theorem n7.mono{K K':Vu}{v:Value}{sz n:Nat}{cells:List Value}(h:n7 K v sz n cells)(hl:Le K K'):n7 K' v sz n cells:=⟨h.shape,h.len,fun j c hc=>(h.cell j c hc).mono hl,h.small⟩
theorem n7.nil(K:Vu)(sz:Nat):n7 K (.slice none 0 0) sz 0 []:=⟨⟨none,0,rfl,eI _,fun h=>J⟩,aA,fun j c h=>by simp at h,jL⟩
section
variable{w0 w w':World}{L L' Z:List a8}{K:Vu}{v:Value}{sz n:Nat}{cells:List Value}
theorem n7.sl(h:n7 (Kw w) v sz n cells):Sl w v sz n cells:=⟨h.shape,h.len,fun j c hc=>by
 obtain⟨cs,e,fr,h1,h2⟩:=h.cell j c hc
 rw[wu w _ _ cs e fr h1];exact h2,h.small⟩
theorem aaZ{b j:Nat}{c:Value}(h1:w.cell? ⟨b,j,none⟩=some c):N1 (Kw w) b j c:=by
 unfold World.cell? at h1
 cases hq:w.heap[b]? with
 |none=>simp[hq]at h1
 |some o=>
  cases o with
  |cells cs e fr=>simp[hq]at h1;exact⟨cs,e,fr,hq,h1⟩
  |_=>simp[hq]at h1
theorem Sl.slv(h:Sl w v sz n cells):n7 (Kw w) v sz n cells:=⟨h.shape,h.len,fun j c hc=>aaZ (h.cell j c hc),h.small⟩
theorem Kw.below(hb:Below w.heap.size w w'):Le (Kw w) (Kw w'):=fun b o h=>by
 show w'.heap[b]?=some o
 rw[hb.block b (Ay.1 h).1];exact h
theorem Hp.kw(h:Hp w0 w L):Le (Kw w0) (Kw w):=Kw.below h.below
theorem Hp.kz(h:Hp w0 w L)(hK:Le K (Kw w0))(hZ:∀x,x∈Z->x∈L):Le (Kz K Z) (Kw w):=fun b o hb=>by
 rcases hb with hb|hb
 .exact h.kw _ _ (hK _ _ hb)
 exact(h.ok _ (hZ _ hb)).2
theorem Hp.EK(h:Hp w0 w L)(hz:Hp w w' Z):Hp w0 w' (Z++L):=by
 have h':=h.call hz.below
 refine⟨h'.below,fun x hx=> ?_,Du.2 ⟨hz.Kc,h'.Kc,fun x hx y hy=> ?_⟩⟩
 .rcases eF.1 hx with hx|hx
  .have h1:=hz.ok x hx
   rcases x with⟨b,o⟩|⟨v,e,sz,n,xs⟩
   .exact⟨kg h.size h1.1,h1.2⟩
   refine⟨h1.1,?_⟩
   rcases h1.2 with hn|⟨gb,cap,cur,rfl,h2,rest⟩
   .exact .inl hn
   exact .inr ⟨gb,cap,cur,rfl,kg h.size h2,rest⟩
  exact h'.ok x hx
 .cases hf:x.qZ with
  |none=>exact .inl O
  |some b=>
   refine .inr fun e=> ?_
   have h1:=(a8.HP (hz.ok x hx) b hf).1
   have h2:=(a8.HP (h.ok y hy) b (by rw[<-e])).2
   omega
theorem Hp.Iq(h:Hp w0 w (Z++(L++L'))):Hp w0 w (L++(Z++L')):=by grind[Hp]
theorem Hp.UX{e:TypeId}{xs:List Value}(h:Hp w0 w (.row v e sz n xs::L))(K:Vu):∃Z:List a8,Hp w0 w (Z++L)/\n7 (Kz K Z) v sz n xs/\(∀x∈Z,∃b c e,x= .blk b (.cells c e (0,0))):=by
 have h1:=h.ok _ (tN ..)
 obtain⟨hl,h2⟩:=h1
 rcases h2 with⟨rfl,rfl⟩|⟨gb,cap,cur,rfl,hb,hg,hn,hm,hs,ht⟩
 .have:xs=[]:=Et (by simpa using hl)
  subst this
  exact⟨[],h.tail,n7.nil _ _,fun x hx=>by simp at hx⟩
 refine⟨[.blk gb (.cells cur e (0,0))],⟨h.below,fun x hx=> ?_,?_⟩,⟨⟨_,cap,rfl,hn,fun _=>rfl⟩,hl,fun j c hj=>⟨cur,e,(0,0),.inr (by simp[sb]),?_⟩,kg hn hm⟩,fun x hx=> ?_⟩
 .rcases cT.1 hx with rfl|hx
  .exact⟨hb,hg⟩
  exact h.ok x (fq _ hx)
 .exact List.Pairwise.cons (fun y hy=>(lE.1 h.Kc).1 y hy) (lE.1 h.Kc).2
 .simp only[so,gA]
  rw[<-ht,tM]at hj
  split at hj
  .simpa using hj
  .cases hj
 simp at hx;exact⟨_,_,_,hx⟩
theorem EL{b:Nat}{c:List Value}{e:TypeId}(hZ:a8.blk b (.cells c.toArray e (0,0))∈Z)(hl:c.length=n*sz)(hn:n<=maxLen):n7 (Kz K Z) (.slice (some ⟨b,0,none⟩) n n) sz n c:=
 ⟨⟨_,n,rfl,eI _,fun _=>rfl⟩,hl,fun j u hu=>⟨c.toArray,e,(0,0),.inr hZ,by simp only[so,gA];simpa using hu⟩,hn⟩
end
def KP(K:Vu)(p:Vu->Value->Prop)(w:World):Ending->World->Prop:=jF fun u w'=>∃Z:List a8,Hp w w' Z/\p (Kz K Z) u
section calls
variable{P:Program}{n:Nat}{ops:Array Oper}{k:K}{rest:List Oper}{σ:Env}{w0 w:World}{L:List a8}{op:Op}{ty:TypeId}{pos:String}{bH:Array Edge}{d:Nat}{Kv:Vu}{p:Vu->Value->Prop}
theorem Wx{f:FuncId}{args:Array Value}(hd:Nat.blt d n=true)(hH:Hp w0 w L)(hc:Calls P f args w (KP Kv p w))
  (hr:(execOp (ev σ) ⟨some d,op,ty,pos,bH,none⟩).run P w= .ok (.enter f args) w)
  (hk:∀v w' Z,Hp w0 w' (Z++L)->p (Kz Kv Z) v->RL P n ops k rest (k7 σ d v) w'):RL P n ops k (⟨some d,op,ty,pos,bH,none⟩::rest) σ w:=
 Gj hd hr hc fun u w' ⟨Z,hz,hp⟩=>hk u w' Z (hH.EK hz) hp
variable{l:List Oper}{i fuel:Nat}{listed:Array Bool}{g:Option (Nat×Bool)}{L':List a8}
theorem aeA{f:FuncId}{args:Array Value}(hi:l[i]?=some ⟨some d,op,ty,pos,bH,g⟩)(hg:∀a,Is n σ a->Region.wanted ⟨some d,op,ty,pos,bH,g⟩ (yielded l.toArray a.tmps)=true)(hd:Nat.blt d n=true)
  (hH:Hp w0 w L') (hs:L.Sublist L') (hc:Calls P f args w (KP Kv p w)) (hr:(execOp (ev σ) ⟨some d,op,ty,pos,bH,g⟩).run P w= .ok (.enter f args) w)
  (h:∀v w' Z,Hp w0 w' (Z++L')->p (Kz Kv Z) v->AN P n l (fun w=>Hp w0 w L) k fuel (listed.setIfInBounds i true) (k7 σ d v) w'):AO P n l (fun w=>Hp w0 w L) k fuel listed σ w i:=
 P8 hi hg hd hc hr fun u w' ⟨Z,hz,hp⟩=>⟨(hH.EK hz).sub (List.Sublist.trans hs (Vc _ _)),h u w' Z (hH.EK hz) hp⟩
end calls
section flat
variable{α:Type}{cl:α->List Value}{sz:Nat}
theorem flat_get(hsz:∀a,(cl a).length=sz):∀(l:List α) (k:Nat) (a:α),l[k]?=some a->∀j c,(cl a)[j]?=some c->(l.flatMap cl)[k*sz+j]?=some c
 |[],k,a,h=>by simp at h
 |p::l,0,a,h=>fun j c hj=>by
  simp at h;subst h
  rw[s0,xS (by have:=(mC.1 hj).1;omega),PK,gA];exact hj
 |p::l,k+1,a,h=>fun j c hj=>by
  have:=flat_get hsz l k a wx j c hj
  rw[s0,Az (by rw[hsz,kE];omega),hsz,show(k+1)*sz+j-sz=k*sz+j by rw[kE];omega];exact this
theorem eV(hsz:∀a,(cl a).length=sz)(l:List α):(l.flatMap cl).length=l.length*sz:=by
 induction l with
 |nil=>simp
 |cons a l ih=>rw[s0,cV,hsz,ih,eE,kE];omega
variable{P:Program}{σ:Env}{w:World}{dst:Option Tmp}{ty t:TypeId}{pos:String}{bH:Array Edge}{g:Option (Nat×Bool)}{x:Operand}{v:Value}{l:List α}{k:Int}
theorem fg{d:TypeDesc}{dv:α}(hsz:∀a,(cl a).length=sz)(hS:Sl w v sz l.length (l.flatMap cl))(hu:P.underlying t=some d)(hd:d.isRow=true)(hi:(P.info? t).map (·.size)=some sz)
  (hx:ev σ x= .pointer (some ⟨sb v,so v+k.toNat*sz,none⟩)) (hk:0<=k/\k<l.length):
  (execOp (ev σ) ⟨dst,.load t x,ty,pos,bH,g⟩).run P w= .ok (.value (.agg (cl (l.getD k.toNat dv)).toArray)) w:=by
 refine cG hu hd (by rw[hsz];exact hi) hx fun j c hj=> ?_
 have:=hS.cell _ _ (flat_get hsz l k.toNat _ (e8 hk.1 hk.2) j c hj)
 rw[xZ];exact this
theorem gf{d:TypeDesc}{dv:α}{off:Nat}{c:Value}(hsz:∀a,(cl a).length=sz)(hS:Sl w v sz l.length (l.flatMap cl))(hu:P.underlying t=some d)(hd:d.isRow=false)
  (hx:ev σ x= .pointer (some ⟨sb v,so v+k.toNat*sz+off,none⟩)) (hk:0<=k/\k<l.length) (hc:(cl (l.getD k.toNat dv))[off]?=some c):
  (execOp (ev σ) ⟨dst,.load t x,ty,pos,bH,g⟩).run P w= .ok (.value c) w:=by
 refine az hu hd hx ?_
 have:=hS.cell _ _ (flat_get hsz l k.toNat _ (e8 hk.1 hk.2) off c hc)
 rw[xZ];exact this
theorem oy{d:TypeDesc}{dv:α}{off:Nat}{cs:List Value}(hsz:∀a,(cl a).length=sz)(hS:Sl w v sz l.length (l.flatMap cl))(hu:P.underlying t=some d)(hd:d.isRow=true)(hi:(P.info? t).map (·.size)=some cs.length)
  (hx:ev σ x= .pointer (some ⟨sb v,so v+k.toNat*sz+off,none⟩)) (hk:0<=k/\k<l.length) (hc:∀j c,cs[j]?=some c->(cl (l.getD k.toNat dv))[off+j]?=some c):
  (execOp (ev σ) ⟨dst,.load t x,ty,pos,bH,g⟩).run P w= .ok (.value (.agg cs.toArray)) w:=by
 refine cG hu hd hi hx fun j c hj=> ?_
 have:=hS.cell _ _ (flat_get hsz l k.toNat _ (e8 hk.1 hk.2) (off+j) c (hc j c hj))
 rw[xZ,xZ];exact this
end flat
end
end Go.Proofs.YtlhjdflgjbkpmaaGreatDoor.E
namespace Go.Proofs.YtlhjdflgjbkpmaaGreatDoor.M
section
open Go
abbrev El:=Nat->BitVec 64
def qK(a b:El):Prop:=∀i,i<8->a i=b i
instance(a b:El):Decidable (qK a b):=inferInstanceAs (Decidable (∀i,i<8->a i=b i))
def dh:El:=fun _=>0#64
def zX(e:El)(i:Nat)(x:BitVec 64):El:=fun j=>if j=i then x else e j
structure Fc where
 kind:Int
 names:List Tx
 rel:Rl
structure Sh where
 tuple:Bool
 aT:List Fc
def uV:Fc:=⟨0,[],Rl.none⟩
def gH(l:List Tx):Bool:=decide (1<=l.length/\l.length<=64)&&decide (xh l<0)&&l.all gY
theorem Cj{l:List Tx}(h:¬(1<=l.length/\l.length<=64)):gH l=false:=by grind[gH]
theorem N2{l:List Tx}(h:¬xh l<0):gH l=false:=by grind[gH]
theorem N3{l:List Tx}{k:Int}(k0:0<=k)(k1:k<l.length)(h:gY (l.getD k.toNat o4)=false):gH l=false:=by
 cases hc:gH l with
 |false=>rfl
 |true=>
  rw[gH,cm,iq]at hc
  rw[hc.2 _ (kU (e8 (d:=o4) k0 k1))]at h;cases h
theorem px{l:List Tx}{k:Int}(h1:1<=l.length/\l.length<=64)(h2:xh l<0)(hk:¬k<l.length)(hf:∀j:Int,0<=j->j<k->gY (l.getD j.toNat o4)=true):gH l=true:=by
 rw[gH,gq h1,gq h2,po,po,iq]
 intro x hx
 obtain⟨i,hi,rfl⟩:=qR hx
 have:=hf i J J
 rw[dW,ep,dO hi]at this
 exact this
def cL(f:Fc):Bool:=gH f.names&&
 (if f.kind=1\/f.kind=2 then decide (pts f.rel=0)else if f.kind=3 then decide (f.rel.n=f.names.length)&&cZ f.rel else if f.kind=4 then decide (f.rel.n=f.names.length)&&rV f.rel else false)
theorem aa0(r:Rl):(ed r).eq (ed Rl.none)↔pts r=0:=by
 have hp:=dr r
 constructor
 .intro h;exact h.1
 intro h
 refine⟨h,fun i hi=> ?_⟩
 show(if(i:Int)<pts r then ug r i else 0#64)=(if(i:Int)<0 then ug Rl.none i else 0#64)
 rw[aP J,aP J]
def qL(s:Sh):Bool:=decide (1<=s.aT.length/\s.aT.length<=8)&&(s.tuple||decide (s.aT.length=1))&&s.aT.all cL
theorem I8{s:Sh}(h:¬(1<=s.aT.length/\s.aT.length<=8)):qL s=false:=by grind[qL]
theorem YK{s:Sh}(h:s.tuple=false)(h2:¬s.aT.length=1):qL s=false:=by grind[qL]
theorem I9{s:Sh}{k:Int}(k0:0<=k)(k1:k<s.aT.length)(h:cL (s.aT.getD k.toNat uV)=false):qL s=false:=by
 cases hc:qL s with
 |false=>rfl
 |true=>
  rw[qL,cm,iq]at hc
  rw[hc.2 _ (kU (e8 (d:=uV) k0 k1))]at h;cases h
theorem Ja{s:Sh}{k:Int}(h1:1<=s.aT.length/\s.aT.length<=8)(h2:s.tuple=true\/s.aT.length=1)(hk:¬k<s.aT.length)(hf:∀j:Int,0<=j->j<k->cL (s.aT.getD j.toNat uV)=true):qL s=true:=by
 have h3:(s.tuple||decide (s.aT.length=1))=true:=by rcases h2 with h2|h2<;>simp[h2]
 rw[qL,gq h1,h3,po,po,iq]
 intro x hx
 obtain⟨i,hi,rfl⟩:=qR hx
 have:=hf i J J
 rw[dW,ep,dO hi]at this
 exact this
theorem yw{s:Sh}(h:qL s=true):(1<=s.aT.length/\s.aT.length<=8)/\(s.tuple=true\/s.aT.length=1)/\∀f∈s.aT,cL f=true:=by grind[qL]
theorem aeB{s:Sh}(h:qL s=true){k:Int}(k0:0<=k)(k1:k<s.aT.length):cL (s.aT.getD k.toNat uV)=true:=by simp_all[Sh,qL,cL,uV,yw,e8,k1]
theorem uq{f:Fc}(h:cL f=true):(1<=f.names.length/\f.names.length<=64)/\((f.kind=1/\pts f.rel=0)\/(f.kind=2/\pts f.rel=0)\/(f.kind=3/\f.rel.n=f.names.length/\cZ f.rel=true)\/(f.kind=4/\f.rel.n=f.names.length/\rV f.rel=true)):=by grind[cL,gH]
def ao5(a b:Fc):Bool:=decide (a.kind=b.kind)&&decide (a.names=b.names)&&decide ((ed a.rel).eq (ed b.rel))
def aGy(a b:Sh):Bool:=decide (a.tuple=b.tuple)&&decide (a.aT.length=b.aT.length)&&(upto a.aT.length).all fun i=>ao5 (a.aT.getD i.toNat uV) (b.aT.getD i.toNat uV)
def jO(f:Fc)(w:BitVec 64):Bool:=if f.kind=1 then(level f.names.length w).2 else if f.kind=2 then dS w (below f.names.length)else if f.kind=3 then oN f.rel w else(eC f.rel w).2
def cf(s:Sh)(e:El):Bool:=qL s&&(upto 8).all fun i=>if i<s.aT.length then jO (s.aT.getD i.toNat uV) (e i.toNat)else decide (e i.toNat=0#64)
theorem SB{s:Sh}{e:El}(h:qL s=false):cf s e=false:=by rw[cf,h];rfl
theorem SC{s:Sh}{e:El}{k:Int}(k0:0<=k)(k1:k<8)(h:k<s.aT.length)(h2:jO (s.aT.getD k.toNat uV) (e k.toNat)=false):cf s e=false:=by
 cases hc:cf s e with
 |false=>rfl
 |true=>
  rw[cf,cm,iq]at hc
  have:=hc.2 k (cH.2 ⟨k0,k1⟩)
  rw[aR h,h2]at this;cases this
theorem KQ{s:Sh}{e:El}{k:Int}(k0:0<=k)(k1:k<8)(h:¬k<s.aT.length)(h2:e k.toNat≠0#64):cf s e=false:=by
 cases hc:cf s e with
 |false=>rfl
 |true=>
  rw[cf,cm,iq]at hc
  have:=hc.2 k (cH.2 ⟨k0,k1⟩)
  rw[aP h,dP]at this;exact absurd this h2
def CX(s:Sh)(e:El)(k:Int):Prop:=∀j:Int,0<=j->j<k->(j<s.aT.length->jO (s.aT.getD j.toNat uV) (e j.toNat)=true)/\(¬j<s.aT.length->e j.toNat=0#64)
theorem KR{s:Sh}{e:El}{k:Int}(h:qL s=true)(hk:¬k<8)(hf:CX s e k):cf s e=true:=by
 rw[cf,h,po,iq]
 intro i hi
 have h1:=cH.1 hi
 have h2:=hf i h1.1 J
 split
 .rename_i h3;exact h2.1 h3
 rename_i h3;exact gq (h2.2 h3)
theorem CX.none(s:Sh)(e:El):CX s e 0:=fun j a b=>absurd b J
theorem CX.next{s:Sh}{e:El}{k:Int}(h:CX s e k)(h1:k<s.aT.length->jO (s.aT.getD k.toNat uV) (e k.toNat)=true)(h2:¬k<s.aT.length->e k.toNat=0#64):CX s e (k+1):=fun j a b=>by
 by_cases he:j=k
 .subst he;exact⟨h1,h2⟩
 exact h j a J
def cK(a b:El):Bool:=(upto 8).all fun i=>dS (a i.toNat) (b i.toNat)
theorem ao6{a b:El}{k:Int}(k0:0<=k)(k1:k<8)(h:dS (a k.toNat) (b k.toNat)=false):cK a b=false:=by
 cases hc:cK a b with
 |false=>rfl
 |true=>
  rw[cK,iq]at hc
  rw[hc k (cH.2 ⟨k0,k1⟩)]at h;cases h
theorem ajS{a b:El}{k:Int}(hk:¬k<8)(hf:∀j:Int,0<=j->j<k->dS (a j.toNat) (b j.toNat)=true):cK a b=true:=by grind[cK,cH]
def SD(s:Sh)(a b:El)(i:Nat):BitVec 64:=if(i:Int)<s.aT.length/\(s.aT.getD i uV).kind=4 then jq (s.aT.getD i uV).rel (a i) (b i)else a i|||b i
def fh(s:Sh)(a b:El):El:=fun i=>SD s a b i
def qM(a b:El):El:=fun i=>a i&&&b i
def rY(a b:El)(k:Int):El:=fun i=>if(i:Int)<k then a i else b i
theorem EM(a b:El):rY a b 0=b:=funext fun i=>aP J
theorem Ck{a b:El}{k:Int}{x:BitVec 64}(k0:0<=k)(h:x=a k.toNat):zX (rY a b k) k.toNat x=rY a b (k+1):=by grind[zX,rY]
theorem Wy{a b:El}{k:Int}(k0:0<=k):rY a b k k.toNat=b k.toNat:=aP J
theorem ajm{a b:El}{k:Int}(hk:¬k<8):qK (rY a b k) a:=fun i hi=>aR J
def eM(f:Fc):BitVec 64:=if f.kind≠4 then 0#64 else bN f.rel (DS f.rel (ig f.rel)).1
def ao7(f:Fc):BitVec 64:=if f.kind=1 then aAw f.names.length else if f.kind=2 then below f.names.length else if f.kind=3 then Wu f.rel else bN f.rel (DS f.rel (bN f.rel)).1
def gQ(s:Sh)(f:Fc->BitVec 64):El:=fun i=>if qL s=true/\(i:Int)<s.aT.length then f (s.aT.getD i uV)else 0#64
def xj(f:Fc):Int:=if f.kind=1 then f.names.length-1 else if f.kind=2 then f.names.length else if f.kind=3 then I7 f.rel else(YB f.rel).1
def Bd(s:Sh)(k:Int):Int:=((upto k).map fun i=>xj (s.aT.getD i.toNat uV)).sum
theorem aeC{s:Sh}{k:Int}(k0:0<=k):Bd s k+xj (s.aT.getD k.toNat uV)=Bd s (k+1):=by grind[Bd,j9]
def fY(s:Sh):Int:=if qL s then Bd s s.aT.length else 0
end
end Go.Proofs.YtlhjdflgjbkpmaaGreatDoor.M
namespace Go.Proofs.YtlhjdflgjbkpmaaGreatDoor.E
section
open Go Go.RowKit Go.Proofs.YtlhjdflgjbkpmaaGreatDoor.M
def sC(e:El):List Value:=(List.range 8).map fun i=>U (e i)
@[irreducible] def iU(e:El):Array Value:=(sC e).toArray
theorem gR(e:El):iU e=(sC e).toArray:=by unfold iU;rfl
theorem fw(e:El):(sC e).length=8:=by simp[sC]
theorem JY(e:El):(iU e).size=8:=by rw[gR];simp[sC]
theorem mW(e:El){i:Nat}(h:i<8):(iU e)[0+i*1]?=some (U (e i)):=by grind[gR,sC]
theorem ao8(e:El){k:Int}(h:0<=k/\k<8):(iU e)[k.toNat]?=some (U (e k.toNat)):=by grind[gR,sC]
theorem yx(e:El)(i:Nat)(x:BitVec 64):(iU e).setIfInBounds (0+i*1) (U x)=iU (zX e i x):=by grind[gR,fw,sC,zX]
theorem rh{a b:El}(h:qK a b):iU a=iU b:=by simp_all[El,qK,iU,gR,sC]
theorem aeD:iU dh=Array.replicate 8 (U 0#64):=by rw[gR];rfl
theorem YL(e:El):∀u∈iU e,u.oneCell'=true:=by
 rw[gR];simp[sC]
 exact fun _ _=>rfl
structure pI where
 kind:Int
 nv:Value
 names:List Tx
 rel:Rl
def pI.fc(f:pI):Fc:=⟨f.kind,f.names,f.rel⟩
def rj(f:pI):List Value:=I f.kind::f.nv::uX f.rel
theorem fB(f:pI):(rj f).length=67:=by simp[rj,ox]
abbrev tA(f:pI):Array Value:=(rj f).toArray
def ko:pI:=⟨0,.slice none 0 0,[],Rl.none⟩
theorem KS(f:pI):∀j c,(uX f.rel)[j]?=some c->(rj f)[2+j]?=some c:=by grind[rj]
structure uY(K:Vu)(f:pI):Prop where
 names:n7 K f.nv 1 f.names.length (HS f.names)
theorem uY.mono{K K':Vu}{f:pI}(h:uY K f)(hl:Le K K'):uY K' f:=⟨h.names.mono hl⟩
structure kL where
 tuple:Bool
 fv:Value
 aT:List pI
def kL.sh(s:kL):Sh:=⟨s.tuple,s.aT.map pI.fc⟩
abbrev rp(s:kL):Array Value:=#[B s.tuple,s.fv]
structure kO(K:Vu)(s:kL):Prop where
 aT:n7 K s.fv 67 s.aT.length (s.aT.flatMap rj)
 each:∀f∈s.aT,uY K f
theorem kO.mono{K K':Vu}{s:kL}(h:kO K s)(hl:Le K K'):kO K' s:=⟨h.aT.mono hl,fun f hf=>(h.each f hf).mono hl⟩
theorem sN(s:kL):s.sh.aT.length=s.aT.length:=by simp[kL.sh]
theorem mr(s:kL)(k:Int):s.sh.aT.getD k.toNat uV=(s.aT.getD k.toNat ko).fc:=by
 rw[kL.sh,ep,ep,ph]
 cases s.aT[k.toNat]?<;>rfl
theorem kO.at{K:Vu}{s:kL}(h:kO K s){k:Int}(h0:0<=k)(h1:k<s.aT.length):uY K (s.aT.getD k.toNat ko):=h.each _ (kU (e8 (d:=ko) h0 h1))
section runs
variable{P:Program}{σ:Env}{w:World}{dst:Option Tmp}{ty t u e:TypeId}{pos:String}{bH:Array Edge}{g:Option (Nat×Bool)}{x y:Operand}{b:Nat}{fr:Nat×Nat}
structure ElT(P:Program)(t e:TypeId):Prop where
 u:P.underlying t=some (.array 8 e)
 ue:P.underlying e=some (.int .u64)
 se:∀w,(sizeOf e).run P w= .ok 1 w
 ae:∀w,(isAgg e).run P w= .ok false w
 eg:P.eqGuardType P.depth t=false
theorem ElT.eql(T:ElT P t e)(a b:El)(w:World):(Op.equalIn 10000 t (.agg (iU a)) (.agg (iU b))).run P w= .ok (decide (qK a b)) w:=by
 rw[gR,gR]
 exact amD 9998 a b T.u T.ue T.se T.ae
theorem GH{a b:El}(T:ElT P t e)(hx:ev σ x= .agg (iU a))(hy:ev σ y= .agg (iU b)):
  (execOp (ev σ) ⟨dst,.binOp .eql t x y u,ty,pos,bH,g⟩).run P w= .ok (.value (.bool (decide (qK a b)))) w:=by
 have h:=run_eql_struct (P:=P) w t (iU a) (iU b)
 rw[T.eql]at h
 simp only[execOp,hx,hy,sH,VJ w .eql t x y _ _ T.eg,wg]
 simp[h]
theorem aa1{a b:El}(T:ElT P t e)(hx:ev σ x= .agg (iU a))(hy:ev σ y= .agg (iU b)):
  (execOp (ev σ) ⟨dst,.binOp .neq t x y u,ty,pos,bH,g⟩).run P w= .ok (.value (.bool (!decide (qK a b)))) w:=by
 have h:=run_neq_struct (P:=P) w t (iU a) (iU b)
 rw[T.eql]at h
 simp only[execOp,hx,hy,sH,VJ w .neq t x y _ _ T.eg,wg]
 simp[h]
theorem dR{a:El}{d:TypeDesc}(hu:P.underlying t=some d)(hd:d.isRow=true)(hi:(P.info? t).map (·.size)=some 8)(hx:ev σ x= .pointer (some ⟨b,0,none⟩))
 (hg:w.heap[b]?=some (.cells (iU a) e fr)):(execOp (ev σ) ⟨dst,.load t x,ty,pos,bH,g⟩).run P w= .ok (.value (.agg (iU a))) w:=by grind[gR,cG,fw,bf]
theorem ef{a a0:El}(hi:(P.info? t).map (·.size)=some 8)(hx:ev σ x= .pointer (some ⟨b,0,none⟩))(hy:ev σ y= .agg (iU a))(hg:w.heap[b]?=some (.cells (iU a0) e (0,0))):
 (execOp (ev σ) ⟨dst,.store t x y,ty,pos,bH,g⟩).run P w= .ok .skip (w.setRow b (iU a)):=by grind[dX,JY,YL]
theorem xk{f:pI}{d:TypeDesc}(hu:P.underlying t=some d)(hd:d.isRow=true)(hi:(P.info? t).map (·.size)=some 67)(hx:ev σ x= .pointer (some ⟨b,0,none⟩))
 (hg:w.heap[b]?=some (.cells (tA f) e fr)):(execOp (ev σ) ⟨dst,.load t x,ty,pos,bH,g⟩).run P w= .ok (.value (.agg (tA f))) w:=by grind[cG,fB,bf]
theorem k9{K:Vu}{v:Value}{sz n:Nat}{c:List Value}(h:n7 K v sz n c):v.oneCell'=true/\v.cells=#[v]:=by
 obtain⟨a,cap,rfl,-,-⟩:=h.shape;exact⟨rfl,rfl⟩
theorem SE{K:Vu}{f:pI}(h:uY K f):∀u∈rj f,u.oneCell'=true:=by
 intro u hu
 rw[rj,cT,cT]at hu
 rcases hu with rfl|rfl|hu
 .rfl
 .exact(k9 h.names).1
 exact Kq f.rel u (by rw[iH];simpa using hu)
theorem tG{K:Vu}{f f0:pI}(h:uY K f)(hi:(P.info? t).map (·.size)=some 67)(hx:ev σ x= .pointer (some ⟨b,0,none⟩))(hy:ev σ y= .agg (tA f))(hg:w.heap[b]?=some (.cells (tA f0) e (0,0))):
 (execOp (ev σ) ⟨dst,.store t x y,ty,pos,bH,g⟩).run P w= .ok .skip (w.setRow b (tA f)):=by grind[dX,fB,SE]
theorem ld{d:TypeDesc}{v:Value}{l:List El}{k:Int}(hS:Sl w v 8 l.length (l.flatMap sC))(hu:P.underlying t=some d)(hd:d.isRow=true)(hi:(P.info? t).map (·.size)=some 8)
 (hx:ev σ x= .pointer (some ⟨sb v,so v+k.toNat*8,none⟩)) (hk:0<=k/\k<l.length):(execOp (ev σ) ⟨dst,.load t x,ty,pos,bH,g⟩).run P w= .ok (.value (.agg (iU (l.getD k.toNat dh)))) w:=by grind[gR,fg,fw]
theorem vC{w0:World}{fn:Func}{L:List a8}{i p:Nat}{q:Value->World->Prop}{d:TypeDesc}{c:Array Value}(h:fn.results=#[.cell p ty])(hp:σ p= .pointer (some ⟨b,0,none⟩))(hH:Hp w0 w L)
  (hi:L[i]?=some (.blk b (.cells c e fr))) (hu:P.underlying ty=some d) (hd:d.isRow=true) (hz:(P.info? ty).map (·.size)=some c.size) (hq:q (.agg c) w):Out P fn q σ w:=
 fun n a ha=>⟨_,results_cell_row h _ w b e c fr d (by rw[ha.get,hp]) (hH.blk hi) hu (by cases d<;>simp_all) hz,hq⟩
theorem aeE{d:TypeDesc}{v:Value}{l:List pI}{k:Int}(hS:Sl w v 67 l.length (l.flatMap rj))(hu:P.underlying t=some d)(hd:d.isRow=true)(hi:(P.info? t).map (·.size)=some 65)
  (hx:ev σ x= .pointer (some ⟨sb v,so v+k.toNat*67+2,none⟩)) (hk:0<=k/\k<l.length):
  (execOp (ev σ) ⟨dst,.load t x,ty,pos,bH,g⟩).run P w= .ok (.value (.agg (dK (l.getD k.toNat ko).rel))) w:=by
 rw[iH]
 exact oy fB hS hu hd (by rw[ox];exact hi) hx hk (KS _)
theorem jP{d:TypeDesc}{f:pI}(hu:P.underlying t=some d)(hd:d.isRow=true)(hi:(P.info? t).map (·.size)=some 65)(hx:ev σ x= .pointer (some ⟨b,0+2,none⟩))
  (hg:w.heap[b]?=some (.cells (tA f) e fr)):(execOp (ev σ) ⟨dst,.load t x,ty,pos,bH,g⟩).run P w= .ok (.value (.agg (dK f.rel))) w:=by
 rw[iH]
 refine cG hu hd (by rw[ox];exact hi) hx fun j c hj=> ?_
 rw[wu w b _ _ e fr hg]
 simpa using KS f j c hj
end runs
end
end Go.Proofs.YtlhjdflgjbkpmaaGreatDoor.E
namespace Go.Proofs.YtlhjdflgjbkpmaaGreatDoor.M
theorem rZ(a:BitVec 64):dS a a=true:=ez.2 fun _ h=>h
theorem lf{a b c:BitVec 64}(h:dS a b=true)(h':dS b c=true):dS a c=true:=by grind[ez]
theorem SF{a b:BitVec 64}(h:dS a b=true)(h':dS b a=true):a=b:=tw fun j=>gd.2 ⟨ez.1 h j,ez.1 h' j⟩
theorem EN(a b:BitVec 64):dS b (a|||b)=true:=by grind[dS,Gq]
theorem aeF(a b:BitVec 64):dS (a&&&b) b=true:=by grind[dS,ED]
theorem Wz{a b c:BitVec 64}(h:dS a c=true)(h':dS b c=true):dS (a|||b) c=true:=by grind[ez,IY]
theorem ajT{a b c:BitVec 64}(h:dS c a=true)(h':dS c b=true):dS c (a&&&b)=true:=by grind[ez,eL]
theorem zero_sub(a:BitVec 64):dS 0#64 a=true:=by grind[ez,uj]
theorem Be{n:Int}{w:BitVec 64}(h:(level n w).2=true):(1<=n/\n<=64)/\∃k:Int,(0<=k/\k<n)/\w=below k:=by grind[DN,Kk]
theorem KT{n k:Int}(hn:1<=n/\n<=64)(hk:0<=k/\k<n):(level n (below k)).2=true:=by
 have:=Wo (n:=n) (k:=k) ⟨hn.1,hn.2,hk.1,hk.2⟩
 rw[tF ⟨hn.1,hn.2,hk.1,hk.2⟩]at this
 rw[this]
theorem aeG{r:Rl}{w:BitVec 64}(h:(eC r w).2=true):∃k:Int,(0<=k/\k<pts r)/\w=bN r k:=by
 rcases mR (fun i=>decide (bN r i=w)) (pts r)with⟨k,k0,k1,k2,-,-⟩|⟨-,e⟩
 .exact⟨k,⟨k0,k1⟩,(JD k2).symm⟩
 have:eC r w=(0,false):=e
 rw[this]at h;cases h
def vD(f:Fc)(a b:BitVec 64):BitVec 64:=if f.kind=4 then jq f.rel a b else a|||b
theorem N4{f:Fc}(h:f.kind=1)(w:BitVec 64):jO f w=(level f.names.length w).2:=by rw[jO,aR h]
theorem N5{f:Fc}(h:f.kind=2)(w:BitVec 64):jO f w=dS w (below f.names.length):=by grind[jO]
theorem N6{f:Fc}(h:f.kind=3)(w:BitVec 64):jO f w=oN f.rel w:=by grind[jO]
theorem amI{f:Fc}(h:f.kind=4)(w:BitVec 64):jO f w=(eC f.rel w).2:=by grind[jO]
theorem tH{r:Rl}{w:BitVec 64}(h:oN r w=true):cZ r=true/\fy r w=w:=by grind[oN]
theorem EO{f:Fc}(h:f.kind≠4)(a b:BitVec 64):vD f a b=a|||b:=by rw[vD,aP h]
structure aAQ(f:Fc):Prop where
 l:rV f.rel=true
 n:pts f.rel=f.rel.n
theorem Ir{f:Fc}(h:cL f=true)(h4:f.kind=4):aAQ f:=by
 have hs:=(uq h).2
 rcases hs with hs|hs|hs|hs
 .omega
 .omega
 .omega
 exact⟨hs.2.2,(iI hs.2.2).2.2.1⟩
theorem lj{f:Fc}(h:cL f=true)(h4:f.kind=4){w:BitVec 64}(hw:jO f w=true):∃k:Int,(0<=k/\k<f.rel.n)/\w=bN f.rel k:=by
 rw[amI h4]at hw
 obtain⟨k,hk,e⟩:=aeG hw
 rw[(Ir h h4).n]at hk
 exact⟨k,hk,e⟩
theorem KU{f:Fc}(h:cL f=true)(h4:f.kind=4){k:Int}(hk:0<=k/\k<f.rel.n):jO f (bN f.rel k)=true:=by
 have ht:=Ir h h4
 rw[amI h4,um (iI ht.l).2.1 (by rw[ht.n];exact hk)]
theorem aeH{f:Fc}(h:cL f=true)(h4:f.kind=4){i j:Int}(hi:0<=i/\i<f.rel.n)(hj:0<=j/\j<f.rel.n):vD f (bN f.rel i) (bN f.rel j)=bN f.rel (iC f.rel i j).1:=by
 rw[vD,aR h4,aaV (Ir h h4).l hi hj]
theorem WA{f:Fc}(h:cL f=true)(h4:f.kind=4){i j:Int}(hi:0<=i/\i<f.rel.n)(hj:0<=j/\j<f.rel.n):dS (bN f.rel i) (bN f.rel j)=bE f.rel i j:=by grind[Fc,cL,dS,bN,bE,ajM,Ir]
theorem xl{f:Fc}(h:cL f=true):f.kind=1\/f.kind=2\/(f.kind=3/\cZ f.rel=true)\/f.kind=4:=by grind[Fc,cL,cZ,uq]
section one
variable{f:Fc}(h:cL f=true){a b c:BitVec 64}(ha:jO f a=true)(hb:jO f b=true)(hc:jO f c=true)
include h ha hb
theorem ao9:jO f (vD f a b)=true:=by
 rcases xl h with k|k|⟨k,hr⟩|k
 .rw[EO J]
  rw[N4 k]at*
  obtain⟨hn,i,hi,rfl⟩:=Be ha
  obtain⟨-,j,hj,rfl⟩:=Be hb
  rw[adU];exact KT hn J
 .rw[EO J]
  rw[N5 k]at*;exact Wz ha hb
 .rw[EO J]
  rw[N6 k]at*
  have:=atO hr a b
  rwa[(tH ha).2,(tH hb).2]at this
 obtain⟨i,hi,rfl⟩:=lj h k ha
 obtain⟨j,hj,rfl⟩:=lj h k hb
 rw[aeH h k hi hj];exact KU h k (YH (Ir h k).l hi hj)
theorem apa:jO f (a&&&b)=true:=by
 rcases xl h with k|k|⟨k,hr⟩|k
 .rw[N4 k]at*
  obtain⟨hn,i,hi,rfl⟩:=Be ha
  obtain⟨-,j,hj,rfl⟩:=Be hb
  rw[aaA];exact KT hn J
 .rw[N5 k]at*;exact lf (ED a b) ha
 .rw[N6 k]at*
  have:=ao1 hr a b
  rwa[(tH ha).2,(tH hb).2]at this
 obtain⟨i,hi,rfl⟩:=lj h k ha
 obtain⟨j,hj,rfl⟩:=lj h k hb
 rw[<-aaU (Ir h k).l hi hj];exact KU h k (amG (Ir h k).l hi hj)
theorem aAR:dS a (vD f a b)=true/\dS b (vD f a b)=true:=by
 by_cases k:f.kind=4
 .obtain⟨i,hi,rfl⟩:=lj h k ha
  obtain⟨j,hj,rfl⟩:=lj h k hb
  have hl:=Ir h k
  have hJ:=(I3 hl.l hi hj).2
  rw[aeH h k hi hj,WA h k hi (YH hl.l hi hj),WA h k hj (YH hl.l hi hj)]
  exact⟨hJ.a,hJ.b⟩
 rw[EO k];exact⟨Gq a b,EN a b⟩
include hc
theorem atQ(h1:dS a c=true)(h2:dS b c=true):dS (vD f a b) c=true:=by
 by_cases k:f.kind=4
 .obtain⟨i,hi,rfl⟩:=lj h k ha
  obtain⟨j,hj,rfl⟩:=lj h k hb
  obtain⟨m,hm,rfl⟩:=lj h k hc
  have hl:=Ir h k
  rw[WA h k hi hm]at h1;rw[WA h k hj hm]at h2
  rw[aeH h k hi hj,WA h k (YH hl.l hi hj) hm]
  exact(I3 hl.l hi hj).2.l m h1 h2
 rw[EO k];exact Wz h1 h2
end one
theorem ajU{f:Fc}(h:cL f=true):jO f (eM f)=true/\∀a,jO f a=true->dS (eM f) a=true:=by
 have hn:=(uq h).1
 rcases xl h with k|k|⟨k,hr⟩|k
 .rw[eM,aR J]
  refine⟨?_,fun a _=>zero_sub a⟩
  rw[N4 k,show(0#64)=below 0 from O];exact KT J J
 .rw[eM,aR J]
  exact⟨by rw[N5 k];exact zero_sub _,fun a _=>zero_sub a⟩
 .rw[eM,aR J]
  refine⟨?_,fun a _=>zero_sub a⟩
  rw[N6 k]
  refine GF hr (tw fun z=> ?_)
  rw[uj]
  cases hc:hasB (fy f.rel 0#64) z with
  |false=>rfl
  |true=>
   obtain⟨o,x,p,y,-,-,-,h4⟩:=(iR hr _ z).1 hc
   rw[uj]at h4;cases h4
 have ht:=Ir h k
 have he:=ajO ht.l
 rw[eM,aP J]
 refine⟨KU h k he.2.1,fun a ha=> ?_⟩
 obtain⟨i,hi,rfl⟩:=lj h k ha
 rw[WA h k he.2.1 hi];exact he.2.2 i hi.1 hi.2
theorem py{s:Sh}{e:El}(h:cf s e=true):qL s=true/\∀i:Nat,i<8->(((i:Int)<s.aT.length->jO (s.aT.getD i uV) (e i)=true)/\(¬(i:Int)<s.aT.length->e i=0#64)):=by
 rw[cf,cm,iq]at h
 refine⟨h.1,fun i hi=> ?_⟩
 have:=h.2 (i:Int) (cH.2 J)
 rw[dW]at this
 split at this
 .rename_i h3;exact⟨fun _=>this,fun h4=>absurd h3 h4⟩
 rename_i h3;exact⟨fun h4=>absurd h4 h3,fun _=>JD this⟩
theorem Qi{s:Sh}{e:El}(h:qL s=true)(hf:∀i:Nat,i<8->(((i:Int)<s.aT.length->jO (s.aT.getD i uV) (e i)=true)/\(¬(i:Int)<s.aT.length->e i=0#64))):cf s e=true:=
 KR h (k:=8) J fun j j0 j1=>by
  have:=hf j.toNat J
  rw[fF j0]at this;exact this
theorem oO{a b:El}:cK a b=true↔∀i:Nat,i<8->dS (a i) (b i)=true:=by grind[cK,List.all_eq_true,cH,Int.toNat_natCast]
theorem KV{s:Sh}{a b:El}{i:Nat}(h:(i:Int)<s.aT.length):fh s a b i=vD (s.aT.getD i uV) (a i) (b i):=by simp_all[Sh,El,fh,vD,uV,SD]
theorem GI{s:Sh}{a b:El}{i:Nat}(h:¬(i:Int)<s.aT.length):fh s a b i=a i|||b i:=by
 show SD s a b i=_
 rw[SD,aP (fun hc=>h hc.1)]
theorem Bf{s:Sh}(h:qL s=true){i:Nat}(hi:(i:Int)<s.aT.length):cL (s.aT.getD i uV)=true:=by grind[aeB,Int.toNat_natCast]
section elems
variable{s:Sh}{a b c:El}(ha:cf s a=true)(hb:cf s b=true)(hc:cf s c=true)
include ha hb
theorem GJ:cf s (fh s a b)=true:=by grind[py,Qi,KV,ao9,Bf,GI]
theorem apb:cf s (qM a b)=true:=by grind[cf,qM,py,Qi,apa,Bf]
theorem WB:cK a (fh s a b)=true/\cK b (fh s a b)=true:=by grind[py,oO,KV,aAR,Bf,GI,Gq,EN]
include hc
theorem YM(h1:cK a c=true)(h2:cK b c=true):cK (fh s a b) c=true:=by grind[py,oO,KV,atQ,Bf,GI,Wz]
end elems
theorem apc(a b:El):cK (qM a b) a=true/\cK (qM a b) b=true:=by simp_all[El,cK,qM,oO,ED,aeF]
theorem atS{a b c:El}(h1:cK c a=true)(h2:cK c b=true):cK c (qM a b)=true:=by simp_all[El,cK,qM,oO,ajT]
theorem WC{a b:El}(h1:cK a b=true)(h2:cK b a=true):qK a b:=fun i hi=>SF (oO.1 h1 i hi) (oO.1 h2 i hi)
theorem YN{s:Sh}{f:Fc->BitVec 64}{i:Nat}(h:qL s=true)(hi:(i:Int)<s.aT.length):gQ s f i=f (s.aT.getD i uV):=aR ⟨h,hi⟩
theorem SG{s:Sh}{f:Fc->BitVec 64}{i:Nat}(hi:¬(i:Int)<s.aT.length):gQ s f i=0#64:=aP fun h=>hi h.2
theorem N7{s:Sh}(h:qL s=true):cf s (gQ s eM)=true/\∀a,cf s a=true->cK (gQ s eM) a=true:=by grind[Qi,SG,oO,YN,ajU,Bf,py,zero_sub]
def KW(r:Rl)(k:Int):Nat:=((List.range 65).filter fun v=>decide (1<=v)&&hasB (xP r v) k).length
theorem aa2{r:Rl}(ho:fO r=true){k:Int}(hk:0<=k/\k<pts r):∀m:Nat,hasB (xP r m) k=true->(∀v,m<v->hasB (xP r v) k=false)->KW r k=m:=fun m hm hno=>by
 have hp:=dr r
 have hlt:=aem ho hm
 have e:((List.range 65).filter fun v=>decide (1<=v)&&hasB (xP r v) k)=(List.range m).map (· +1):=by
  have h1:List.range 65=0::((List.range m).map (· +1)++(List.range (64-m)).map (· +(m+1))):=by
   rw[show 65=(m+(64-m))+1 by omega,Vj,VN,gp,JQ]
   simp only[JI,true_and]
   congr 1
   refine FT fun x _=> ?_
   simp only[Function.comp];omega
  rw[h1,xT aA,Pv]
  have h2:((List.range m).map (· +1)).filter (fun v=>decide (1<=v)&&hasB (xP r v) k)=(List.range m).map (· +1):=by
   rw[List.filter_eq_self]
   intro v hv
   rw[fI]at hv
   obtain⟨x,hx,rfl⟩:=hv
   rw[pn]at hx
   rw[Sn (show x+1<=m by omega) hm];simp
  have h3:((List.range (64-m)).map (· +(m+1))).filter (fun v=>decide (1<=v)&&hasB (xP r v) k)=[]:=by
   rw[List.filter_eq_nil_iff]
   intro v hv
   rw[fI]at hv
   obtain⟨x,-,rfl⟩:=hv
   rw[hno _ J];simp
  rw[h2,h3,lU]
 rw[KW,e,fx,Py]
theorem Qj{r:Rl}(ho:fO r=true){k:Int}(hk:0<=k/\k<pts r):∃m:Nat,hasB (xP r m) k=true/\(∀v,m<v->hasB (xP r v) k=false)/\KW r k=m:=by
 have hp:=dr r
 have h0:hasB (xP r 0) k=true:=(nj _ _).2 J
 have key:∀n:Nat,(∃m,m<=n/\hasB (xP r m) k=true/\∀v,m<v->v<=n->hasB (xP r v) k=false):=fun n=>by
  induction n with
  |zero=>exact⟨0,eI _,h0,fun v h1 h2=>J⟩
  |succ n ih=>
   obtain⟨m,h1,h2,h3⟩:=ih
   cases hc:hasB (xP r (n+1)) k with
   |true=>exact⟨n+1,eI _,hc,fun v h4 h5=>J⟩
   |false=>
    refine⟨m,J,h2,fun v h4 h5=> ?_⟩
    by_cases he:v=n+1
    .rw[he];exact hc
    exact h3 v h4 J
 obtain⟨m,h1,h2,h3⟩:=key 64
 have hno:∀v,m<v->hasB (xP r v) k=false:=fun v hv=>by
  by_cases hv2:v<=64
  .exact h3 v hv hv2
  .cases hc:hasB (xP r v) k with
   |false=>rfl
   |true=>have:=aem ho hc;omega
 exact⟨m,h2,hno,aa2 ho hk m h2 hno⟩
theorem ajV{r:Rl}(ho:fO r=true){i j:Int}(h:bE r i j=true)(hne:j≠i):KW r i<KW r j:=by
 have hb:=ku h
 obtain⟨m,h1,h2,h3⟩:=Qj ho hb.1
 obtain⟨m',h4,h5,h6⟩:=Qj ho hb.2
 rw[h3,h6]
 have h7:=ael m h1 h hne
 by_cases hle:m'<=m
 .rw[h5 (m+1) J]at h7;cases h7
 omega
theorem aa3{r:Rl}(ho:fO r=true){k:Int}(hk:0<=k/\k<pts r):(KW r k:Int)<=(YB r).1:=by
 obtain⟨m,h1,h2,h3⟩:=Qj ho hk
 obtain⟨t,h4,h5,h6⟩:=Gw ho 65 0 O (.inl O)
 have h4':Ky r 65 (below (pts r)) 0=(t:Int):=h4
 rw[YB,aR ho,h4',h3]
 by_cases hle:m<=t
 .show(m:Int)<=t;omega
 have:=Sn (show t+1<=m by omega) h1
 rw[h5,uj]at this;cases this
def ur(f:Fc)(w:BitVec 64):Nat:=if f.kind=3 then((upto 64).filter fun i=>KL f.rel i&&hasB w i).length else if f.kind=4 then KW f.rel (eC f.rel w).1 else(fZ w).length
theorem filter_lt{A B:Int->Bool}:∀l:List Int,(∀x∈l,A x=true->B x=true)->(∃x∈l,B x=true/\A x=false)->(l.filter A).length<(l.filter B).length
 |[],_,h=>by obtain⟨x,hx,_⟩:=h;simp at hx
 |y::l,h1,h2=>by
  have hle:∀m:List Int,(∀x∈m,A x=true->B x=true)->(m.filter A).length<=(m.filter B).length:=fun m hm=>by
   induction m with
   |nil=>simp
   |cons z m ih=>
    have:=ih fun x hx=>hm x pY
    have hz:=hm z aA
    cases ha:A z with
    |true=>rw[wc ha,wc (hz ha)];simp;omega
    |false=>
     rw[xT (by simp[ha])]
     cases hb:B z with
     |true=>rw[wc hb];simp;omega
     |false=>rw[xT (by simp[hb])];exact this
  have hl:=hle l fun x hx=>h1 x pY
  have hy:=h1 y aA
  obtain⟨x,hx,hbx,hax⟩:=h2
  rcases cT.1 hx with rfl|hx
  .rw[xT (by simp[hax]),wc hbx];simp;omega
  have ih:=filter_lt l (fun z hz=>h1 z (by simp[hz])) ⟨x,hx,hbx,hax⟩
  cases ha:A y with
  |true=>rw[wc ha,wc (hy ha)];simp;omega
  |false=>
   rw[xT (by simp[ha])]
   cases hb:B y with
   |true=>rw[wc hb];simp;omega
   |false=>rw[xT (by simp[hb])];exact ih
theorem apd{a b:BitVec 64}(h:dS a b=true)(hne:a≠b):∃j:Int,hasB b j=true/\hasB a j=false:=by grind[SF,ez,hasB]
theorem KX{r:Rl}(h:cZ r=true){w:BitVec 64}(hw:fy r w=w){o x p y:Int}(h1:bE r o p=true)(h2:bE r x y=true)(h3:hasB w (8*p+y)=true):hasB w (8*o+x)=true:=by grind[iR]
theorem SH{f:Fc}(h:cL f=true){a b:BitVec 64}(ha:jO f a=true)(hb:jO f b=true)(hs:dS a b=true)(hne:a≠b):ur f a<ur f b:=by
 obtain⟨j,hj1,hj2⟩:=apd hs hne
 by_cases k3:f.kind=3
 .have hr:cZ f.rel=true:=by
   rcases xl h with k|k|⟨-,hr⟩|k
   .omega
   .omega
   .exact hr
   omega
  rw[N6 k3]at ha hb
  have ca:=(tH ha).2;have cb:=(tH hb).2
  rw[ur,ur,aR k3,aR k3]
  refine filter_lt _ (fun x _ hx=> ?_) ?_
  .rw[cm]at hx⊢;exact⟨hx.1,ez.1 hs x hx.2⟩
  have hsp:=gx hr
  have atT:=hj1
  rw[<-cb]at atT
  obtain⟨o,x,p,y,rfl,h1,h2,-⟩:=(iR hr b j).1 atT
  have b1:=zV hr h1;have b2:=zV hr h2
  obtain⟨q,q1,q2,q3,q4⟩:=Ww hr o.toNat o J b1.1.1 b1.1.2
  obtain⟨t,t1,t2,t3,t4⟩:=Ww hr x.toNat x J b2.1.1 b2.1.2
  have nq:=(KK hr q).1 q2;have nt:=(KK hr t).1 t2
  refine⟨8*q+t,cH.2 J,?_,?_⟩
  .rw[KL,show(8*q+t)/8=q by omega,show(8*q+t)%8=t by omega,q2,t2,KX hr cb q4 t4 hj1];rfl
  .cases hc:hasB a (8*q+t)with
   |false=>simp
   |true=>rw[KX hr ca q3 t3 hc]at hj2;cases hj2
 by_cases k4:f.kind=4
 .obtain⟨i,hi,rfl⟩:=lj h k4 ha
  obtain⟨m,hm,rfl⟩:=lj h k4 hb
  have ht:=Ir h k4
  have ho:=(iI ht.l).2.1
  rw[WA h k4 hi hm]at hs
  rw[ur,ur,aP k3,aP k3,aR k4,aR k4,um ho (by rw[ht.n];exact hi),um ho (by rw[ht.n];exact hm)]
  exact ajV ho hs fun e=>hne (by have e2:m=i:=e;rw[e2])
 rw[ur,ur,aP k3,aP k3,aP k4,aP k4]
 exact aei (ez.1 hs) hj1 hj2
theorem N8{k:Int}(h0:0<=k)(h:k<=64):(fZ (below k)).length=k.toNat:=by
 have e:fZ (below k)=upto k:=yo (q7 _) (vA _) fun x=>by rw[fN,nj,cH];omega
 rw[e,rS]
theorem aeI{f:Fc}(h:cL f=true){a:BitVec 64}(ha:jO f a=true):(ur f a:Int)<=xj f:=by
 have hn:=(uq h).1
 rcases xl h with k|k|⟨k,hr⟩|k
 .rw[N4 k]at ha
  obtain⟨-,i,hi,rfl⟩:=Be ha
  rw[ur,aP J,aP J,xj,aR k,N8 hi.1 J];omega
 .rw[N5 k]at ha
  rw[ur,aP J,aP J,xj,aP J,aR k]
  have:=Gu (fZ a) (fZ (below f.names.length)) (Gv a) fun x hx=>(fN _ _).2 (ez.1 ha x ((fN _ _).1 hx))
  rw[N8 J J]at this;omega
 .rw[ur,aR k,xj,aP J,aP J,aR k,<-aaY hr O,ao2,fx]
  have:∀l:List Int,(l.filter fun i=>KL f.rel i&&hasB a i).length<=(l.filter (KL f.rel)).length:=fun l=>by
   induction l with
   |nil=>simp
   |cons z l ih=>
    cases hg:KL f.rel z with
    |true=>
     rw[wc hg]
     cases hz:hasB a z with
     |true=>rw[wc (by simp[hg,hz])];simp;omega
     |false=>rw[xT (by simp[hz])];simp;omega
    |false=>rw[xT (by simp[hg]),xT (by simp[hg])];exact ih
  have:=this (upto 64)
  omega
 obtain⟨i,hi,rfl⟩:=lj h k ha
 have ht:=Ir h k
 have ho:=(iI ht.l).2.1
 rw[ur,aP J,aR k,xj,aP J,aP J,aP J,um ho (by rw[ht.n];exact hi)]
 exact aa3 ho (by rw[ht.n];exact hi)
def DV(s:Sh)(e:El)(k:Int):Int:=((upto k).map fun i=>(ur (s.aT.getD i.toNat uV) (e i.toNat):Int)).sum
def l6(s:Sh)(e:El):Int:=DV s e s.aT.length
theorem Qk{F G:Int->Int}:∀l:List Int,(∀x∈l,F x<=G x)->(l.map F).sum<=(l.map G).sum
 |[],_=>by simp
 |y::l,h=>by
  have:=Qk l fun x hx=>h x pY
  have:=h y aA
  simp;omega
theorem aeJ{F G:Int->Int}:∀l:List Int,(∀x∈l,F x<=G x)->(∃x∈l,F x<G x)->(l.map F).sum<(l.map G).sum
 |[],_,h=>by obtain⟨x,hx,_⟩:=h;simp at hx
 |y::l,h,h2=>by
  have hle:=Qk l fun x hx=>h x pY
  have hy:=h y aA
  obtain⟨x,hx,WD⟩:=h2
  rcases cT.1 hx with rfl|hx
  .simp;omega
  have:=aeJ l (fun z hz=>h z (by simp[hz])) ⟨x,hx,WD⟩
  simp;omega
theorem aeK(s:Sh)(e:El):0<=l6 s e:=by
 have:=Qk (F:=fun _=>0) (G:=fun i=>(ur (s.aT.getD i.toNat uV) (e i.toNat):Int)) (upto s.aT.length) fun x _=>by omega
 rw[l6,DV]
 refine JR ?_ this
 have hz:∀l:List Int,(l.map fun _=>(0:Int)).sum=0:=fun l=>by
  induction l with
  |nil=>rfl
  |cons y l ih=>rw[kV,Dz,ih];rfl
 rw[hz];exact kY _
theorem aeL{s:Sh}{e:El}(h:cf s e=true):l6 s e<=fY s:=by
 have hf:=py h
 have hs:=yw hf.1
 rw[fY,aR hf.1,l6,DV,Bd]
 refine Qk _ fun x hx=> ?_
 have:=cH.1 hx
 have h2:=(hf.2 x.toNat J).1 J
 exact aeI (Bf hf.1 J) h2
theorem aeM{s:Sh}{a b:El}(ha:cf s a=true)(hb:cf s b=true)(hl:cK a b=true)(hne:¬qK b a):l6 s a<l6 s b:=by
 have fa:=py ha;have fb:=py hb
 have hs:=yw fa.1
 rw[oO]at hl
 have hex:∃i:Nat,i<8/\b i≠a i:=Po fun hno=>hne fun i hi=>Po fun h=>hno ⟨i,hi,h⟩
 obtain⟨i,hi,hd⟩:=hex
 have hin:(i:Int)<s.aT.length:=Po fun h=>hd (by rw[(fb.2 i hi).2 h,(fa.2 i hi).2 h])
 rw[l6,l6,DV,DV]
 refine aeJ _ (fun x hx=> ?_) ⟨i,cH.2 J,?_⟩
 .have:=cH.1 hx
  have hx8:x.toNat<8:=J
  have WD:((x.toNat:Nat):Int)<s.aT.length:=J
  by_cases he:a x.toNat=b x.toNat
  .rw[he];exact kY _
  have:=SH (Bf fa.1 WD) ((fa.2 _ hx8).1 WD) ((fb.2 _ hx8).1 WD) (hl _ hx8) he
  omega
 rw[dW]
 have:=SH (Bf fa.1 hin) ((fa.2 i hi).1 hin) ((fb.2 i hi).1 hin) (hl i hi) (fun e=>hd e.symm)
 omega
theorem KY{f:Fc}(h:gH f.names=false):cL f=false:=by rw[cL,h];rfl
theorem WE{f:Fc}(h:gH f.names=true)(hk:f.kind=1\/f.kind=2):cL f=decide (pts f.rel=0):=by grind[cL]
theorem YO{f:Fc}(h:gH f.names=true)(hk:f.kind=1\/f.kind=2):cL f=decide ((ed f.rel).eq (ed Rl.none)):=by grind[WE,aa0]
theorem atV{f:Fc}(h:gH f.names=true)(hk:f.kind=3):cL f=(decide (f.rel.n=f.names.length)&&cZ f.rel):=by grind[cL]
theorem atW{f:Fc}(h:gH f.names=true)(hk:f.kind=4):cL f=(decide (f.rel.n=f.names.length)&&rV f.rel):=by grind[cL]
theorem amJ{f:Fc}(h1:¬f.kind=1)(h2:¬f.kind=2)(h3:¬f.kind=3)(h4:¬f.kind=4):cL f=false:=by grind[cL]
theorem aeN{f:Fc}(hk:f.kind=3)(h:¬f.rel.n=f.names.length):cL f=false:=by grind[cL]
theorem aeO{f:Fc}(hk:f.kind=4)(h:¬f.rel.n=f.names.length):cL f=false:=by grind[cL]
theorem aeP{f:Fc}(h:gH f.names=true)(hk:f.kind=3)(hn:f.rel.n=f.names.length):cL f=cZ f.rel:=by grind[atV]
theorem aeQ{f:Fc}(h:gH f.names=true)(hk:f.kind=4)(hn:f.rel.n=f.names.length):cL f=rV f.rel:=by grind[atW]
theorem amK{f:Fc}(h1:¬f.kind=1)(h2:¬f.kind=2)(h3:¬f.kind=3)(w:BitVec 64):jO f w=(eC f.rel w).2:=by grind[jO]
theorem ape{f:Fc}(h:cL f=true)(hk:f.kind=3)(w:BitVec 64):jO f w=decide (fy f.rel w=w):=by grind[N6,oN,xl]
theorem ajW{f:Fc}(h:cL f=true):0<=xj f/\xj f<=64:=by
 have hn:=(uq h).1
 rcases(uq h).2 with k|k|⟨k,k2,k3⟩|⟨k,k2,k3⟩
 .rw[xj,aR k.1];omega
 .rw[xj,aP J,aR k.1];omega
 .rw[xj,aP J,aP J,aR k,<-KH k3]
  have hs:=gx k3
  have hb:= @aoY f.rel (pts f.rel) J
  have h1:0<=zB f.rel (pts f.rel)*zB f.rel (pts f.rel):=Int.mul_nonneg hb.1 hb.1
  have h2:zB f.rel (pts f.rel)*zB f.rel (pts f.rel)<=8*8:=Int.mul_le_mul J J hb.1 J
  omega
 rw[xj,aP J,aP J,aP J]
 obtain⟨m,h1,-,h3⟩:=Gw (iI k3).2.1 65 0 O (.inl O)
 have h1':Ky f.rel 65 (below (pts f.rel)) 0=(m:Int):=h1
 rw[YB,aR (iI k3).2.1,h1']
 have hp:=dr f.rel
 rcases h3 with h3|h3
 .subst h3;exact⟨kY _,J⟩
 have:=I0 (iI k3).2.1 m h3
 have:=YC h3
 show 0<=(m:Int)/\(m:Int)<=64
 omega
theorem Ql{s:Sh}(h:qL s=true):∀k:Nat,(k:Int)<=s.aT.length->0<=Bd s k/\Bd s k<=64*k
 |0,_=>⟨kY _,kY _⟩
 |k+1,hk=>by
  have ih:=Ql h k J
  have h1:=aeC (s:=s) (k:=(k:Int)) J
  have h2:=ajW (aeB h (k:=(k:Int)) J J)
  have h3:Bd s ((k+1:Nat):Int)=Bd s ((k:Int)+1):=rfl
  rw[h3,<-h1];omega
theorem ajX{s:Sh}(h:qL s=true){k:Int}(k0:0<=k)(hk:k<=s.aT.length):0<=Bd s k/\Bd s k<=512:=by
 have h1:=Ql h k.toNat J
 have h2:=(yw h).1
 rw[fF k0]at h1;omega
theorem aeR{s:Sh}{f:Fc->BitVec 64}{k:Int}(hk:k=s.aT.length):qK (rY (gQ s f) dh k) (gQ s f):=fun i hi=>by
 unfold rY
 by_cases h:(i:Int)<k
 .rw[aR h]
 rw[aP h,SG J];rfl
theorem ajY{s:Sh}{f:Fc->BitVec 64}(h:qL s=false):qK dh (gQ s f):=fun i hi=>by
 rw[gQ,aP (by rw[h];simp)];rfl
theorem aeS{s:Sh}{f:Fc->BitVec 64}{e:El}{k:Int}(h:qL s=true)(he:e=rY (gQ s f) dh k)(k0:0<=k)(k1:k<s.aT.length):zX e k.toNat (f (s.aT.getD k.toNat uV))=rY (gQ s f) dh (k+1):=by grind[Ck,YN]
theorem aeT{a b e:El}{k:Int}(he:e=rY (qM a b) a k)(k0:0<=k):zX e k.toNat (e k.toNat&&&b k.toNat)=rY (qM a b) a (k+1):=by
 subst he
 exact Ck k0 (by rw[Wy k0];rfl)
theorem ajZ{s:Sh}{a b:El}{k:Int}(k0:0<=k)(k1:k<s.aT.length)(h4:(s.aT.getD k.toNat uV).kind=4):fh s a b k.toNat=jq (s.aT.getD k.toNat uV).rel (a k.toNat) (b k.toNat):=aR ⟨J,h4⟩
theorem aj0{s:Sh}{a b:El}{k:Int}(k0:0<=k)(h:¬(k<s.aT.length/\(s.aT.getD k.toNat uV).kind=4)):fh s a b k.toNat=a k.toNat|||b k.toNat:=aP fun hc=>h ⟨J,hc.2⟩
def aJm(t:Bool):Fc->BitVec 64:=if t=true then ao7 else eM
def Ng(l:List Tx):Bool:=decide (70<l.length)||l.any fun t=>decide (40<t.size)
def SI(s:Sh):Bool:=decide (12<s.aT.length)||s.aT.any fun f=>Ng f.names
theorem atX{s:Sh}(h:12<s.aT.length):SI s=true:=by grind[SI]
theorem amL{s:Sh}{k:Int}(k0:0<=k)(k1:k<s.aT.length)(h:Ng (s.aT.getD k.toNat uV).names=true):SI s=true:=by
 rw[SI,oR,Dv]
 exact .inr ⟨_,kU (e8 (d:=uV) k0 k1),h⟩
theorem apf{l:List Tx}(h:70<l.length):Ng l=true:=by grind[Ng]
theorem apg{l:List Tx}{k:Int}(k0:0<=k)(k1:k<l.length)(h:40<(l.getD k.toNat o4).size):Ng l=true:=by
 rw[Ng,oR,Dv]
 exact .inr ⟨_,kU (e8 (d:=o4) k0 k1),gq h⟩
theorem aj1{l:List Tx}{k:Int}(h:¬70<l.length)(hk:¬k<l.length)(hf:∀j:Int,0<=j->j<k->¬40<(l.getD j.toNat o4).size):Ng l=false:=by
 rw[Ng,gm h,Bool.false_or,VC]
 intro x hx
 obtain⟨i,hi,rfl⟩:=qR hx
 have:=hf i J J
 rw[dW,ep,dO hi]at this
 simpa using this
theorem aph{s:Sh}{k:Int}(h:¬12<s.aT.length)(hk:¬k<s.aT.length)(hf:∀j:Int,0<=j->j<k->Ng (s.aT.getD j.toNat uV).names=false):SI s=false:=by
 rw[SI,gm h,Bool.false_or,VC]
 intro x hx
 obtain⟨i,hi,rfl⟩:=qR hx
 have:=hf i J J
 rw[dW,ep,dO hi]at this
 simpa using this
end Go.Proofs.YtlhjdflgjbkpmaaGreatDoor.M
namespace Go.Proofs.YtlhjdflgjbkpmaaGreatDoor.E
section
open Go Go.RowKit Go.Proofs.YtlhjdflgjbkpmaaGreatDoor.M
theorem aa4{s:kL}{a b e:El}{k:Int}(he:e=rY (fh s.sh a b) a k)(k0:0<=k)(k1:k<s.aT.length)(h4:(s.aT.getD k.toNat ko).kind=4):zX e k.toNat (jq (s.aT.getD k.toNat ko).rel (e k.toNat) (b k.toNat))=rY (fh s.sh a b) a (k+1):=by
 subst he
 exact Ck k0 (by rw[Wy k0,ajZ k0 (by rw[sN];exact k1) (by rw[mr];exact h4),mr];rfl)
theorem N9{s:kL}{a b e:El}{k:Int}(he:e=rY (fh s.sh a b) a k)(k0:0<=k)(h:¬(k<s.aT.length/\(s.aT.getD k.toNat ko).kind=4)):zX e k.toNat (e k.toNat|||b k.toNat)=rY (fh s.sh a b) a (k+1):=by
 subst he
 exact Ck k0 (by rw[Wy k0,aj0 k0 (by rw[sN,mr];exact h)])
def zY(s:kL):List Value:=[B s.tuple,s.fv]
theorem KZ(s:kL):(zY s).length=2:=rfl
def Cy:kL:=⟨false,.slice none 0 0,[]⟩
structure Oa(K:Vu)(l:List kL):Prop where
 each:∀s∈l,kO K s
theorem Oa.at{K:Vu}{l:List kL}(h:Oa K l){k:Int}(h0:0<=k)(h1:k<l.length):kO K (l.getD k.toNat Cy):=h.each _ (kU (e8 (d:=Cy) h0 h1))
theorem Oa.mono{K K':Vu}{l:List kL}(h:Oa K l)(hl:Le K K'):Oa K' l:=⟨fun s hs=>(h.each s hs).mono hl⟩
structure r5(K:Vu)(l:List pI):Prop where
 each:∀f∈l,uY K f
theorem r5.mono{K K':Vu}{l:List pI}(h:r5 K l)(hl:Le K K'):r5 K' l:=⟨fun s hs=>(h.each s hs).mono hl⟩
theorem r5.nil(K:Vu):r5 K []:=⟨fun f hf=>by simp at hf⟩
theorem r5.snoc{K:Vu}{l:List pI}{f:pI}(h:r5 K l)(hf:uY K f):r5 K (l++[f]):=⟨fun x hx=>by
 rcases eF.1 hx with hx|hx
 .exact h.each x hx
 simp at hx;subst hx;exact hf⟩
theorem r5.app{K:Vu}{l m:List pI}(h:r5 K l)(hf:r5 K m):r5 K (l++m):=⟨fun x hx=>by
 rcases eF.1 hx with hx|hx
 .exact h.each x hx
 exact hf.each x hx⟩
theorem r5.at{K:Vu}{l:List pI}(h:r5 K l){k:Int}(h0:0<=k)(h1:k<l.length):uY K (l.getD k.toNat ko):=h.each _ (kU (e8 (d:=ko) h0 h1))
def zD(l:List kL):List Fc:=l.flatMap fun s=>s.sh.aT
theorem aa5{l:List kL}{k:Int}(h0:0<=k)(h1:k<l.length):zD (l.take (k+1).toNat)=zD (l.take k.toNat)++(l.getD k.toNat Cy).sh.aT:=by
 have h2:k.toNat<l.length:=J
 rw[show(k+1).toNat=k.toNat+1 by omega,xX,zD,Dq,ep,dO h2]
 simp[zD]
theorem aeU{l:List kL}{k:Int}(h:¬k<l.length):zD (l.take k.toNat)=zD l:=by grind[List.take_of_length_le]
theorem GK{l:List pI}{k:Int}(h0:0<=k)(h1:k<l.length):(l.take (k+1).toNat).map pI.fc=(l.take k.toNat).map pI.fc++[(l.getD k.toNat ko).fc]:=by
 have h2:k.toNat<l.length:=J
 rw[show(k+1).toNat=k.toNat+1 by omega,xX,gp,ep,dO h2]
 simp
theorem aj2{b:Bool}{v:Value}(h:v.oneCell'=true):∀u∈(#[B b,v]:Array Value),u.oneCell'=true:=fun u hu=>by
 simp only[JG,cT,List.not_mem_nil,AP]at hu
 rcases hu with rfl|rfl
 .rfl
 exact h
theorem aj3{Z L:List a8}{i:Nat}{x:a8}(h:L[i]?=some x):(Z++L)[Z.length+i]?=some x:=by grind
theorem K0{K:Vu}{f:pI}(h:uY K f):∀u∈[f].flatMap rj,u.oneCell'=true:=by simpa using SE h
theorem aa6{K:Vu}{f:pI}{v:Value}(h:uY K f)(hv:v.oneCell'=true):∀u∈rj {f with nv:=v},u.oneCell'=true:=by
 intro u hu
 rw[rj,cT,cT]at hu
 rcases hu with rfl|rfl|hu
 .rfl
 .exact hv
 exact Kq f.rel u (by rw[iH];simpa using hu)
section runs
variable{P:Program}{σ:Env}{w:World}{dst:Option Tmp}{ty t u e:TypeId}{pos:String}{bH:Array Edge}{g:Option (Nat×Bool)}{x y:Operand}{b:Nat}{fr:Nat×Nat}
theorem WG{f f0:pI}(h:∀u∈rj f,u.oneCell'=true)(hi:(P.info? t).map (·.size)=some 67)(hx:ev σ x= .pointer (some ⟨b,0,none⟩))(hy:ev σ y= .agg (tA f))(hg:w.heap[b]?=some (.cells (tA f0) e (0,0))):
 (execOp (ev σ) ⟨dst,.store t x y,ty,pos,bH,g⟩).run P w= .ok .skip (w.setRow b (tA f)):=by grind[dX,fB]
theorem WH{f:pI}{v:Value}(hi:(P.info? t).map (·.size)=some 1)(hx:ev σ x= .pointer (some ⟨b,0+1,none⟩))(hy:ev σ y=v)(hv:v.cells=#[v])(h1:v.oneCell'=true)(hg:w.heap[b]?=some (.cells (tA f) e (0,0))):
  (execOp (ev σ) ⟨dst,.store t x y,ty,pos,bH,g⟩).run P w= .ok .skip (w.setRow b (tA {f with nv:=v})):=by
 have h:=bM (P:=P) (dst:=dst) (ty:=ty) (pos:=pos) (bH:=bH) (g:=g) hi hx hy hv h1 hg (by simp[fB])
 rw[h];congr 2
theorem aeV{K:Vu}{s:kL}(h:kO K s):∀u∈rp s,u.oneCell'=true:=by
 intro u hu
 have h1:=k9 h.aT
 simp at hu
 rcases hu with rfl|rfl
 .rfl
 exact h1.1
theorem GL{K:Vu}{s:kL}{c:Array Value}(h:kO K s)(hi:(P.info? t).map (·.size)=some 2)(hx:ev σ x= .pointer (some ⟨b,0,none⟩))(hy:ev σ y= .agg (rp s))(hg:w.heap[b]?=some (.cells c e (0,0)))(hc:c.size=2):
 (execOp (ev σ) ⟨dst,.store t x y,ty,pos,bH,g⟩).run P w= .ok .skip (w.setRow b (rp s)):=by grind[dX,aeV]
theorem yy{len:Nat}{ps:List (Nat×Operand)}{l:List pI}{ie:TypeInfo}{z:Value}
  (hu:P.underlying t=some (.slice e)) (hie:P.info? e=some ie) (hz:ie.zero=some z) (hsz:ie.size=67) (hl:l.length=len) (hsmall:¬len*67>2^24) (hpos:¬len*67=0)
  (h:ps.map (fun p=>(p.1,ev σ p.2))=((l.map fun f=>Value.agg (tA f)).zipIdx.map fun p=>(p.2,p.1))):
  (execOp (ev σ) ⟨dst,.buildSlice t len ps.toArray,ty,pos,bH,g⟩).run P w= .ok (.value (.slice (some ⟨w.heap.size,0,none⟩) len len)) (w.alloc (.cells (l.flatMap rj).toArray e)):=by
 have h2:=bZ (P:=P) (σ:=σ) (w:=w) (dst:=dst) (ty:=ty) (pos:=pos) (bH:=bH) (g:=g) (vs:=l.map fun f=>Value.agg (tA f)) (sz:=67) hu hie hz hsz (by rw[fx];exact hl) hsmall hpos h (by
  rw[iq];intro v hv
  rw[fI]at hv
  obtain⟨r,_,rfl⟩:=hv
  simp[Value.cells,fB])
 have h3:(l.map fun f=>Value.agg (tA f)).flatMap (·.cells.toList)=l.flatMap rj:=by
  rw[VG];rfl
 rw[h3]at h2;exact h2
theorem K1{len:Nat}{ps:List (Nat×Operand)}{l:List kL}{ie:TypeInfo}{z:Value}
  (hu:P.underlying t=some (.slice e)) (hie:P.info? e=some ie) (hz:ie.zero=some z) (hsz:ie.size=2) (hl:l.length=len) (hsmall:¬len*2>2^24) (hpos:¬len*2=0)
  (h:ps.map (fun p=>(p.1,ev σ p.2))=((l.map fun f=>Value.agg (rp f)).zipIdx.map fun p=>(p.2,p.1))):
  (execOp (ev σ) ⟨dst,.buildSlice t len ps.toArray,ty,pos,bH,g⟩).run P w= .ok (.value (.slice (some ⟨w.heap.size,0,none⟩) len len)) (w.alloc (.cells (l.flatMap zY).toArray e)):=by
 have h2:=bZ (P:=P) (σ:=σ) (w:=w) (dst:=dst) (ty:=ty) (pos:=pos) (bH:=bH) (g:=g) (vs:=l.map fun f=>Value.agg (rp f)) (sz:=2) hu hie hz hsz (by rw[fx];exact hl) hsmall hpos h (by
  rw[iq];intro v hv
  rw[fI]at hv
  obtain⟨r,_,rfl⟩:=hv
  simp[Value.cells])
 have h3:(l.map fun f=>Value.agg (rp f)).flatMap (·.cells.toList)=l.flatMap zY:=by
  rw[VG];rfl
 rw[h3]at h2;exact h2
theorem Hp.mv{w0 w:World}{L:List a8}{i b:Nat}{α:Type}{cl:α->List Value}{sz:Nat}{l:List α}{e:TypeId}(hsz:∀a,(cl a).length=sz)(h:Hp w0 w L)(hi:L[i]?=some (.blk b (.cells (l.flatMap cl).toArray e (0,0))))(hs:l.length<=maxLen):
  Sl w (.slice (some ⟨b,0,none⟩) l.length l.length) sz l.length (l.flatMap cl):=by
 have h2:=h.dQ (n:=l.length) (sz:=sz) hi (by rw[tQ,eV hsz]) hs
 exact h2
def aAT(v:Value)(sz i j:Nat):Value:=
 match v with
 | .slice (some a) _ c=> .slice (some ⟨a.block,a.off+i*sz,none⟩) (j-i) (c-i)
 |v=>v
theorem Sl.part{v:Value}{sz n:Nat}{cells:List Value}(h:Sl w v sz n cells){i j:Nat}(hij:i<j)(hj:j<=n):Sl w (aAT v sz i j) sz (j-i) ((cells.drop (i*sz)).take ((j-i)*sz)):=by
 obtain⟨a,cap,hv,hnc,ha⟩:=h.shape
 have ha':=ha J
 subst ha'
 rw[hv]at ha⊢
 have hb1:sb v=sb (.slice (some ⟨sb v,so v,none⟩) n cap):=rfl
 refine⟨⟨_,cap-i,rfl,J,fun _=>rfl⟩,?_,fun k c hc=> ?_,by have:=h.small;omega⟩
 .have h1:i*sz+(j-i)*sz<=n*sz:=by
   rw[<-kE];exact qH _ J
  rw[eD,vk,h.len];omega
 rw[tM]at hc
 split at hc
 .rw[xW]at hc
  have:=h.cell _ _ hc
  show w.cell? ⟨sb v,so v+i*sz+k,none⟩=some c
  rw[xZ];exact this
 .cases hc
end runs
theorem Hp.aAU{w0 w:World}{Z L:List a8}(h:Hp w0 w (Z++L)):Hp w0 w (L++Z):=h.perm sE
theorem SJ{s:Sh}{a b:El}(hs:s.aT.length<=8)(h:qK a b):l6 s a=l6 s b:=by
 rw[l6,l6,DV,DV]
 congr 1
 refine FT fun x hx=> ?_
 have:=cH.1 hx
 rw[h x.toNat J]
def aAV:List Tx:=[⟨#[97]⟩,⟨#[98]⟩,⟨#[99]⟩]
def aAW:List Tx:=[⟨#[120]⟩,⟨#[121]⟩]
def aJn:Sh:=⟨true,[⟨1,aAV,Rl.none⟩,⟨2,aAW,Rl.none⟩]⟩
theorem aAX{P:Program}{n:Nat}{k:K}{xs:List (Nat×K)}{r:K}{σ:Env}{w:World}{x y:Code}(ws:List Nat)(R:K)(h:CW P n x (fun s w=>Fr ws σ s/\R s w) xs r σ w)(h':∀s w,Fr ws σ s->R s w->CW P n y k xs r s w):CW P n (.seq x y) k xs r σ w:=by grind[adB]
section runs
variable{P:Program}{σ:Env}{w:World}{dst:Option Tmp}{ty t u e:TypeId}{pos:String}{bH:Array Edge}{g:Option (Nat×Bool)}{x y:Operand}{b:Nat}{fr:Nat×Nat}
theorem ix{d:TypeDesc}{o:Nat}{cs:Array Value}{sub:List Value}(hu:P.underlying t=some d)(hd:d.isRow=true)(hi:(P.info? t).map (·.size)=some sub.length)(hx:ev σ x= .pointer (some ⟨b,o,none⟩))
  (hg:w.heap[b]?=some (.cells cs e fr)) (hc:(cs.toList.drop o).take sub.length=sub):(execOp (ev σ) ⟨dst,.load t x,ty,pos,bH,g⟩).run P w= .ok (.value (.agg sub.toArray)) w:=by
 refine cG hu hd hi hx fun j c hj=> ?_
 rw[wu w _ _ _ _ _ hg]
 have hl:=(mC.1 hj).1
 rw[<-hc,tM,aR hl,xW]at hj
 simpa using hj
theorem Ob{o:Nat}{c:Array Value}{sub c':List Value}(hi:(P.info? t).map (·.size)=some sub.length)(hx:ev σ x= .pointer (some ⟨b,o,none⟩))(hy:ev σ y= .agg sub.toArray)(h1:∀u∈sub,u.oneCell'=true)
  (hg:w.heap[b]?=some (.cells c e (0,0))) (ho:o+sub.length<=c.size) (hc:c.toList.take o++sub++c.toList.drop (o+sub.length)=c'):
  (execOp (ev σ) ⟨dst,.store t x y,ty,pos,bH,g⟩).run P w= .ok .skip (w.setRow b c'.toArray):=by
 have hs:=yj (P:=P) (off:=o) hg sub ho h1
 have hz:(sizeOf t).run P w= .ok sub.length w:=by
  cases hq:P.info? t with
  |none=>simp[hq]at hi
  |some i=>simp[hq]at hi;simp[sizeOf,typeInfo,hq,hi]
 rw[hc]at hs
 simp[execOp,hx,hy,Instr.storeAt,Instr.sureAddr,storeVar,Value.cells,hz,hs]
variable{α:Type}{cl:α->List Value}{sz:Nat}
theorem kI{len:Nat}{ps:List (Nat×Operand)}{l:List α}{ie:TypeInfo}{z:Value}(n8:∀a,(cl a).length=sz)
  (hu:P.underlying t=some (.slice e)) (hie:P.info? e=some ie) (hz:ie.zero=some z) (hsz:ie.size=sz) (hl:l.length=len) (hsmall:¬len*sz>2^24) (hpos:¬len*sz=0)
  (h:ps.map (fun p=>(p.1,ev σ p.2))=((l.map fun f=>Value.agg (cl f).toArray).zipIdx.map fun p=>(p.2,p.1))):
  (execOp (ev σ) ⟨dst,.buildSlice t len ps.toArray,ty,pos,bH,g⟩).run P w= .ok (.value (.slice (some ⟨w.heap.size,0,none⟩) len len)) (w.alloc (.cells (l.flatMap cl).toArray e)):=by
 have h2:=bZ (P:=P) (σ:=σ) (w:=w) (dst:=dst) (ty:=ty) (pos:=pos) (bH:=bH) (g:=g) (vs:=l.map fun f=>Value.agg (cl f).toArray) (sz:=sz) hu hie hz hsz (by rw[fx];exact hl) hsmall hpos h (by
  rw[iq];intro v hv
  rw[fI]at hv
  obtain⟨r,_,rfl⟩:=hv
  simp[Value.cells,n8])
 have h3:(l.map fun f=>Value.agg (cl f).toArray).flatMap (·.cells.toList)=l.flatMap cl:=by
  rw[VG]
  show(l.flatMap fun f=>(cl f).toArray.toList)=_
  simp
 rw[h3]at h2;exact h2
theorem cB{w1:World}{v:Value}{n1 n2:Nat}{cells:List Value}{d:TypeDesc}{o:Nat}(_hS:Sl w1 v n1 n2 cells)(hu:P.underlying t=some d)(hd:d.isRow=false)(hx:ev σ x= .pointer (some ⟨b,o,none⟩))(hc:w.cell? ⟨b,o,none⟩=some v):
 (execOp (ev σ) ⟨dst,.load t x,ty,pos,bH,g⟩).run P w= .ok (.value v) w:=az hu hd hx hc
theorem aeW{a cs:List Value}{o:Nat}(h:(a.drop o).take cs.length=cs):∀(j:Nat) (c:Value),cs[j]?=some c->a[o+j]?=some c:=by grind
end runs
structure aAY(P:Program)(d:Nat)(xs ys:Array Value)(f:Field)(b:Bool):Prop where
 nm:f.name≠ "_"
 run:∃u v,(∀w,(part f.type xs f.offset).run P w= .ok u w)/\(∀w,(part f.type ys f.offset).run P w= .ok v w)/\∀w,(Op.equalIn d f.type u v).run P w= .ok b w
inductive SK(P:Program)(d:Nat)(xs ys:Array Value):List Field->List Bool->Prop
 |nil:SK P d xs ys [] []
 |cons {f:Field} {fs:List Field} {b:Bool} {bs:List Bool} (h:aAY P d xs ys f b) (hs:SK P d xs ys fs bs):SK P d xs ys (f::fs) (b::bs)
theorem SK.eq{P:Program}{d:Nat}{xs ys:Array Value}{fs:List Field}{bs:List Bool}(h:SK P d xs ys fs bs)(w:World):(Op.eqFields d xs ys fs).run P w= .ok (bs.all id) w:=by
 induction h with
 |nil=>rfl
 |cons h _ ih=>
  obtain⟨u,v,h1,h2,h3⟩:=h.run
  rename_i b bs _
  simp only[Op.eqFields,h.nm,ne_eq,VA,tU,sH,h1,h2,h3,wg]
  cases b with
  |true=>simpa using ih
  |false=>simp
structure EqT(P:Program)(t:TypeId)(xs ys:Array Value)(c:Bool):Prop where
 eg:P.eqGuardType P.depth t=false
 eq:∀w,(Op.equalIn 10000 t (.agg xs) (.agg ys)).run P w= .ok c w
theorem EqT.conv{P:Program}{t:TypeId}{xs ys:Array Value}{c c':Bool}(h:EqT P t xs ys c)(e:c=c'):EqT P t xs ys c':=e▸h
section
variable{P:Program}{d:Nat}{xs ys:Array Value}{f:Field}
end
section
variable{P:Program}{σ:Env}{w:World}{dst:Option Tmp}{ty t u:TypeId}{pos:String}{bH:Array Edge}{g:Option (Nat×Bool)}{x y:Operand}{xs ys:Array Value}{c:Bool}
end
theorem DW{P:Program}{n:Nat}{k:K}{xs:List (Nat×K)}{r:K}{σ:Env}{w0 w:World}{x y:Code}{L:List a8}{G:Type}(_hH:Hp w0 w L)(ws:List Nat)(up:List a8->G->List a8)(Q:G->Env->Prop)
 (h:CW P n x (fun s w'=>Fr ws σ s/\∃g,Hp w0 w' (up L g)/\Q g s) xs r σ w) (h':∀g s w',Fr ws σ s->Hp w0 w' (up L g)->Q g s->CW P n y k xs r s w'):CW P n (.seq x y) k xs r σ w:=by grind[adB]
theorem Le.Iq{K:Vu}{Z Y:List a8}:Le (Kz K Z) (Kz K (Y++Z)):=by grind[Le.zz]
def aJo(q:Value->World->Prop)(e:Ending)(w:World):Prop:=jF q e w
section calls
variable{P:Program}{n:Nat}{ops:Array Oper}{k:K}{rest:List Oper}{σ:Env}{w0 w:World}{L:List a8}{op:Op}{ty:TypeId}{pos:String}{bH:Array Edge}{d:Nat}{q:Value->World->Prop}
theorem ct{f:FuncId}{args:Array Value}(hd:Nat.blt d n=true)(hc:Calls P f args w (jF q))
  (hr:(execOp (ev σ) ⟨some d,op,ty,pos,bH,none⟩).run P w= .ok (.enter f args) w)
  (hk:∀v w',q v w'->RL P n ops k rest (k7 σ d v) w'):RL P n ops k (⟨some d,op,ty,pos,bH,none⟩::rest) σ w:=
 Gj hd hr hc hk
variable{l:List Oper}{i fuel:Nat}{listed:Array Bool}{g:Option (Nat×Bool)}{L':List a8}
theorem wF{f:FuncId}{args:Array Value}(hi:l[i]?=some ⟨some d,op,ty,pos,bH,g⟩)(hg:∀a,Is n σ a->Region.wanted ⟨some d,op,ty,pos,bH,g⟩ (yielded l.toArray a.tmps)=true)(hd:Nat.blt d n=true)
 (hc:Calls P f args w (jF q)) (hr:(execOp (ev σ) ⟨some d,op,ty,pos,bH,g⟩).run P w= .ok (.enter f args) w)
 (hs:∀v w',q v w'->Hp w0 w' L)
 (h:∀v w',q v w'->AN P n l (fun w=>Hp w0 w L) k fuel (listed.setIfInBounds i true) (k7 σ d v) w'):AO P n l (fun w=>Hp w0 w L) k fuel listed σ w i:=by grind[P8]
end calls
section
variable{P:Program}{fn:Func}{w0 w:World}{L:List a8}{i j p p2 t:Nat}{q:Value->World->Prop}{d d2:TypeDesc}{c c2:Array Value}{ty ty2 e e2:TypeId}{b b2:Nat}{fr SL:Nat×Nat}{σ:Env}{v:Value}
theorem Oc(h:fn.results=#[.cell p ty,.tmp t])(hp:σ p= .pointer (some ⟨b,0,none⟩))(ht:σ t=v)(hH:Hp w0 w L)
  (hi:L[i]?=some (.blk b (.cells c e fr))) (hu:P.underlying ty=some d) (hd:d.isRow=true) (hz:(P.info? ty).map (·.size)=some c.size) (hq:q (.tuple #[.agg c,v]) w):Out P fn q σ w:=
 fun n a ha=>⟨_,by
  have h1:a.tmps[p]?.getD undef= .pointer (some ⟨b,0,none⟩):=by have:=ha.get p;rw[hp]at this;simpa using this
  have h2:a.tmps[t]?.getD undef=v:=by have:=ha.get t;rw[ht]at this;simpa using this
  simp[results,h,h1,h2,asAddr,run_loadVar_row (P:=P) w b e ty c fr d (hH.blk hi) hu (by cases d<;>simp_all) hz],hq⟩
end
end
end Go.Proofs.YtlhjdflgjbkpmaaGreatDoor.E
namespace Go.Proofs.YtlhjdflgjbkpmaaGreatDoor.M
section
open Go
structure nn where
 name:Tx
 kind:Int
 aS:Int
deriving DecidableEq
structure Wd where
 text:Tx
 place:Int
structure Flt where
 cls:Int
 place:Int
deriving DecidableEq
def atY:Flt:=⟨0,0⟩
def wd0:Wd:=⟨o4,0⟩
def eY:nn:=⟨o4,0,0⟩
def atZ(b f:Flt):Flt:=if f.cls≠0/\(b.cls=0\/f.cls<b.cls\/(f.cls=b.cls/\f.place<b.place))then f else b
def azx(l:List Flt)(k:Int):Flt:=(l.take k.toNat).foldl atZ atY
def aA0(l:List Wd):List Tx:=l.map Wd.text
end
end Go.Proofs.YtlhjdflgjbkpmaaGreatDoor.M
namespace Go.Proofs.YtlhjdflgjbkpmaaGreatDoor.E
section
open Go Go.RowKit Go.Proofs.YtlhjdflgjbkpmaaGreatDoor.M
structure zZ where
 name:Tx
 yz:kL
def mX:zZ:=⟨o4,Cy⟩
def K2(l:zZ):List Value:=[S l.name,B l.yz.tuple,l.yz.fv]
theorem r6(l:zZ):(K2 l).length=3:=rfl
def Io(v:nn):List Value:=[S v.name,I v.kind,I v.aS]
theorem uu(v:nn):(Io v).length=3:=rfl
def wdL(x:Wd):List Value:=[S x.text,I x.place]
def aJp(f:Flt):List Value:=[I f.cls,I f.place]
structure kx where
 lv:Value
 an:List zZ
 vv:Value
 vars:List nn
abbrev GM(s:kx):Array Value:=#[s.lv,s.vv]
structure xm(K:Vu)(s:kx):Prop where
 an:n7 K s.lv 3 s.an.length (s.an.flatMap K2)
 vars:n7 K s.vv 3 s.vars.length (s.vars.flatMap Io)
 each:∀l∈s.an,kO K l.yz
theorem xm.mono{K K':Vu}{s:kx}(h:xm K s)(hl:Le K K'):xm K' s:=⟨h.an.mono hl,h.vars.mono hl,fun l hm=>(h.each l hm).mono hl⟩
theorem xm.at{K:Vu}{s:kx}(h:xm K s){k:Int}(h0:0<=k)(h1:k<s.an.length):kO K (s.an.getD k.toNat mX).yz:=h.each _ (kU (e8 (d:=mX) h0 h1))
theorem SM{K:Vu}{l:zZ}(h:kO K l.yz):∀u∈(K2 l).toArray,u.oneCell'=true:=by
 intro u hu
 have h1:=k9 h.aT
 simp[K2]at hu
 rcases hu with rfl|rfl|rfl
 .rfl
 .rfl
 exact h1.1
section
variable{P:Program}{σ:Env}{w:World}{dst:Option Tmp}{ty t e:TypeId}{pos:String}{bH:Array Edge}{g:Option (Nat×Bool)}{x:Operand}{b:Nat}{fr:Nat×Nat}
end
theorem EP{α:Type}{l:List α}{d:α}{P:α->Bool}{k:Int}(h0:0<=k)(h1:k<l.length)(h:P (l.getD k.toNat d)=true):l.any P=true:=by grind
theorem Qn{α:Type}{l:List α}{d:α}{P:α->Bool}{k:Int}(hk:¬k<l.length)(h:∀j:Int,0<=j->j<k->P (l.getD j.toNat d)=false):l.any P=false:=by grind[List.any_eq_false,List.getElem_of_mem,Int.toNat_natCast,List.getElem?_eq_getElem]
def SO(l:zZ):Bool:=SI l.yz.sh||decide (40<l.name.size)
def apk(v:nn):Bool:=decide (40<v.name.size)
def uv(s:kx):Bool:=decide (20<s.an.length\/80<s.vars.length)||s.an.any SO||s.vars.any apk
def YP(s:kx)(t:Tx):Int:=rW (fun i=>decide ((s.an.getD i.toNat mX).name=t)) s.an.length
def azy(s:kx)(t:Tx):Int:=rW (fun i=>decide ((s.vars.getD i.toNat eY).name=t)) s.vars.length
def aGC(s:kx)(l:List Wd):List kL:=l.filterMap fun x=>if 0<=YP s x.text then some (s.an.getD (YP s x.text).toNat mX).yz else none
inductive eN where
 |mk (kind place:Int) (text:Tx) (nv:Value) (names:List Wd) (kv:Value) (kids:List eN)
def eN.kind:eN->Int
 | .mk k _ _ _ _ _ _=>k
def eN.place:eN->Int
 | .mk _ p _ _ _ _ _=>p
def eN.text:eN->Tx
 | .mk _ _ t _ _ _ _=>t
def eN.nv:eN->Value
 | .mk _ _ _ v _ _ _=>v
def eN.names:eN->List Wd
 | .mk _ _ _ _ l _ _=>l
def eN.kv:eN->Value
 | .mk _ _ _ _ _ v _=>v
def eN.kids:eN->List eN
 | .mk _ _ _ _ _ _ k=>k
def aeX(n:eN):List Value:=[I n.kind,I n.place,S n.text,n.nv,n.kv]
inductive qa(K:Vu):eN->Prop
 |mk {kind place:Int} {text:Tx} {nv:Value} {names:List Wd} {kv:Value} {kids:List eN} (hn:n7 K nv 2 names.length (names.flatMap wdL)) (hk:n7 K kv 5 kids.length (kids.flatMap aeX)) (each:∀x∈kids,qa K x):qa K (.mk kind place text nv names kv kids)
abbrev Pw:=Wd×Wd
def pwL(p:Pw):List Value:=[S p.1.text,I p.1.place,S p.2.text,I p.2.place]
structure aj5 where
 op:Int
 place:Int
 name:Wd
 nv:Value
 names:List Wd
 pv:Value
 pairs:List Pw
 pat:Int
 left:eN
 right:eN
def aJr(c:aj5):List Value:=[I c.op,I c.place,S c.name.text,I c.name.place,c.nv,c.pv,I c.pat]++aeX c.left++aeX c.right
structure apl(K:Vu)(c:aj5):Prop where
 names:n7 K c.nv 2 c.names.length (c.names.flatMap wdL)
 pairs:n7 K c.pv 4 c.pairs.length (c.pairs.flatMap pwL)
 left:qa K c.left
 right:qa K c.right
theorem Jb(l:zZ):∀(j:Nat) (c:Value),(zY l.yz)[j]?=some c->(K2 l)[1+j]?=some c:=by grind[zZ,zY,K2]
def pw0:Pw:=(wd0,wd0)
def yA(s:kx):List Value:=[s.lv,s.vv]
def aJs:kx:=⟨.slice none 0 0,[],.slice none 0 0,[]⟩
theorem Qo{K:Vu}{v:Value}{sz n:Nat}{c:List Value}(h:n7 K v sz n c):v.oneCell'=true/\v.cells=#[v]:=k9 h
theorem aeY{K:Vu}{s:kx}(h:xm K s):∀u∈(yA s).toArray,u.oneCell'=true:=by
 intro u hu
 simp[yA]at hu
 rcases hu with rfl|rfl
 .exact(k9 h.an).1
 exact(k9 h.vars).1
def K3:eN:= .mk 0 0 o4 (.slice none 0 0) [] (.slice none 0 0) []
theorem qa.each{K:Vu}{n:eN}(h:qa K n):∀x∈n.kids,qa K x:=by cases h;assumption
theorem qa.at{K:Vu}{n:eN}(h:qa K n){k:Int}(h0:0<=k)(h1:k<n.kids.length):qa K (n.kids.getD k.toNat K3):=h.each _ (kU (e8 (d:=K3) h0 h1))
theorem qa.mono{K K':Vu}(hl:Le K K'){n:eN}(h:qa K n):qa K' n:=by
 induction h with
 |mk hn hk _ ih=>exact .mk (hn.mono hl) (hk.mono hl) ih
def aJt:aj5:=⟨0,0,wd0,.slice none 0 0,[],.slice none 0 0,[],0,K3,K3⟩
theorem apl.mono{K K':Vu}{c:aj5}(h:apl K c)(hl:Le K K'):apl K' c:=⟨h.names.mono hl,h.pairs.mono hl,qa.mono hl h.left,qa.mono hl h.right⟩
structure wG(K:Vu)(l:List eN):Prop where
 each:∀x∈l,qa K x
theorem wG.mono{K K':Vu}{l:List eN}(h:wG K l)(hl:Le K K'):wG K' l:=⟨fun x hx=>qa.mono hl (h.each x hx)⟩
theorem wG.at{K:Vu}{l:List eN}(h:wG K l){k:Int}(h0:0<=k)(h1:k<l.length):qa K (l.getD k.toNat K3):=h.each _ (kU (e8 (d:=K3) h0 h1))
def aeZ(l:List Wd):Bool:=l.all fun x=>gY x.text
abbrev byL(s:Tx):List Value:=Go.Lib.strCells s
theorem pz(a b:Tx):(a++b).size=a.size+b.size:=ByteArray.size_append
def tc(c:UInt8):Tx:=⟨#[c]⟩
section
variable{P:Program}{w0 w:World}{L:List a8}
variable{n:Nat}{ops:Array Oper}{k:K}{rest l:List Oper}{σ:Env}{op:Op}{ty:TypeId}{pos:String}{bH:Array Edge}{d:Nat}{x y:Operand}{dst:Option Tmp}{g:Option (Nat×Bool)}
variable{fuel i:Nat}{listed:Array Bool}{L':List a8}
end
inductive Nd where
 |mk (kind place:Int) (text:Tx) (names:List Wd) (kids:List Nd)
def Nd.kind:Nd->Int
 | .mk k _ _ _ _=>k
def Nd.place:Nd->Int
 | .mk _ p _ _ _=>p
def Nd.text:Nd->Tx
 | .mk _ _ t _ _=>t
def Nd.names:Nd->List Wd
 | .mk _ _ _ n _=>n
def Nd.kids:Nd->List Nd
 | .mk _ _ _ _ k=>k
def nd0:Nd:= .mk 0 0 o4 [] []
theorem ae0{C:Nd->Prop}(h:∀n,(∀x∈n.kids,C x)->C n)(n:Nd):C n:=h n fun x hx=>ae0 h x
termination_by SizeOf.sizeOf n
decreasing_by
 cases n
 simp only[Nd.kids]at hx
 have:=Jx hx
 simp only[Nd.mk.sizeOf_spec]
 omega
def eN.nd:eN->Nd
 | .mk k p t _ n _ ks=> .mk k p t n (ks.attach.map fun x=>x.1.nd)
termination_by n=>SizeOf.sizeOf n
decreasing_by
 have:=Jx x.2
 simp only[eN.mk.sizeOf_spec]
 omega
def amM(k:Nd):Bool:=decide (k.kind=6)&&gY k.text&&aeZ k.names&&decide (k.kids.length=0)
def WI:Nd->Bool
 | .mk kind _ text names kids=>
  if kind=2 then gY text&&decide (names.length=0/\kids.length=0)
  else if kind=3 then decide (text=o4)&&aeZ names&&decide (kids.length=0)
  else if kind=4 then decide (text=o4)&&decide (names.length=0)&&decide (0<kids.length)&&kids.attach.all fun x=>WI x.1
  else if kind=5 then decide (text=o4)&&decide (names.length=0)&&kids.all amM
  else false
termination_by n=>SizeOf.sizeOf n
decreasing_by
 have:=Jx x.2
 simp only[Nd.mk.sizeOf_spec]
 omega
def vE:List Tx->Tx
 |[]=>o4
 |x::l=>l.foldl (fun a y=>a++tc 44++y) x
def K4(l:List Wd):Tx:=vE (l.map Wd.text)
def s6:Nd->Tx
 | .mk kind _ text names kids=>
  if kind=1\/kind=2 then text
  else if kind=3 then tc 123++K4 names++tc 125
  else if kind=4 then tc 40++vE (kids.attach.map fun x=>s6 x.1)++tc 41
  else if kind=5 then tc 91++vE (kids.attach.map fun x=>s6 x.1)++tc 93
  else if kind=6 then text++⟨#[58,123]⟩++K4 names++tc 125
  else o4
termination_by n=>SizeOf.sizeOf n
decreasing_by
 all_goals
  have:=Jx x.2
  simp only[Nd.mk.sizeOf_spec]
  omega
theorem aj6(n:Nd):s6 n=if n.kind=1\/n.kind=2 then n.text
  else if n.kind=3 then tc 123++K4 n.names++tc 125
  else if n.kind=4 then tc 40++vE (n.kids.map s6)++tc 41
  else if n.kind=5 then tc 91++vE (n.kids.map s6)++tc 93
  else if n.kind=6 then n.text++⟨#[58,123]⟩++K4 n.names++tc 125
  else o4:=by
 cases n with
 |mk k p t names kids=>
 have h:(kids.attach.map fun x=>s6 x.1)=kids.map s6:=aA
 rw[s6,h];rfl
section
variable{n:eN}
end
theorem K5{α:Type}{l:List α}{d:α}{P:α->Bool}{k:Int}(h0:0<=k)(h1:k<l.length)(h:P (l.getD k.toNat d)=false):l.all P=false:=by grind
theorem EQ{α:Type}{l:List α}{d:α}{P:α->Bool}{k:Int}(hk:¬k<l.length)(h:∀j:Int,0<=j->j<k->P (l.getD j.toNat d)=true):l.all P=true:=by grind[List.all_eq_true,List.getElem_of_mem,Int.toNat_natCast,List.getElem?_eq_getElem]
abbrev Ex(α:Type):=Except Int α
def at1(l:List Tx):List Wd->BitVec 64->Ex (BitVec 64)
 |[],s=> .ok s
 |x::w,s=>if p9 l x.text<0 then .error x.place else at1 l w (uf s (p9 l x.text))
def YQ(l:List Tx)(w:List Wd):Ex (BitVec 64):=at1 l w 0#64
def DX(f:Fc):List Nd->BitVec 64->Ex (BitVec 64)
 |[],w=> .ok w
 |k::ks,w=>if p9 f.names k.text<0 then .error k.place else
  match YQ f.names k.names with
  | .error a=> .error a
  | .ok s=>DX f ks (w|||atN f.rel (p9 f.names k.text) s)
def at2(f:Fc):Int:=if f.kind=2 then 3 else if f.kind=3 then 5 else 2
def WJ(f:Fc)(n:Nd):Ex (BitVec 64):=
 if p9 f.names n.text<0 then .error n.place
 else if f.kind=4 then .ok (bN f.rel (p9 f.names n.text))
 else .ok (ud f.names.length (p9 f.names n.text)).1
def at3(f:Fc)(n:Nd):Ex (BitVec 64):=
 if n.kind≠at2 f then .error n.place
 else if f.kind=2 then YQ f.names n.names
 else if f.kind=3 then DX f n.kids 0#64
 else WJ f n
def K6:List (Fc×Nd)->Nat->El->Ex El
 |[],_,e=> .ok e
 |(f,n)::r,i,e=>match at3 f n with
  | .error a=> .error a
  | .ok w=>K6 r (i+1) (zX e i w)
def ae1(s:Sh)(n:Nd):List Nd:=if s.tuple then n.kids else[n]
def aA1(s:Sh)(n:Nd):Bool:=qL s&&WI n&&(!s.tuple||decide (n.kind=4/\n.kids.length=s.aT.length))
def aGE(s:Sh)(n:Nd):Ex El:=if aA1 s n then K6 (s.aT.zip (ae1 s n)) 0 dh else .error n.place
def aJu:Ex El->El×Flt
 | .ok e=>(e,atY)
 | .error a=>(dh,⟨4,a⟩)
abbrev RS:=Bool×Int
def amN(s:RS)(a:Int):RS:=if s.1 then s else(true,a)
def okR(x:Ex (BitVec 64))(s:RS)(y:BitVec 64)(s':RS):Prop:=match x with
 | .ok z=>y=z/\s'=s
 | .error a=>s'=amN s a
theorem EH{f:Fc}{n:Nd}(h:p9 f.names n.text<0):WJ f n= .error n.place:=by rw[WJ,aR h]
def aJv(f:Fc)(ks:List Nd)(k:Int)(m:BitVec 64)(s s1:RS):Prop:=
 (s1=s/\DX f ks 0#64=DX f (ks.drop k.toNat) m)\/∃a,DX f ks 0#64= .error a/\s1=amN s a
structure apm where
 word:BitVec 64
 bad:Bool
 at_:Int
def aJw(g:apm):List Value:=[U g.word,B g.bad,I g.at_]
def aJx:apm:=⟨0#64,false,0⟩
def aJy:Ex (BitVec 64)->apm
 | .ok x=>⟨x,false,0⟩
 | .error a=>⟨0#64,true,a⟩
section ae2
variable{f:pI}{n:eN}{k:Int}{m:BitVec 64}(h0:0<=k)(h1:k<n.kids.length)(hm:DX f.fc n.nd.kids 0#64=DX f.fc (n.nd.kids.drop k.toNat) m)
include h0 h1 hm
end ae2
section aj7
variable{f:pI}{n:eN}
end aj7
def aJz(l:List (Fc×Nd))(k:Int)(e:El)(s:RS):Prop:=
 (s=(false,0)/\K6 l 0 dh=K6 (l.drop k.toNat) k.toNat e)\/∃a,K6 l 0 dh= .error a/\s=(true,a)
def YR(l:List Tx)(w:BitVec 64):List Wd:=(fZ w).map fun i=>⟨l.getD i.toNat o4,0⟩
def ae3(f:Fc)(w:BitVec 64)(o:Int):Nd:= .mk 6 0 (f.names.getD o.toNat o4) (YR f.names (aeu f.rel w o)) []
def WK(f:Fc)(w:BitVec 64):Nd:=
 if f.kind=2 then .mk 3 0 o4 (YR f.names w) []
 else if f.kind=3 then .mk 5 0 o4 [] ((fZ (Qg f.rel w)).map (ae3 f w))
 else if f.kind=4 then .mk 2 0 (f.names.getD (eC f.rel w).1.toNat o4) [] []
 else .mk 2 0 (f.names.getD (level f.names.length w).1.toNat o4) [] []
def ae4(s:Sh)(e:El)(k:Int):List Nd:=(upto k).map fun i=>WK (s.aT.getD i.toNat uV) (e i.toNat)
def at4(s:Sh)(e:El):Nd:=
 if cf s e then(if s.tuple then .mk 4 0 o4 [] (ae4 s e s.aT.length)else WK (s.aT.getD 0 uV) (e 0))else nd0
def ae5(s:Sh)(e:El):Tx:=tc 35++s6 (at4 s e)
abbrev By:=List UInt8
def bl(t:Tx):By:=t.data.toList
def goU(b:UInt8):Bool:=s4 (b.toNat:Int)
def Ds(x:By):Prop:=∀b r,x=b::r->goU b=false
theorem Ds.nil:Ds []:=fun b r h=>by cases h
theorem Ds.cons{d:UInt8}(h:goU d=false)(x:By):Ds (d::x):=fun b r e=>by cases e;exact h
def aA3(l:List By):By:=l.flatMap fun y=>44::y
def aJA:List By->By
 |[]=>[]
 |x::l=>x++aA3 l
section
variable{Q:By->Prop}(hQ:∀u v,Q u->Q v->∀x y,Ds x->Ds y->u++x=v++y->u=v/\x=y){d:UInt8}(hd:goU d=false)(h44:d≠44)
include hQ hd h44
end
def wd_(t:Tx):Wd:=⟨t,0⟩
def Rn(n:Nd):Prop:=∃(t:Tx) (ws:List Tx),n= .mk 6 0 t (ws.map wd_) []/\gY t=true/\∀u∈ws,gY u=true
def wtx(a:El):List Fc->Nat->List By
 |[],_=>[]
 |f::r,i=>bl (s6 (WK f (a i)))::wtx a r (i+1)
inductive K7:eN->Prop
 |mk {kind place:Int} {text:Tx} {nv:Value} {names:List Wd} {kv:Value} {kids:List eN} (hl:names.length<=5864062014634) (each:∀x∈kids,K7 x):K7 (.mk kind place text nv names kv kids)
theorem K7.len{n:eN}(h:K7 n):n.names.length<=5864062014634:=by cases h;assumption
theorem K7.each{n:eN}(h:K7 n):∀x∈n.kids,K7 x:=by cases h;assumption
def aA4(s:kL)(n:eN):List eN:=if s.tuple then n.kids else[n]
def aGF(s:kL)(n:eN):Bool:= !s.tuple||decide (n.kind=4/\n.kids.length=s.aT.length)
def aJD(s:kL)(n:eN):List (Fc×Nd):=s.sh.aT.zip (ae1 s.sh n.nd)
section
variable{s:kL}{n:eN}
end
section ref
variable{l:List (Fc×Nd)}{k:Int}{e:El}{f:Fc}{m:Nd}(h0:0<=k)(h1:k<l.length)(hm:K6 l 0 dh=K6 (l.drop k.toNat) k.toNat e)(hw:l.getD k.toNat (uV,nd0)=(f,m))
include h0 h1 hm hw
end ref
def aJE(q:Int)(x:eN):Bool:=if q=1 then WI x.nd else amM x.nd
section
variable{n:eN}
end
theorem wG.nil(K:Vu):wG K []:=⟨fun x hx=>by simp at hx⟩
theorem wG.snoc{K:Vu}{l:List eN}{n:eN}(h:wG K l)(hn:qa K n):wG K (l++[n]):=⟨fun x hx=>by
 rcases eF.1 hx with hx|hx
 .exact h.each x hx
 rw[fG.1 hx];exact hn⟩
def wdN(l:List Tx)(i:Int):Wd:=⟨l.getD i.toNat o4,0⟩
def azA(l:List Tx)(w:BitVec 64)(k:Int):List Wd:=((upto k).filter (hasB w)).map (wdN l)
theorem vA(k:Int):(upto k).Pairwise (· <·):=by
 rw[upto,FU]
 exact Vi.imp fun h=>by omega
def aJG:Value:= .slice none 0 0
def aGG(k:Int)(t:Tx)(nv:Value)(names:List Wd):eN:= .mk k 0 t nv names (.slice none 0 0) []
def aGH(k:Int)(kv:Value)(kids:List eN):eN:= .mk k 0 o4 (.slice none 0 0) [] kv kids
def azB(f:Fc)(w:BitVec 64)(k:Int):List Nd:=((fZ (Qg f.rel w)).take k.toNat).map (ae3 f w)
def azC(f:Fc)(w:BitVec 64)(k:Int):List Nd:=((upto k).filter (hasB (Qg f.rel w))).map (ae3 f w)
def jZ:Nd->Nat
 | .mk kind _ text names kids=>(if 0<=kind/\kind<=6 then 4 else 10000000000)+text.size+(names.map fun x=>x.text.size+1).sum+(kids.attach.map fun x=>jZ x.1+1).sum
termination_by n=>SizeOf.sizeOf n
decreasing_by
 have:=Jx x.2
 simp only[Nd.mk.sizeOf_spec]
 omega
theorem amO(n:Nd):jZ n=(if 0<=n.kind/\n.kind<=6 then 4 else 10000000000)+n.text.size+(n.names.map fun x=>x.text.size+1).sum+(n.kids.map fun x=>jZ x+1).sum:=by
 cases n with
 |mk k p t names kids=>
 have h:(kids.attach.map fun x=>jZ x.1+1)=kids.map fun x=>jZ x+1:=aA
 rw[jZ,h];rfl
theorem SP{α:Type}{F G:α->Nat}:∀(l:List α),(∀x∈l,F x<=G x)->(l.map F).sum<=(l.map G).sum
 |[],_=>by simp
 |y::l,h=>by
  have h1:=h y (tN ..)
  have h2:=SP l fun x hx=>h x (fq _ hx)
  simp only[kV,Dz];omega
structure TxN(n:Nd):Prop where
 sz:jZ n<=1000000000
theorem TxN.kind{n:Nd}(h:TxN n):0<=n.kind/\n.kind<=6:=by grind[Nd,TxN,amO]
theorem K8:∀(l:List Tx) (a:Tx),(l.foldl (fun a y=>a++tc 44++y) a).size=a.size+(l.map fun x=>x.size+1).sum
 |[],a=>by simp
 |y::l,a=>by
  rw[nW,K8 l,pz,pz,kV,Dz,show(tc 44).size=1 from O];omega
theorem Od(l:List Tx):(vE l).size<=(l.map fun x=>x.size+1).sum:=by
 cases l with
 |nil=>exact eI _
 |cons x l=>
  show(l.foldl (fun a y=>a++tc 44++y) x).size<=_
  rw[K8]
  simp only[kV,Dz];omega
theorem aj8(n:Nd):(s6 n).size<=jZ n:=ae0 (C:=fun n=>(s6 n).size<=jZ n) (fun n ih=>by
 rw[amO,aj6]
 have h1:(K4 n.names).size<=(n.names.map fun x=>x.text.size+1).sum:=by
  have:=Od (n.names.map Wd.text)
  rw[JQ]at this;exact this
 have h2:(vE (n.kids.map s6)).size<=(n.kids.map fun x=>jZ x+1).sum:=by
  have h3:=Od (n.kids.map s6)
  rw[JQ]at h3
  exact kg h3 (SP n.kids fun x hx=>by have:=ih x hx;simp only[Function.comp];omega)
 have h4:∀c:UInt8,(tc c).size=1:=fun _=>rfl
 have h5:((⟨#[58,123]⟩:Tx)).size=2:=rfl
 have h6:o4.size=0:=rfl
 have h7:4<=(if 0<=n.kind/\n.kind<=6 then 4 else 10000000000):=by split<;>omega
 split
 .omega
 split
 .simp only[pz,h4];omega
 split
 .simp only[pz,h4];omega
 split
 .simp only[pz,h4];omega
 split
 .simp only[pz,h4,h5];omega
 omega) n
theorem TxN.text{n:Nd}(h:TxN n):(s6 n).size<=1000000000:=kg (aj8 n) h.sz
theorem Ql{α:Type}{F:α->Nat}{m:Nat}:∀(l:List α),(∀x∈l,F x<=m)->(l.map F).sum<=m*l.length
 |[],_=>by simp
 |y::l,h=>by
  have h1:=h y (tN ..)
  have h2:=Ql l fun x hx=>h x (fq _ hx)
  simp only[kV,Dz,eE]
  rw[Nat.mul_add];omega
def at7(T:Int->Tx)(k:Int):Tx:=vE ((upto k).map T)
def aJH(l:List eN)(i:Int):Tx:=s6 (l.getD i.toNat K3).nd
def wdT(l:List Wd)(i:Int):Tx:=(l.getD i.toNat wd0).text
instance:DecidableEq Wd:=fun a b=>if h:a.text=b.text/\a.place=b.place then .isTrue (by cases a;cases b;cases h.1;cases h.2;rfl)else .isFalse (fun e=>h (by rw[e];exact⟨rfl,rfl⟩))
def aA5:List Tx:=[⟨#[112]⟩,⟨#[113]⟩]
def exG:Sh:=⟨false,[⟨3,aA5,aAO⟩]⟩
def exR:Nd:= .mk 6 0 ⟨#[112]⟩ [⟨⟨#[113]⟩,0⟩] []
def aJJ:Nd:= .mk 5 0 o4 [] [exR]
def aJK(x:Ex El):Bool:=match x with
 | .ok e=>decide (qK e (zX dh 0 1#64))
 | .error _=>false
theorem ae6{α:Type}{cl:α->List Value}{sz:Nat}(hsz:∀a,(cl a).length=sz)(hpos:0<sz)(z0:α)(n:Nat):madeCells (cl z0).toArray (n*sz)=((List.replicate n z0).flatMap cl).toArray:=by
 refine JU (sF fun j=> ?_)
 have hl:((List.replicate n z0).flatMap cl).length=n*sz:=by rw[eV hsz,Ps]
 by_cases hj:j<n*sz
 .have h1:j/sz<n:=Nat.div_lt_of_lt_mul (by rw[Nat.mul_comm];exact hj)
  have h2:j%sz<(cl z0).length:=by rw[hsz];exact Nat.mod_lt _ hpos
  have h3:=flat_get hsz (List.replicate n z0) (j/sz) z0 (by rw[Vg,aR h1]) (j%sz) (cl z0)[j%sz] (dO h2)
  rw[show j/sz*sz+j%sz=j by rw[Nat.mul_comm];exact VI j sz]at h3
  show(madeCells (cl z0).toArray (n*sz)).toList[j]?=((List.replicate n z0).flatMap cl)[j]?
  rw[h3,madeCells,Array.toList_map,ph,Array.toList_range,xV hj]
  simp only[pT,tQ,hsz]
  congr 1
  rw[getElem!_def]
  simp only[FP,dO h2]
 rw[mJ (by rw[show(madeCells (cl z0).toArray (n*sz)).toList.length=n*sz by simp[madeCells]];omega),mJ (by rw[show((List.replicate n z0).flatMap cl).toArray.toList.length=n*sz from hl];omega)]
section
variable{P:Program}{σ:Env}{w:World}{dst:Option Tmp}{ty t e:TypeId}{pos:String}{bH:Array Edge}{g:Option (Nat×Bool)}{x y:Operand}{α:Type}{cl:α->List Value}{sz:Nat}
theorem Oe{ie:TypeInfo}{z:Value}{z0:α}{n:Nat}(hsz:∀a,(cl a).length=sz)(hpos:0<sz)(hu:P.underlying t=some (.slice e))(hie:P.info? e=some ie)(hz:ie.zero=some z)(hzc:z.cells=(cl z0).toArray)(hs:ie.size=sz)
  (hx:ev σ x= .int .i64 n) (hy:ev σ y= .int .i64 n) (hb:ie.bytes*n<=281474976710656) (hn:n<=maxLen):
  (execOp (ev σ) ⟨dst,.makeSlice t x y,ty,pos,bH,g⟩).run P w= .ok (.value (.slice (some ⟨w.heap.size,0,none⟩) n n)) (w.alloc (.cells ((List.replicate n z0).flatMap cl).toArray e)):=by
 have hb':(ie.bytes:Int)*n<=281474976710656:=by
  have h:((ie.bytes*n:Nat):Int)<=281474976710656:=J
  rwa[Int.natCast_mul]at h
 have hr:=run_make (P:=P) w t e ie z hu hie hz .i64 .i64 n n J (kY _) hb' (by unfold maxLen at hn;omega)
 rw[hzc,hs,dW,ae6 hsz hpos]at hr
 simp[execOp,hx,hy,hr]
end
theorem Bg(b o n:Nat):(⟨b,o,none⟩:Addr).add n=⟨b,o+n,none⟩:=by unfold Addr.add;split<;>simp_all
theorem Hp.Jc{w0 w:World}{L:List a8}{i:Nat}{v:Value}{e:TypeId}{sz n:Nat}{xs:List Value}(h:Hp w0 w L)(hi:L[i]?=some (.row v e sz n xs))(hn:0<n):
  ∃gb cap,v= .slice (some ⟨gb,0,none⟩) n cap/\n<=cap/\∃cur:Array Value,w.heap[gb]?=some (.cells cur e (0,0))/\cur.size=cap*sz/\cur.toList.take (n*sz)=xs/\
   ∀It:Array Value,It.size=cur.size->Hp w0 (w.setRow gb It) (L.set i (.row v e sz n (It.toList.take (n*sz)))):=by
 obtain⟨hl,h2⟩:=h.get hi
 rcases h2 with⟨rfl,rfl⟩|⟨gb,cap,cur,rfl,hb,hg,hnc,hm,hs,ht⟩
 .exact absurd hn (Nat.lt_irrefl 0)
 refine⟨gb,cap,rfl,hnc,cur,hg,hs,ht,fun It hc'=> ?_⟩
 have hil:=(mC.1 hi).1
 have h1:Hp w0 w (L.set i (.blk gb (.cells cur e (0,0)))):=⟨h.below,fun y hy=>by
   obtain⟨j,hj,DM⟩:=xU.1 hy
   rw[xY]at DM
   split at DM
   .subst DM;exact⟨hb,hg⟩
   exact h.ok y (DM▸pS _),A2 hi O h.Kc⟩
 have hi1:(L.set i (.blk gb (.cells cur e (0,0))))[i]?=some (.blk gb (.cells cur e (0,0))):=by rw[List.getElem?_set_self hil]
 have h3:=h1.set (c':=It) hi1
 rw[List.set_set]at h3
 have hi3:(L.set i (.blk gb (.cells It e (0,0))))[i]?=some (.blk gb (.cells It e (0,0))):=by rw[List.getElem?_set_self hil]
 have h4:Hp w0 (w.setRow gb It) ((L.set i (.blk gb (.cells It e (0,0)))).set i (.row (.slice (some ⟨gb,0,none⟩) n cap) e sz n (It.toList.take (n*sz)))):=⟨h3.below,fun y hy=>by
   obtain⟨j,hj,DM⟩:=xU.1 hy
   rw[xY]at DM
   split at DM
   .subst DM
    have hb3:=h3.get hi3
    refine⟨?_,.inr ⟨gb,cap,It,rfl,hb3.1,hb3.2,hnc,hm,by rw[hc',hs],rfl⟩⟩
    rw[eD,qI]
    have:It.toList.length=cap*sz:=by rw[Dr,hc',hs]
    rw[this];exact qH _ hnc
   exact h3.ok y (DM▸pS _),A2 hi3 O h3.Kc⟩
 rw[List.set_set]at h4;exact h4
def rq(xs:List Value)(o:Nat)(new:List Value):List Value:=xs.take o++new++xs.drop (o+new.length)
theorem ER{cur new:List Value}{o m:Nat}(h:o+new.length<=m)(hm:m<=cur.length):(cur.take o++new++cur.drop (o+new.length)).take m=rq (cur.take m) o new:=by
 rw[rq,List.take_append,List.take_append,iD (l:=new) (by simp only[eD];omega),AF,AF,VF J,qI J]
 congr 1
 simp only[cV,eD]
 rw[List.drop_take,show min o cur.length+new.length=o+new.length by omega]
section
variable{P:Program}{n:Nat}{ops:Array Oper}{k:K}{rest l:List Oper}{σ:Env}{w0 w:World}{L:List a8}{op:Op}{ty t e et:TypeId}{pos:String}{bH:Array Edge}{d:Nat}{x y:Operand}{g:Option (Nat×Bool)}{v:Value}{sz m i:Nat}{xs:List Value}{dst:Option Tmp}
theorem apo{o:Nat}{new:List Value}(hH:Hp w0 w L)(hi:L[i]?=some (.row v e sz m xs))(hm:0<m)(hx:ev σ x= .pointer (some ⟨sb v,so v+o,none⟩))(hy:ev σ y= .agg new.toArray)(h1:∀u∈new,u.oneCell'=true)(hs:(P.info? t).map (·.size)=some new.length)(ho:o+new.length<=m*sz):
  ∃w',(execOp (ev σ) ⟨dst,.store t x y,ty,pos,bH,g⟩).run P w= .ok .skip w'/\Hp w0 w' (L.set i (.row v e sz m (rq xs o new))):=by
 obtain⟨gb,cap,rfl,hnc,cur,hg,hc,ht,hk⟩:=hH.Jc hi hm
 have hcm:m*sz<=cap*sz:=qH _ hnc
 have hx':ev σ x= .pointer (some ⟨gb,o,none⟩):=by rw[hx];simp only[sb,so,gA]
 have hr:=Ob (P:=P) (dst:=dst) (ty:=ty) (pos:=pos) (bH:=bH) (g:=g) (c':=cur.toList.take o++new++cur.toList.drop (o+new.length)) hs hx' hy h1 hg J O
 have hl:(cur.toList.take o++new++cur.toList.drop (o+new.length)).length=cur.size:=by
  simp only[cV,eD,vk,Dr];omega
 have h2:=hk (cur.toList.take o++new++cur.toList.drop (o+new.length)).toArray (by rw[tQ,hl])
 rw[show(cur.toList.take o++new++cur.toList.drop (o+new.length)).toArray.toList=cur.toList.take o++new++cur.toList.drop (o+new.length)from O,ER ho P4,ht]at h2
 exact⟨_,hr,h2⟩
variable{fuel j:Nat}{listed:Array Bool}{L':List a8}
theorem SQ{sT:TypeId}{u:Value}{c dLen dCap o m':Nat}{cells:List Value}(hH:Hp w0 w L)(hi:L[i]?=some (.row v e sz m xs))(hm:0<m)(hu:P.underlying t=some (.slice et))(hs:(P.info? et).map (·.size)=some sz)
  (hx:ev σ x= .slice (some ⟨sb v,so v+o*sz,none⟩) dLen dCap) (hy:ev σ y=u) (hS:Sl w u sz m' cells) (hc:Nat.min m' dLen=c) (ho:o+c<=m) (h1:∀q∈cells,q.oneCell'=true):
  ∃w',(execOp (ev σ) ⟨dst,.call {callee:= .builtin .copy,args:=#[x,y],argTypes:=#[t,sT]},ty,pos,bH,g⟩).run P w= .ok (.value (goInt c)) w'/\Hp w0 w' (L.set i (.row v e sz m (rq xs (o*sz) (cells.take (c*sz))))):=by
 obtain⟨gb,cap,rfl,hnc,cur,hg,hcs,ht,hk⟩:=hH.Jc hi hm
 obtain⟨ua,SS,rfl,huc,hua⟩:=hS.shape
 have n8:=hS.len
 have hcm:m*sz<=cap*sz:=qH _ hnc
 have WL:c<=m':=by rw[<-hc];exact Nat.min_le_left _ _
 have hlt:(cells.take (c*sz)).length=c*sz:=by rw[eD,n8,qI (qH _ WL)]
 have hoc:o*sz+c*sz<=m*sz:=by rw[<-kE];exact qH _ ho
 have hx':ev σ x= .slice (some ⟨gb,o*sz,none⟩) dLen dCap:=by rw[hx];simp only[sb,so,gA]
 have hst:=Vy P gb (o*sz) e (cells.take (c*sz)) 0 cur w hg (by rw[hlt];omega) (fun q hq=>h1 q (AA hq))
 have at8:(Builtin.firstCells sz c (.slice ua m' SS)).run P w= .ok (cells.take (c*sz)).toArray w:=by
  by_cases hz:c*sz=0
  .rw[hz,we]
   cases ua with
   |none=>simp[Builtin.firstCells,hz]
   |some a=>have:=run_loadCells_list (P:=P) w a [] (fun j v hv=>by simp at hv);simpa[Builtin.firstCells,hz]using this
  have hm0:0<m':=by
   rcases Px m' with h|h
   .rw[show c=0 by omega]at hz;simp at hz
   exact h
  have hl:=run_loadCells_list (P:=P) w ⟨sb (.slice ua m' SS),so (.slice ua m' SS),none⟩ (cells.take (c*sz)) (fun j q hq=>by
   rw[Bg]
   rw[tM]at hq
   split at hq
   .exact hS.cell j q hq
   .cases hq)
  rw[hlt]at hl
  rw[hua hm0]
  simpa[Builtin.firstCells]using hl
 refine⟨w.setRow gb (cur.toList.take (o*sz)++cells.take (c*sz)++cur.toList.drop (o*sz+(cells.take (c*sz)).length)).toArray,?_,?_⟩
 rotate_left
 .have h2:=hk (cur.toList.take (o*sz)++cells.take (c*sz)++cur.toList.drop (o*sz+(cells.take (c*sz)).length)).toArray (by
   simp only[tQ,cV,eD,vk,Dr];rw[n8]
   have:min (c*sz) (m'*sz)=c*sz:=qI (qH _ WL)
   omega)
  rw[show(cur.toList.take (o*sz)++cells.take (c*sz)++cur.toList.drop (o*sz+(cells.take (c*sz)).length)).toArray.toList=cur.toList.take (o*sz)++cells.take (c*sz)++cur.toList.drop (o*sz+(cells.take (c*sz)).length)from O,ER (by rw[hlt];omega) P4,ht]at h2
  exact h2
 have hq:∃ii,P.info? et=some ii/\ii.size=sz:=by
  cases hq:P.info? et with
  |none=>simp[hq]at hs
  |some ii=>exact⟨ii,rfl,by simpa[hq]using hs⟩
 obtain⟨ii,hii,his⟩:=hq
 rw[JP]at hst
 have hcp:(Builtin.copy_ #[t,sT] ty #[.slice (some ⟨gb,o*sz,none⟩) dLen dCap,.slice ua m' SS]).run P w= .ok (goInt c) (w.setRow gb (cur.toList.take (o*sz)++cells.take (c*sz)++cur.toList.drop (o*sz+(cells.take (c*sz)).length)).toArray):=by
  have YS:min m' dLen=c:=hc
  simp[Builtin.copy_,jG hu,Builtin.lenOf,sizeOf,typeInfo,hii,his,hc,YS,at8]
  have at9:=hst
  simp at at9
  rw[at9];rfl
 simp[execOp,resolve,invoke,builtin,hx',hy,hcp]
theorem Bh{j fuel:Nat}{listed:Array Bool}{L':List a8}{Q:World->Prop}{vv:Value}(hj:l[j]?=some ⟨some d,op,ty,pos,bH,g⟩)(hg:∀a,Is n σ a->Region.wanted ⟨some d,op,ty,pos,bH,g⟩ (yielded l.toArray a.tmps)=true)(hd:Nat.blt d n=true)(h:∃w',(execOp (ev σ) ⟨some d,op,ty,pos,bH,g⟩).run P w= .ok (.value vv) w'/\Q w')(hQ:∀w',Q w'->Hp w0 w' L')
 (hk:∀w',Q w'->AN P n l (fun w=>Hp w0 w L') k fuel (listed.setIfInBounds j true) (k7 σ d vv) w'):AO P n l (fun w=>Hp w0 w L') k fuel listed σ w j:=by grind[A4]
def nS(v:Value)(sz i:Nat):Value:=
 match v with
 | .slice a n cap=> .slice (if cap=i then a else a.map (·.add (i*sz))) (n-i) (cap-i)
 |v=>v
theorem ae7(hH:Hp w0 w L)(hi:L[i]?=some (.row v e sz m xs))(hm:0<m):∃gb cap,v= .slice (some ⟨gb,0,none⟩) m cap/\m<=cap:=by
 obtain⟨gb,cap,h,h2,-⟩:=hH.Jc hi hm;exact⟨gb,cap,h,h2⟩
theorem ae8(xs:List Value)(o:Nat):rq xs o []=xs:=by simp[rq]
theorem pA{sT:TypeId}{u:Value}{c o m':Nat}{cells:List Value}(hH:Hp w0 w L)(hi:L[i]?=some (.row v e sz m xs))(hm:0<m)(hu:P.underlying t=some (.slice et))(hs:(P.info? et).map (·.size)=some sz)
  (hx:ev σ x=nS v sz o) (hy:ev σ y=u) (hS:Sl w u sz m' cells) (hc:Nat.min m' (m-o)=c) (ho:o<=m) (h1:∀q∈cells,q.oneCell'=true):
  ∃w',(execOp (ev σ) ⟨dst,.call {callee:= .builtin .copy,args:=#[x,y],argTypes:=#[t,sT]},ty,pos,bH,g⟩).run P w= .ok (.value (goInt c)) w'/\Hp w0 w' (L.set i (.row v e sz m (rq xs (o*sz) (cells.take (c*sz))))):=by
 obtain⟨gb,cap,rfl,hcap⟩:=ae7 hH hi hm
 have hcm:c<=m-o:=by have h:=Nat.min_le_right m' (m-o);rwa[show min m' (m-o)=c from hc]at h
 by_cases hco:cap=o
 .have h0:c=0:=J
  subst h0
  have hx':ev σ x= .slice (some ⟨sb (.slice (some ⟨gb,0,none⟩) m cap),so (.slice (some ⟨gb,0,none⟩) m cap)+0*sz,none⟩) (m-o) (cap-o):=by rw[hx];simp[nS,hco,sb,so]
  obtain⟨w',hr,h2⟩:=SQ (sT:=sT) (dst:=dst) (ty:=ty) (pos:=pos) (bH:=bH) (g:=g) (o:=0) hH hi hm hu hs hx' hy hS hc J h1
  refine⟨w',hr,?_⟩
  simp only[PK,we,ae8]at h2⊢
  exact h2
 refine SQ (dLen:=m-o) (dCap:=cap-o) hH hi hm hu hs ?_ hy hS hc J h1
 rw[hx]
 simp only[nS,aP hco,pT,Bg,sb,so]
theorem aA8{Q:World->Prop}{vv:Value}(hd:Nat.blt d n=true)(h:∃w',(execOp (ev σ) ⟨some d,op,ty,pos,bH,none⟩).run P w= .ok (.value vv) w'/\Q w')
 (hk:∀w',Q w'->RL P n ops k rest (k7 σ d vv) w'):RL P n ops k (⟨some d,op,ty,pos,bH,none⟩::rest) σ w:=by grind[n5]
theorem Sl.fr{cells:List Value}(h:Sl w v sz m cells)(o:Nat)(ho:o<=m):Sl w (nS v sz o) sz (m-o) (cells.drop (o*sz)):=by
 obtain⟨a,cap,rfl,hcap,ha⟩:=h.shape
 have hl:=h.len
 refine⟨?_,by rw[vk,hl,Nat.sub_mul],fun j c hj=> ?_,by have:=h.small;omega⟩
 .by_cases h0:0<m-o
  .have h1:=ha J
   have hco:¬cap=o:=J
   refine⟨_,cap-o,rfl,J,fun _=> ?_⟩
   rw[h1];simp only[nS,aP hco,pT,Bg,sb,so]
  exact⟨_,cap-o,rfl,J,fun h=>absurd h h0⟩
 have h0:0<m-o:=by
  rcases Px (m-o)with h0|h0
  .rw[List.drop_eq_nil_of_le (by rw[hl];exact qH _ J)]at hj;cases hj
  exact h0
 rw[xW]at hj
 have h1:=ha J
 have h2:=h.cell _ _ hj
 have hco:¬cap=o:=J
 have e1:sb (nS (.slice a m cap) sz o)=sb (.slice a m cap):=by rw[h1];simp only[nS,aP hco,pT,Bg,sb,so]
 have e2:so (nS (.slice a m cap) sz o)=so (.slice a m cap)+o*sz:=by rw[h1];simp only[nS,aP hco,pT,Bg,sb,so]
 rw[e1,e2,xZ];exact h2
theorem fT{lo:Operand}{q:Int}{cells:List Value}(hS:Sl w v sz m cells)(hu:P.underlying t=some (.slice et))(hs:∀w,(sizeOf et).run P w= .ok sz w)(hx:ev σ x=v)(hlo:ev σ lo=I q)(h:0<=q/\q<=m):
  (execOp (ev σ) ⟨dst,.slice t x (some lo) none none,ty,pos,bH,g⟩).run P w= .ok (.value (nS v sz q.toNat)) w:=by
 obtain⟨a,cap,rfl,hcap,ha⟩:=hS.shape
 have h1:0<=q/\q<=(m:Int):=h
 have h2:(Instr.slice t (.slice a m cap) (some (I q)) none none).run P w= .ok (nS (.slice a m cap) sz q.toNat) w:=by
  simp[Instr.slice,Instr.sliceBounds,Instr.sliceBound,jG hu,asIntOf,h1,hs,nS]
 have h3:(Instr.sliceAt t (.slice a m cap) (some (I q)) none none).run P w= .ok (nS (.slice a m cap) sz q.toNat) w:=by
  simp[Instr.sliceAt,jG hu,h2]
 simp[execOp,hx,hlo,h3]
end
def SU(a b:Tx):Bool:=Op.bytesLess a.toList b.toList
section
variable{P:Program}{σ:Env}{w:World}{dst:Option Tmp}{ty t u:TypeId}{pos:String}{bH:Array Edge}{g:Option (Nat×Bool)}{x y:Operand}{a b:Tx}
end
structure jd where
 name:Tx
 el:El
def Qp:jd:=⟨o4,dh⟩
def ae9(v:jd):List Value:=S v.name::sC v.el
def Of(l:List jd)(f:Tx):Int:=rW (fun i=>decide ((l.getD i.toNat Qp).name=f)) l.length
def aa7(l:List jd)(f:Tx):El×Bool:=if Of l f<0 then(dh,false)else((l.getD (Of l f).toNat Qp).el,true)
def spot(l:List jd)(f:Tx):Nat:=if 0<=rW (fun i=>SU f (l.getD i.toNat Qp).name) l.length then(rW (fun i=>SU f (l.getD i.toNat Qp).name) l.length).toNat else l.length
def amQ(l:List jd)(f:Tx)(e:El):List jd:=if Of l f<0 then l.take (spot l f)++⟨f,e⟩::l.drop (spot l f)else l.set (Of l f).toNat ⟨f,e⟩
def aua(a b:jd):Bool:=decide (a.name=b.name)&&decide (qK a.el b.el)
def amR(l m:List jd):Bool:=decide (l.length=m.length)&&(upto l.length).all fun i=>aua (l.getD i.toNat Qp) (m.getD i.toNat Qp)
structure As where
 labels:List El
 rows:List (List jd)
def aA9(a:As)(i:Nat):El:=a.labels.getD i dh
def aJP(a:As)(i:Nat):List jd:=a.rows.getD i []
def aGJ(a b:As):Bool:=decide (a.labels.length=b.labels.length/\a.rows.length=b.rows.length)&&((upto a.labels.length).all fun i=>decide (qK (a.labels.getD i.toNat dh) (b.labels.getD i.toNat dh)))&&(upto a.rows.length).all fun i=>amR (a.rows.getD i.toNat []) (b.rows.getD i.toNat [])
def apr(l m:List jd):Bool:=l.all fun v=>(aa7 m v.name).2&&cK v.el (aa7 m v.name).1
def aJQ(a b:As):Bool:=((upto a.labels.length).all fun i=>cK (a.labels.getD i.toNat dh) (b.labels.getD i.toNat dh))&&(upto a.rows.length).all fun i=>apr (a.rows.getD i.toNat []) (b.rows.getD i.toNat [])
def Og(l m:List jd):List jd:=l.filterMap fun v=>if(aa7 m v.name).2 then some ⟨v.name,qM v.el (aa7 m v.name).1⟩else none
def aub(a b:As):As:=⟨(a.labels.zip b.labels).map fun p=>qM p.1 p.2,(a.rows.zip b.rows).map fun p=>Og p.1 p.2⟩
theorem afa{α β γ:Type}{F:α×β->γ}{l:List α}{m:List β}{k:Int}{da:α}{db:β}(h0:0<=k)(h1:k<l.length)(h2:k<m.length):
  ((l.zip m).take (k+1).toNat).map F=((l.zip m).take k.toNat).map F++[F (l.getD k.toNat da,m.getD k.toNat db)]:=by
 have h3:(l.zip m)[k.toNat]?=some (l.getD k.toNat da,m.getD k.toNat db):=by
  rw[List.getElem?_zip_eq_some];exact⟨e8 (d:=da) h0 h1,e8 (d:=db) h0 h2⟩
 rw[show(k+1).toNat=k.toNat+1 by omega,xX,h3,gp];rfl
theorem YT{α β γ:Type}{F:α×β->γ}{l:List α}{m:List β}{k:Int}(h:¬(k<l.length/\k<m.length)):((l.zip m).take k.toNat).map F=(l.zip m).map F:=by
 rw[iD];rw[List.length_zip];omega
section
variable{l m:List jd}{k:Int}
end
section
variable{a b:As}{k:Int}
end
def afb(l:List jd):Bool:=(upto l.length).all fun i=>gY (l.getD i.toNat Qp).name&&(decide (i<=0)||SU (l.getD (i-1).toNat Qp).name (l.getD i.toNat Qp).name)
def auc(s:Sh)(l:List jd):Bool:=l.all fun v=>cf s v.el
structure Sc where
 an:List Sh
 vars:List nn
def okV(s:Sc)(v:nn)(e:El)(l:List jd):Bool:=decide (0<=v.aS/\v.aS<s.an.length)&&
 (if v.kind=1 then decide (l.length=0)&&cf (s.an.getD v.aS.toNat ⟨false,[]⟩) e
  else if v.kind=2 then decide (qK e dh)&&afb l&&auc (s.an.getD v.aS.toNat ⟨false,[]⟩) l else false)
def GN(s:Sc)(a:As):Bool:=decide (a.labels.length=s.vars.length/\a.rows.length=s.vars.length)&&(upto s.vars.length).all fun i=>okV s (s.vars.getD i.toNat eY) (a.labels.getD i.toNat dh) (a.rows.getD i.toNat [])
def aa8(s:Sc)(v:nn):El:=if v.kind=1/\0<=v.aS/\v.aS<s.an.length then gQ (s.an.getD v.aS.toNat ⟨false,[]⟩) eM else dh
def aps(s:Sc):As:=⟨s.vars.map (aa8 s),s.vars.map fun _=>[]⟩
def aBa(l:List jd):Prop:=l.Pairwise fun a b=>SU a.name b.name=true
theorem jy(e:El):cK e e=true:=oO.2 fun i _=>rZ _
theorem K9{a b c:El}(h:cK a b=true)(h':cK b c=true):cK a c=true:=by grind[oO,lf]
def aud(s:Sc)(v:nn):Sh:=s.an.getD v.aS.toNat ⟨false,[]⟩
section
variable{s:Sc}{a b c:As}(ha:GN s a=true)(hb:GN s b=true)
include ha hb
end
def vD(b:Tx):List Tx->Tx
 |[]=>o4
 |x::l=>l.foldl (fun a y=>a++b++y) x
def apt(s:Sh)(v:jd):Tx:=v.name++tc 61++ae5 s v.el
def aBb(s:Sh)(l:List jd):Tx:=tc 91++vD (tc 44) (l.map (apt s))++tc 93
def aue(s:Sc)(v:nn)(e:El)(l:List jd):Tx:=v.name++tc 61++(if v.kind=1 then ae5 (aud s v) e else aBb (aud s v) l)
def amS(s:Sc)(a:As)(k:Int):List Tx:=(upto k).map fun i=>aue s (s.vars.getD i.toNat eY) (a.labels.getD i.toNat dh) (a.rows.getD i.toNat [])
def aGL(s:Sc)(a:As):Tx:=if GN s a then vD (tc 32) (amS s a s.vars.length)else o4
def aJR(l:List By):By:=l.flatMap fun y=>32::y
def PT(s:Sc)(p:nn×El×List jd):By:=bl (aue s p.1 p.2.1 p.2.2)
def aJS(s:Sc)(a:As):List (nn×El×List jd):=(upto s.vars.length).map fun i=>(s.vars.getD i.toNat eY,a.labels.getD i.toNat dh,a.rows.getD i.toNat [])
theorem vF(e:El):∀u∈sC e,u.oneCell'=true:=fun u hu=>YL e u (by rw[gR];simpa using hu)
theorem YU(l:List El):∀u∈l.flatMap sC,u.oneCell'=true:=by grind[vF]
structure UY where
 v:Value
 l:List jd
def vr0:UY:=⟨.slice none 0 0,[]⟩
abbrev auf(l:List UY):List Value:=l.map UY.v
structure uw(K:Vu)(l:List UY):Prop where
 each:∀r∈l,n7 K r.v 9 r.l.length (r.l.flatMap ae9)
theorem uw.mono{K K':Vu}{l:List UY}(h:uw K l)(hl:Le K K'):uw K' l:=⟨fun r hr=>(h.each r hr).mono hl⟩
theorem uw.at{K:Vu}{l:List UY}(h:uw K l){k:Int}(h0:0<=k)(h1:k<l.length):n7 K (l.getD k.toNat vr0).v 9 (l.getD k.toNat vr0).l.length ((l.getD k.toNat vr0).l.flatMap ae9):=h.each _ (kU (e8 (d:=vr0) h0 h1))
theorem uw.nil(K:Vu):uw K []:=⟨fun r hr=>by simp at hr⟩
theorem uw.snoc{K:Vu}{l:List UY}{r:UY}(h:uw K l)(hr:n7 K r.v 9 r.l.length (r.l.flatMap ae9)):uw K (l++[r]):=⟨fun x hx=>by
 rcases eF.1 hx with hx|hx
 .exact h.each x hx
 rw[fG.1 hx];exact hr⟩
structure M5 where
 lv:Value
 labels:List El
 rv:Value
 rows:List UY
def aJT(a:M5):List Value:=[a.lv,a.rv]
def apu:M5:=⟨.slice none 0 0,[],.slice none 0 0,[]⟩
def M5.HO(a:M5):As:=⟨a.labels,a.rows.map UY.l⟩
structure SV(K:Vu)(a:M5):Prop where
 labels:n7 K a.lv 8 a.labels.length (a.labels.flatMap sC)
 rows:n7 K a.rv 1 a.rows.length (auf a.rows)
 each:uw K a.rows
theorem SV.mono{K K':Vu}{a:M5}(h:SV K a)(hl:Le K K'):SV K' a:=⟨h.labels.mono hl,h.rows.mono hl,h.each.mono hl⟩
theorem SV.at{K:Vu}{a:M5}(h:SV K a){k:Int}(h0:0<=k)(h1:k<a.rows.length):n7 K (a.rows.getD k.toNat vr0).v 9 (a.rows.getD k.toNat vr0).l.length ((a.rows.getD k.toNat vr0).l.flatMap ae9):=h.each.at h0 h1
structure aj9 where
 a:M5
 b:M5
 c:M5
def aJU(x:aj9):List Value:=[x.a.lv,x.a.rv,x.b.lv,x.b.rv,x.c.lv,x.c.rv]
def aJV:aj9:=⟨apu,apu,apu⟩
structure afc(K:Vu)(x:aj9):Prop where
 a:SV K x.a
 b:SV K x.b
 c:SV K x.c
theorem afc.mono{K K':Vu}{x:aj9}(h:afc K x)(hl:Le K K'):afc K' x:=⟨h.a.mono hl,h.b.mono hl,h.c.mono hl⟩
theorem HT(a:M5):a.HO.rows.length=a.rows.length:=fx ..
def kx.sc(s:kx):Sc:=⟨s.an.map fun l=>l.yz.sh,s.vars⟩
section
variable{P:Program}{σ:Env}{w:World}{dst:Option Tmp}{ty t u e:TypeId}{pos:String}{bH:Array Edge}{g:Option (Nat×Bool)}{x y:Operand}{b:Nat}{fr:Nat×Nat}
end
end
end Go.Proofs.YtlhjdflgjbkpmaaGreatDoor.E

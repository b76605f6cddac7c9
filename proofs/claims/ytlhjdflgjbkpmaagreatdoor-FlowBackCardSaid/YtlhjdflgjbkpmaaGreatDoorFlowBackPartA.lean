/- Part 1 of the proof of FlowBack: its plain laws and the walks of its functions. -/
import Derived.WalkKit
import Derived.ProofKit
import Derived.Deep.Quiet
import Derived.Laws.AppendOwn
import Derived.Laws.CopyRow
import Derived.Laws.Tables
import Derived.Deep.MidRow
import Derived.Great.BuildSlice
import Derived.OrdersHeld
import Derived.Laws.CopyOwn
import Derived.WalkLawsBesides
import Derived.Laws.StructEq
import Derived.Laws.Rows
import Derived.Laws.Strings
import Derived.Laws.Concat
import Derived.Lib.AppendStr
import Derived.Laws.BytesArg
import Derived.Laws.MakeOwn
import Derived.MapKept
import Derived.Laws.IdiomRangeMap
import Derived.Scope
import Derived.ArgAppend
import Derived.OpenShut
import Derived.ChangeSlices
import Derived.WideShapes
import Derived.Carry
import Derived.Deep.Strs
import Derived.Test.YtlhjdflgjbkpmaaGreatDoorProg
import Derived.Tactics
import Derived.Tactics2
import Derived.Defers
import Derived.Laws.Pointers
import Derived.Laws.LoneSync
import Derived.RegionTactic
import Derived.RegionCalls
import Derived.ChangeAlike
import Derived.Ground.NamesProg
import Derived.Shelf.Slices.In.SortNone
import Derived.Sort.EveryDepth
import Derived.Sort.OwnSortedInts
import Derived.Test.YtlhjdflgjbkpmaaGreatDoorCards
import Derived.Test.YtlhjdflgjbkpmaaGreatDoorTie
import Derived.Deep.DeepHandedRow
import Derived.Lib.LaidTab
set_option linter.all false
namespace Go.Proofs.YtlhjdflgjbkpmaaGreatDoor
section
open Go Go.RowKit Go.Proofs.Tryz
def bt:=@List.mem_append_right
def aK:=@congrArg
def bg:=@underlying99
def bx:=@underlying3
def bQ:=@underlying86
def dg:=@List.append_assoc
def eE:=@List.getD_eq_getElem?_getD
def aP:=@if_neg
def aQ:=@if_pos
def bz:=@sizeOf3
def cV:=@List.length_append
def bM:=@underlying111
def cH:=@Bool.and_eq_true
def dx:=@List.mem_append_left
def ef:=@List.getElem?_eq_getElem
def cw:=@underlying31
def cI:=@underlying37
def dN:=@Int.toNat_natCast
def cS:=@underlying100
def eo:=@List.length_take
def cZ:=@List.mem_cons
def fw:=@List.mem_cons_of_mem
def gj:=@List.length_map
def ep:=@decide_eq_true_eq
def eO:=@List.length_cons
def gk:=@List.length_singleton
def er:=@List.nil_append
def iZ:=@List.setIfInBounds_toArray
def fN:=@Int.toNat_of_nonneg
def fH:=@List.cons_append
def fO:=@List.set_cons_zero
def fZ:=@List.mem_singleton
def eP:=@List.mem_append
def dG:=@underlying54
def iP:=@List.take_of_length_le
def dI:=@underlying88
def dJ:=@underlying46
def dL:=@underlying56
def dP:=@underlying83
def gU:=@List.set_cons_succ
def dW:=@underlying35
def gF:=@decide_eq_false
def gA:=@List.map_append
def cP:=@sizeOf99
def fx:=@underlying222
def mh:=@List.getElem?_eq_some_iff
def eR:=@underlying90
def gG:=@Bool.eq_iff_iff
def fg:=@Nat.zero_add
def c8:=@sizeOf35
def iC:=@List.all_eq_true
def gB:=@decide_eq_true
def eG:=@Nat.le_refl
def ld:=@List.mem_of_getElem?
def fU:=@List.mem_map
def gH:=@underlying103
def gR:=@underlying109
def mX:=@List.getElem?_eq_none
def lQ:=@List.pairwise_cons
def iM:=@underlying128
def jr:=@run_underlying
def iv:=@underlying44
def iD:=@underlying25
def iE:=@underlying34
def gS:=@underlying9
def kV:=@List.append_nil
def wc:=@Array.getD_eq_getD_getElem?
def we:=@List.perm_append_comm_assoc
def kE:=@underlying101
def mM:=@List.length_set
def jP:=@Nat.le_trans
def wg:=@decide_eq_false_iff_not
def qV:=@Nat.mul_le_mul_right
def lf:=@List.map_cons
def rZ:=@Bool.false_eq_true
def lR:=@underlying105
def kW:=@underlying22
def mi:=@underlying220
def mj:=@underlying102
def iN:=@sizeOf100
def lj:=@underlying26
def p5:=@List.getElem?_map
def qW:=@Nat.min_eq_left
def um:=@List.Perm.append_left
def p6:=@List.getElem_mem
def mo:=@underlying40
def oL:=@List.mem_range
def tG:=@List.mem_cons_self
def mN:=@underlying98
def Dk:=@Array.getElem?_setIfInBounds
def mY:=@underlying39
def tH:=@List.flatMap_cons
def xJ:=@List.length_drop
def uo:=@List.getElem?_take
def og:=@underlying23
def E3:=@List.eq_nil_of_length_eq_zero
def xK:=@List.mem_of_mem_drop
def pF:=@underlying193
def r5:=@List.foldl_cons
def uq:=@List.getElem?_set
def ur:=@List.size_toArray
def mZ:=@List.nodup_cons
def sW:=@List.perm_append_comm
def kN:=@underlying28
def wP:=@List.getElem?_append_left
def lU:=@Bool.true_and
def ou:=@Bool.or_eq_true
def gM:=@sizeOf37
def q9:=@BitVec.getLsbD_and
def mF:=@underlying212
def gV:=@sizeOf54
def kO:=@Nat.add_mul
def kP:=@Nat.mul_one
def wR:=@List.filter_cons_of_pos
def sX:=@List.getElem_of_mem
def DS:=@List.take_succ_eq_append_getElem
def lm:=@Int.le_refl
def uu:=@List.mem_of_mem_take
def p7:=@Option.map_some
def lW:=@Nat.zero_le
def A6:=@Array.getElem?_eq_some_iff
def yy:=@List.filter_cons_of_neg
def jQ:=@sizeOf103
def sY:=@List.ext_getElem?
def p8:=@Bool.false_and
def jA:=@Eq.trans
def DT:=@List.flatMap_append
def DU:=@Array.length_toList
def jR:=@sizeOf86
def DV:=@List.getElem?_append_right
def wS:=@List.take_zero
def p9:=@underlying117
def qa:=@underlying154
def o9:=@Sem.run_bind
def yz:=@List.mem_iff_getElem
def pc:=@underlying63
def pe:=@underlying42
def DW:=@List.mem_take_iff_getElem
def yA:=@List.getElem?_range
def Gm:=@List.take_succ_cons
def wT:=@Result.andThen_ok
def wU:=@List.foldl_append
def sZ:=@DataW.trod_int
def jS:=@call150
def jT:=@sizeOf9
def lz:=@sizeOf46
def s0:=@Nat.add_assoc
def rf:=@underlying84
def uv:=@List.take_left
def qb:=@underlying4
def yB:=@List.take_add_one
def m4:=@sizeOf109
def wV:=@List.range_succ
def wW:=@List.mem_filter
def J4:=@List.drop_append_of_le_length
def yC:=@List.getElem_set
def A7:=@List.getElem?_drop
def J5:=@Bool.false_ne_true
def DX:=@List.contains_eq_mem
def DY:=@List.pairwise_append
def wX:=@Nat.mul_le_mul
def A8:=@Bool.not_eq_true'
def pg:=@sizeOf220
def wY:=@List.map_take
def A9:=@List.filter_cons
def Gn:=@BitVec.eq_of_toNat_eq
def Gp:=@List.getElem?_toArray
def Gq:=@List.take_append_drop
def J6:=@Bool.and_false
def mG:=@sizeOf4
def qc:=@sizeOf101
def J7:=@List.pairwise_iff_getElem
def J8:=@Decidable.byContradiction
def Qd:=@List.eq_nil_iff_forall_not_mem
def Gr:=@Decidable.of_not_not
def ph:=@sizeOf83
def wZ:=@underlying58
def pn:=@sizeOf90
def po:=@sizeOf39
def yD:=@underlying107
def yE:=@underlying156
def Qe:=@List.take_append_of_le_length
def Gs:=@List.map_congr_left
def DZ:=@List.any_eq_true
def Ba:=@List.take_take
def D0:=@List.perm_middle
def ov:=@call149
def qd:=@sizeOf98
def Bb:=@Int.le_add_one
def xa:=@cell_of_row
def J9:=@List.drop_of_length_le
def yF:=@Code.wp_mono
def s4:=@sizeOf102
def Ka:=@List.sizeOf_lt_of_mem
def D1:=@List.count_cons
def D2:=@List.length_nil
def rh:=@sizeOf22
def Bc:=@underlying119
def rj:=@sizeOf26
def Gt:=@List.pairwise_map
def xb:=@beq_iff_eq
def Qf:=@Classical.byContradiction
def Qg:=@List.drop_eq_getElem_cons
def Wj:=@List.set_eq_take_append_cons_drop
def uw:=@sizeOf107
def s5:=@if_true
def D3:=@List.drop_left
def xd:=@if_false
def Gu:=@List.mem_nil_iff
def Bd:=@List.map_nil
def s6:=@sizeOf84
def Be:=@underlying59
def s7:=@sizeOf88
def Bf:=@Int.ofNat_le
def Kb:=@List.drop_succ_cons
def Kc:=@Int.sub_lt_sub_left
def D4:=@List.sum_cons
def D5:=@underlying233
def Ke:=@Int.natCast_nonneg
def Kf:=@List.map_singleton
def Kg:=@Int.toNat_lt_toNat
def Qh:=@Array.getElem?_eq_none
def Qi:=@BitVec.toNat_shiftLeft
def Qj:=@List.length_pos_of_mem
def ux:=@sizeOf40
def Kh:=@of_decide_eq_true
def Ki:=@DataW.trod_string
def Qk:=@Decidable.not_not
def Kj:=@Int.sub_pos_of_lt
def Ql:=@List.length_replicate
def D6:=@underlying72
def s8:=@call159
def Wl:=@List.take_length_add_append
def yG:=@false_iff
def yH:=@sizeOf105
def Kk:=@List.mem_toArray
def Kl:=@List.take_length
def xe:=@sizeOf23
def Gv:=@underlying143
def Wm:=@List.sublist_append_right
def Km:=@List.cons.injEq
def Qn:=@BitVec.toNat_ofInt
def Wn:=@BitVec.toNat_ushiftRight
def Gw:=@Addr.add_mid
def Qo:=@BitVec.getLsbD_not
def Wo:=@List.length_erase_of_mem
def Qp:=@List.filter_append
def Qq:=@Nat.eq_zero_or_pos
def Wp:=@Array.size_setIfInBounds
def Kn:=@List.drop_zero
def Wq:=@List.getElem?_replicate
def Qr:=@List.length_range
def Ws:=@List.pairwise_lt_range
def Wt:=@List.range_succ_eq_map
def Gx:=@Nat.le_succ
def Ko:=@underlying210
def Kq:=@underlying115
def Kr:=@underlying159
def Qs:=@Option.bind_some
def Qt:=@BitVec.toNat_sub
def Qu:=@Nat.shiftLeft_eq
def Qv:=@decide_eq_decide
def Bg:=@or_false
def Qw:=@Option.getD_some
def Bh:=@sizeOf56
def Bi:=@sizeOf34
def Wu:=@List.mem_iff_getElem?
def Wv:=@Nat.pow_le_pow_right
def Ww:=@BitVec.getLsbD_ofNat
def Qx:=@run_equalIn_int
def Ks:=@Nat.add_zero
def aeb:=@Array.eq_empty_of_size_eq_zero
def Kt:=@Int.le_trans
def Ku:=@underlying65
def Wx:=@BitVec.getLsbD_zero
def Wy:=@Array.getElem?_push
def Wz:=@List.Sublist.append
def Qy:=@List.drop_drop
def Qz:=@List.Perm.refl
def Bj:=@Iff.rfl
def Bl:=@Ne.symm
def D7:=@sizeOf58
def D8:=@sizeOf44
def Kx:=@underlying5
def Ky:=@Int.lt_succ
def WA:=@BitVec.toNat_ofNat
def WB:=@Nat.lt_of_lt_of_le
def WC:=@Nat.lt_or_gt_of_ne
def aec:=@Nat.testBit_two_pow_sub_one
def aed:=@Nat.testBit_two_pow_mul_add
def WD:=@Array.ext_getElem?
def WE:=@List.append_of_mem
def Gy:=@sizeOf143
def Gz:=@sizeOf154
def GC:=@sizeOf128
def yI:=@call44
def WG:=@Int.toNat_le_toNat
def aee:=@Int.tdiv_eq_ediv_of_nonneg
def aef:=@BitVec.getLsbD_ushiftRight
def QA:=@Prod.mk.injEq
def QB:=@underlying162
def QC:=@underlying135
def QD:=@underlying114
def WH:=@Option.some.injEq
def WI:=@run_storeCells_at
def WJ:=@BitVec.getLsbD_or
def WK:=@not_false_eq_true
def WL:=@Int.lt_trichotomy
def WM:=@List.any_eq_false
def WN:=@List.count_append
def WO:=@bne_self_eq_false
def aeg:=@Nat.shiftRight_eq_div_pow
def aeh:=@Array.getElem?_eq_getElem
def D9:=@call128
def aei:=@Array.getElem?_replicate
def WQ:=@BitVec.toNat_inj
def WR:=@Nat.min_eq_right
def QE:=@Nat.sub_self
def QF:=@Nat.zero_mul
def QG:=@List.map_map
def WS:=@List.flatMap_map
def WT:=@List.ext_getElem
def aej:=@List.Pairwise.imp_of_mem
def aek:=@List.sublist_append_left
def GD:=@sizeOf42
def GF:=@sizeOf25
def WU:=@Nat.div_add_mod
def WV:=@run_eqGuard_agg
def WW:=@and_congr_right
def WX:=@Int.min_eq_left
def WY:=@List.headD_cons
def KA:=@sizeOf233
def KB:=@sizeOf119
def QH:=@Nat.one_mul
def QI:=@wpAnyH_take
def WZ:=@List.range_add
def GG:=@call179
def GH:=@call154
def GI:=@call199
def GJ:=@call144
def Ea:=@call15
def QJ:=@Array.ext'
def KC:=@sizeOf63
def W3:=@wp_region_any
def W4:=@wpAny_of_held
def W5:=@Bool.and_true
def W6:=@List.map_drop
def W7:=@run_call_load
def W8:=@underlying199
def W9:=@underlying139
def O:=@rfl
theorem J{p:Prop}(h:p:=by omega):p:=h
theorem aZ{p:Prop}(h:p:=by (try dsimp only);omega):p:=h
theorem aM{p:Prop}(h:p:=by kernel_rfl):p:=h
theorem aD{p:Prop}(h:p:=by decide):p:=h
theorem bG{p:Prop}(h:p:=by conv=>lhs;whnf):p:=h
theorem az{p:Prop}(h:p:=by simp):p:=h
theorem aN{p:Prop}(h:p:=by rfl):p:=h
theorem jU{p:Prop}(h:p:=by simp only[maxLen];omega):p:=h
theorem kq{p:Prop}(h:p:=by simp[Value.oneCell']):p:=h
theorem tJ{p:Prop}(h:p:=by simp only[gj,maxLen];omega):p:=h
theorem QK{p:Prop}(h:p:=by have:=(uy hr h0 ‹k<_› hdp ‹¬(List.getD l k.toNat cA).op=1› ‹¬(List.getD l k.toNat cA).op=2›);omega):p:=h
theorem iF{p:Prop}(h:p:=by simp;omega):p:=h
theorem m5{p:Prop}(h:p:=by rw[KD];rfl):p:=h
theorem KE{p:Prop}(h:p:=by show _<(kZ _ _ _ _ _).toArray.size;rw[ur,aem];decide):p:=h
theorem kQ{p:Prop}(h:p:=by simp[maxLen]):p:=h
theorem QL{p:Prop}(h:p:=by show((st.length:Int)-(l.getD k.toNat cA).n).toNat+1<=_;simp only[maxLen];omega):p:=h
theorem qe{p:Prop}(h:p:=by first|rfl|omega):p:=h
theorem Bm{p:Prop}(h:p:=by rw[aen i0 hi];simp;omega):p:=h
theorem qf{p:Prop}(h:p:=by simpa using hu):p:=h
theorem QM{p:Prop}(h:p:=by show(((st.length:Int)-(l.getD k.toNat cA).n).toNat+1)*_<=_;omega):p:=h
theorem m6{p:Prop}(h:p:=by assumption):p:=h
theorem Bn{p:Prop}(h:p:=by rw[Xa v0];simp[*]):p:=h
theorem Bo{p:Prop}(h:p:=by rw[Xb v0];simp[*]):p:=h
theorem QO{p:Prop}(h:p:=by rw[Oz fy,cV,eo,qW J,DT];rfl):p:=h
theorem QR{p:Prop}(h:p:=by first|rfl|(simp only[dg];done)|(simp only[dg];rfl)):p:=h
theorem QS{p:Prop}(h:p:=by have:=(hpl.at h0 ‹k<_› ‹Eb _=true›).1;omega):p:=h
theorem GK{p:Prop}(h:p:=by simp only[nV,eO];omega):p:=h
theorem Bp{p:Prop}(h:p:=by show min _ _=_;omega):p:=h
theorem GL{p:Prop}(h:p:=by rw[mH];exact nt ‹_›):p:=h
theorem Ec{p:Prop}(h:p:=by simp only[cV];omega):p:=h
theorem QT{p:Prop}(h:p:=by simp only[dg,Gm,wS,fH,er];done):p:=h
theorem uz{p:Prop}(h:p:=by simpa using h):p:=h
theorem aeo{p:Prop}(h:p:=by first|(rw[GM j0 ‹j<_›,aQ hqq];done)|(rw[GM j0 ‹j<_›,aP hqq];done)|(rw[GM j0 ‹j<_›,aP hqq];rfl)):p:=h
theorem Ed{p:Prop}(h:p:=by rw[KD];omega):p:=h
theorem KF{p:Prop}(h:p:=by rw[KG,gF J,J6]):p:=h
theorem aep{p:Prop}(h:p:=by first|rfl|(simp only[dg,fH,er,s5,xd,rZ];done)|(simp only[dg,fH,er,s5,xd,rZ];rfl)):p:=h
theorem uA{p:Prop}(h:p:=by simpa using hi):p:=h
theorem QU{p:Prop}(h:p:=by rw[Tb h0,gA,cV];rfl):p:=h
theorem GN{p:Prop}(h:p:=by rw[GO];omega):p:=h
theorem GQ{p:Prop}(h:p:=by have:=hlc.dep;omega):p:=h
theorem yJ{p:Prop}(h:p:=by simp[undef]):p:=h
theorem qg{p:Prop}(h:p:=by simp[hx]):p:=h
theorem jV{p:Prop}(h:p:=by simp_all):p:=h
theorem GR{p:Prop}(h:p:=by rw[yK];omega):p:=h
theorem aeq{p:Prop}(h:p:=by have hlc:=nt ‹(!ja (rp s k))=true›;rw[ja,wg]at hlc;rw[tK,wg];omega):p:=h
theorem Xc{p:Prop}(h:p:=by show gs.length+1<=_;simp only[maxLen];omega):p:=h
theorem Xd{p:Prop}(h:p:=by rw[half,show(k+1).toNat=k.toNat+1 by omega]):p:=h
theorem aer{p:Prop}(h:p:=by have:=(oM hf (i:=i.toNat) J).1;have:=(oM hf (i:=j.toNat) J).1;omega):p:=h
theorem Xe{p:Prop}(h:p:=by simp only[cV,eo,gW];omega):p:=h
theorem ow{p:Prop}(h:p:=by cases h):p:=h
theorem Xf{p:Prop}(h:p:=by rw[Jq h0 ‹k<_›,<-dg];done):p:=h
theorem Xg{p:Prop}(h:p:=by first|omega|(simp only[cV];omega)):p:=h
theorem QV{p:Prop}(h:p:=by rw[OA J];rfl):p:=h
theorem aes{p:Prop}(h:p:=by rw[mH];intro q;have q2:(s.aY.getD k.toNat kF).kind=4:=q.2;omega):p:=h
theorem KH{p:Prop}(h:p:=by rw[xJ];omega):p:=h
theorem QW{p:Prop}(h:p:=by rw[h.llo];exact hp.1):p:=h
theorem QX{p:Prop}(h:p:=by rw[tL];exact J5):p:=h
theorem Ee{p:Prop}(h:p:=by simpa using h1):p:=h
theorem Xh{p:Prop}(h:p:=by show(gs.length+1)*_<=_;omega):p:=h
theorem Xi{p:Prop}(h:p:=by unfold IU;((simp_all;done))):p:=h
theorem KI{p:Prop}(h:p:=by simpa using c):p:=h
theorem Xj{p:Prop}(h:p:=by rw[hr];exact ak1 ‹_›):p:=h
theorem Xk{p:Prop}(h:p:=by simp only[gj,eo];omega):p:=h
theorem KJ{p:Prop}(h:p:=by (simp;omega)):p:=h
theorem aeu{p:Prop}(h:p:=by show¬(1<=f.names.length/\f.names.length<=64);omega):p:=h
theorem aev{p:Prop}(h:p:=by have:=aew r _ _ ‹(iO r _ _).2=true›;omega):p:=h
theorem QY{p:Prop}(h:p:=by rw[DU];omega):p:=h
theorem Xl{p:Prop}(h:p:=by simp[Tc,Value.oneCell']):p:=h
theorem QZ{p:Prop}(h:p:=by rw[e0];exact yw):p:=h
theorem Xm{p:Prop}(h:p:=by rw[pG];exact Il):p:=h
theorem aex{p:Prop}(h:p:=by have:=hui _ (dc (d:=0) h0 ‹k<_›);omega):p:=h
theorem aey{p:Prop}(h:p:=by rw[tM,nt ‹(!(qh r i j).2)=true›];simp):p:=h
theorem aez{p:Prop}(h:p:=by exact .inr (nf ‹(!qj s _ 1 x.aT)=false›)):p:=h
theorem aeA{p:Prop}(h:p:=by have:leads (bk (cl::zX))=leads cl:=rfl;omega):p:=h
theorem aeB{p:Prop}(h:p:=by rw[ak2,show(i+1).toNat=i.toNat+1 by omega]):p:=h
theorem aeC{p:Prop}(h:p:=by rw[tM,nt ‹(!(iO r i j).2)=true›];rfl):p:=h
theorem aeD{p:Prop}(h:p:=by exact .inl ‹¬(List.getD x.code _ _).op=1›):p:=h
theorem Xn{p:Prop}(h:p:=by simp only[gj];omega):p:=h
theorem aeE{p:Prop}(h:p:=by show st.length+1<=_;simp only[maxLen];omega):p:=h
theorem aeF{p:Prop}(h:p:=by rw[gj];(try rw[mM]);rw[Bq];omega):p:=h
theorem Xo{p:Prop}(h:p:=by first|rfl|(simp;done)):p:=h
theorem aeG{p:Prop}(h:p:=by have hb:=hbytes;simp only[fg]at hb;omega):p:=h
theorem yL{p:Prop}(h:p:=by cases q):p:=h
theorem aeH{p:Prop}(h:p:=by rw[dg];exact bt _ (bt _ (hL _ _ V8))):p:=h
theorem aeI{p:Prop}(h:p:=by rw[dg];exact bt _ (bt _ (hL _ _ KK))):p:=h
theorem Xp{p:Prop}(h:p:=by rw[ha.eval];exact hc):p:=h
theorem aeJ{p:Prop}(h:p:=by have:=Td hr hk ‹¬k<_› hdp;omega):p:=h
theorem aeK{p:Prop}(h:p:=by rw[Te h0];exact Nat.le_add_right _ _):p:=h
theorem aeL{p:Prop}(h:p:=by exact .inl ‹¬(List.getD l _ _).op=1›):p:=h
theorem Q0{p:Prop}(h:p:=by rw[hg];omega):p:=h
theorem aeM{p:Prop}(h:p:=by simp;rcases xf x y with e|e<;>omega):p:=h
theorem aeN{p:Prop}(h:p:=by exact .inr (Qk.1 ‹¬¬(_/\_)›)):p:=h
theorem aR{p:Prop}(h:p:=by assumption):p:=h
end
end Go.Proofs.YtlhjdflgjbkpmaaGreatDoor
namespace Go.Proofs.YtlhjdflgjbkpmaaGreatDoor.E
section
open Go Go.RowKit
abbrev Env:=Nat->Value
def k7(σ:Env)(d:Nat)(v:Value):Env:=fun i=>if i=d then v else σ i
def ev(σ:Env):Operand->Value
 | .tmp t=>σ t
 | .const v=>v
 | .global g=> .pointer (some ⟨g,0,none⟩)
 | .func f=> .func (.func f) #[] #[]
theorem aqO(σ:Env)(d:Nat)(v:Value):k7 σ d v d=v:=by simp[k7]
theorem Xq(σ:Env){d i:Nat}(v:Value)(h:i≠d):k7 σ d v i=σ i:=by simp[k7,h]
abbrev I(n:Int):Value:= .int .i64 n
abbrev U(x:BitVec 64):Value:= .int .u64 (x.toNat:Int)
abbrev B(b:Bool):Value:= .bool b
structure Is(n:Nat)(σ:Env)(a:Act):Prop where
 size:a.tmps.size=n
 get:∀t,a.tmps.getD t undef=σ t
 defers:a.defers=[]
section basics
variable{n:Nat}{σ:Env}{a:Act}
theorem Is.eval(h:Is n σ a):a.eval=ev σ:=by
 funext x
 cases x with
 |tmp t=>exact h.get t
 |const v=>rfl
 |global g=>rfl
 |func f=>rfl
theorem Is.put(h:Is n σ a){d:Nat}(hd:Nat.blt d n=true)(v:Value):Is n (k7 σ d v) (a.put (some d) v):=by
 have hd':d<n:=by simpa[Nat.blt_eq]using hd
 refine⟨(by simp[Act.put,h.size]),fun t=> ?_,(by simp[Act.put,h.defers])⟩
 have:=h.get t
 simp only[Act.put,k7,wc]at*
 rw[Dk]
 by_cases ht:d=t
 .subst ht;simp[h.size,hd']
 rw[aP ht,aP (fun e=>ht e.symm)];exact this
theorem Is.look(h:Is n σ a){t:Nat}{v:Value}(hv:σ t=v)(hne:v≠undef):a.tmps[t]?=some v:=by
 have:=h.get t
 rw[hv,wc]at this
 cases hx:a.tmps[t]? with
 |none=>simp[hx]at this;exact absurd this.symm hne
 |some u=>simp[hx]at this;rw[this]
end basics
abbrev K:=Env->World->Prop
def post(n:Nat)(k:K)(xs:List (Nat×K))(r:K):Exit->Act->World->Prop
 | .normal,a,w=>∃σ,Is n σ a/\k σ w
 | .exit id,a,w=>∃σ,Is n σ a/\∃q,xs.lookup id=some q/\q σ w
 | .ret,a,w=>∃σ,Is n σ a/\r σ w
 |_,_,_=>False
def CW(P:Program)(n:Nat)(c:Code)(k:K)(xs:List (Nat×K))(r:K)(σ:Env)(w:World):Prop:=
 ∀a,Is n σ a->c.wp P (post n k xs r) a w
def qX(n:Nat)(k:K):Exit->Act->World->Prop
 | .normal,a,w=>∃σ,Is n σ a/\k σ w
 |_,_,_=>False
def RL(P:Program)(n:Nat)(ops:Array Oper)(k:K)(l:List Oper)(σ:Env)(w:World):Prop:=
 ∀a,Is n σ a->wpList P ops (qX n k) l a w
section code
variable{P:Program}{n:Nat}{k:K}{xs:List (Nat×K)}{r:K}{σ:Env}{w:World}
theorem CW.mono{c:Code}{k':K}(h:CW P n c k xs r σ w)(hk:∀σ w,k σ w->k' σ w):CW P n c k' xs r σ w:=by
 intro a ha
 refine yF (fun e a' w' hq=> ?_) (h a ha)
 cases e with
 |normal=>obtain⟨σ',h1,h2⟩:=hq;exact⟨σ',h1,hk _ _ h2⟩
 |exit id=>exact hq
 |ret=>exact hq
 |goto l=>exact hq
 |panic c=>exact hq
 |outgrown=>exact hq
theorem ak(h:k σ w):CW P n .skip k xs r σ w:=fun a ha=>wp_skip ⟨σ,ha,h⟩
theorem aj(h:r σ w):CW P n .ret k xs r σ w:=fun a ha=>wp_ret ⟨σ,ha,h⟩
theorem a7{id:Nat}{q:K}(hq:xs.lookup id=some q)(h:q σ w):CW P n (.exit id) k xs r σ w:=
 fun a ha=>wp_exit ⟨σ,ha,q,hq,h⟩
theorem ah{x y:Code}(h:CW P n x (fun σ w=>CW P n y k xs r σ w) xs r σ w):CW P n (.seq x y) k xs r σ w:=by
 intro a ha
 refine wp_seq (yF (fun e a' w' hq=> ?_) (h a ha))
 cases e with
 |normal=>obtain⟨σ',h1,h2⟩:=hq;exact h2 _ h1
 |exit id=>exact hq
 |ret=>exact hq
 |goto l=>exact hq
 |panic c=>exact hq
 |outgrown=>exact hq
theorem aeO{x y:Code}(m:K)(h:CW P n x m xs r σ w)(h':∀σ w,m σ w->CW P n y k xs r σ w):CW P n (.seq x y) k xs r σ w:=
 ah (h.mono h')
theorem bY{c:Operand}{x y:Code}{t:Bool}(hc:ev σ c= .bool t)(ht:t=true->CW P n x k xs r σ w)
  (hf:t=false->CW P n y k xs r σ w):CW P n (.cond c x y) k xs r σ w:=
 fun a ha=>wp_cond_split Xp (fun h=>ht h a ha) (fun h=>hf h a ha)
theorem cB{c:Operand}{x y:Code}(hc:ev σ c= .bool true)(ht:CW P n x k xs r σ w):CW P n (.cond c x y) k xs r σ w:=
 fun a ha=>wp_cond_true Xp (ht a ha)
theorem dh{c:Operand}{x y:Code}(hc:ev σ c= .bool false)(hf:CW P n y k xs r σ w):CW P n (.cond c x y) k xs r σ w:=
 fun a ha=>wp_cond_false Xp (hf a ha)
theorem aF{c:Operand}{x y:Code}{p:Prop}[inst:Decidable p](hc:ev σ c= .bool (decide p))(ht:p->CW P n x k xs r σ w)
 (hf:¬p->CW P n y k xs r σ w):CW P n (.cond c x y) k xs r σ w:=by grind[bY]
theorem aC{id:Nat}{c:Code}(h:CW P n c k ((id,k)::xs) r σ w):CW P n (.block id c) k xs r σ w:=by
 intro a ha
 refine wp_block (yF (fun e a' w' hq=> ?_) (h a ha))
 cases e with
 |normal=>exact hq
 |exit id'=>
  obtain⟨σ',h1,q,h2,h3⟩:=hq
  simp only[Exit.inBlock]
  by_cases hid:id'=id
  .rw[aQ hid];subst hid
   simp only[List.lookup_cons,beq_self_eq_true,WH]at h2
   subst h2;exact⟨σ',h1,h3⟩
  rw[aP hid]
  have hb:(id'==id)=false:=by simpa using hid
  simp only[List.lookup_cons,hb]at h2
  exact⟨σ',h1,q,h2,h3⟩
 |ret=>exact hq
 |goto l=>exact hq
 |panic c=>exact hq
 |outgrown=>exact hq
theorem bj{c:Code}{G:Type}(inv:G->K)(mu:G->Nat)(g0:G)(h0:inv g0 σ w)
  (round:∀g σ w,inv g σ w->CW P n c (fun σ' w'=>∃g',mu g'<mu g/\inv g' σ' w') xs r σ w):CW P n (.loop c) k xs r σ w:=by
 intro a ha b kk cs
 have key:∀m g σ w a,mu g=m->inv g σ w->Is n σ a->
   ∃e a' w',post n k xs r e a' w'/\Arrives P (lone (b.at a (.code c:: .inLoop c::kk)) cs w) b kk cs e a' w':=by
  intro m
  induction m using Nat.strongRecOn with
  |_ m ih=>
   intro g σ w a hm hi ha
   obtain⟨e,a',w',hq,aeP⟩:=round g σ w hi a ha b (.inLoop c::kk) cs
   cases e with
   |normal=>
    obtain⟨σ',h1,g',hlt,hi'⟩:=hq
    obtain⟨e2,a2,w2,hq2,avM⟩:=ih (mu g') (hm▸hlt) g' σ' w' a' O hi' h1
    exact⟨e2,a2,w2,hq2,.of_steps (Steps.trans aeP (.one step_inLoop)) avM⟩
   |exit id=>exact⟨.exit id,a',w',hq,.pass (x:= .inLoop c) O (fun _ _=> .inl az) aeP⟩
   |ret=>exact⟨.ret,a',w',hq,.pass (x:= .inLoop c) O (fun _ _=> .inl az) aeP⟩
   |goto l=>exact hq.elim
   |panic c=>exact hq.elim
   |outgrown=>exact hq.elim
 obtain⟨e,a',w',hq,aeP⟩:=key _ g0 σ w a O h0 ha
 exact⟨e,a',w',hq,.of_steps (.one step_loop) aeP⟩
theorem ax{id:Nat}{l:List Oper}(h:RL P n l.toArray k l σ w):CW P n (.region id l.toArray false) k xs r σ w:=by
 intro a ha
 refine yF (fun e a' w' hq=> ?_) (wp_region_lit (id:=id) (h a ha))
 cases e with
 |normal=>exact hq
 |exit id=>exact hq.elim
 |ret=>exact hq.elim
 |goto l=>exact hq.elim
 |panic c=>exact hq.elim
 |outgrown=>exact hq.elim
end code
def iA(q:Value->World->Prop):Ending->World->Prop
 | .returned v,w=>q v w
 |_,_=>False
theorem iA.mono{q q':Value->World->Prop}(h:∀v w,q v w->q' v w){e:Ending}{w:World}(hr:iA q e w):iA q' e w:=by
 cases e with
 |returned v=>exact h v w hr
 |panicked c=>exact hr
 |outgrown=>exact hr
theorem iA.calls{P:Program}{f:FuncId}{args:Array Value}{w:World}{q q':Value->World->Prop}(hc:Calls P f args w (iA q))(h:∀v w,q v w->q' v w):Calls P f args w (iA q'):=hc.mono fun _ _ hr=>hr.mono h
def entry(args:Array Value):Env:=fun i=>args.getD i undef
theorem aeQ(args:Array Value)(n:Nat)(h:args.size<=n):Is n (entry args) {tmps:=args++Array.replicate (n-args.size) undef,defers:=[]}:=by
 refine⟨by simp;omega,fun t=> ?_,rfl⟩
 simp only[entry,wc,Array.getElem?_append,aei]
 split
 .rfl
 rename_i ht
 rw[Qh J]
 split<;>rfl
section entry
variable{P:Program}{n:Nat}{w:World}
def Out(P:Program)(fn:Func)(q:Value->World->Prop):K:=fun σ w=>
 ∀n a,Is n σ a->∃v,(results fn a.tmps).run P w= .ok v w/\q v w
theorem enter{f:FuncId}{fn:Func}{c:Code}{args:Array Value}{q:Value->World->Prop}(hf:P.funcs[f]?=some fn)(hb:fn.body=some c)
  (hn:fn.ntmps=n) (ha:Nat.ble args.size n=true) (h:CW P n c (Out P fn q) [] (Out P fn q) (entry args) w):Calls P f args w (iA q):=by
 refine calls_of_wp hf hb ?_
 rw[hn]
 refine yF (fun e a' w' hq=> ?_) (h _ (aeQ args n (by simpa using ha)))
 cases e with
 |normal=>obtain⟨σ,h1,h2⟩:=hq;obtain⟨v,h3,h4⟩:=h2 _ _ h1;exact⟨h1.defers,v,h3,h4⟩
 |ret=>obtain⟨σ,h1,h2⟩:=hq;obtain⟨v,h3,h4⟩:=h2 _ _ h1;exact⟨h1.defers,v,h3,h4⟩
 |exit id=>obtain⟨σ,h1,q,h2,h3⟩:=hq;simp at h2
 |goto l=>exact hq.elim
 |panic c=>exact hq.elim
 |outgrown=>exact hq.elim
variable{fn:Func}{q:Value->World->Prop}{σ:Env}
theorem nW(h:fn.results=#[])(hq:q (.tuple #[]) w):Out P fn q σ w:=fun _ _ _=>⟨_,results_none h _ _ _,hq⟩
theorem iG{t:Nat}{v:Value}(h:fn.results=#[.tmp t])(hv:σ t=v)(hq:q v w):Out P fn q σ w:=
 fun _ a ha=>⟨v,by rw[results_tmp h,ha.get,hv],hq⟩
theorem avN{t u:Nat}{x y:Value}(h:fn.results=#[.tmp t,.tmp u])(hx:σ t=x)(hy:σ u=y)(hq:q (.tuple #[x,y]) w):Out P fn q σ w:=
 fun _ a ha=>⟨_,by rw[results_tmp2 h,ha.get,ha.get,hx,hy],hq⟩
end entry
section ops
variable{P:Program}{n:Nat}{ops:Array Oper}{k:K}{rest:List Oper}{σ:Env}{w w':World}{op:Op}{ty:TypeId}{pos:String}{bJ:Array Edge}{d:Nat}
theorem aa(h:k σ w):RL P n ops k [] σ w:=fun a ha=>wpList_nil ⟨σ,ha,h⟩
theorem ox{v:Value}(hd:Nat.blt d n=true)(hr:(execOp (ev σ) ⟨some d,op,ty,pos,bJ,none⟩).run P w= .ok (.value v) w')
  (hk:RL P n ops k rest (k7 σ d v) w'):RL P n ops k (⟨some d,op,ty,pos,bJ,none⟩::rest) σ w:=by
 intro a ha
 refine wpList_plain O fun K hK=> ?_
 rw[Oper.wp,ha.eval,hr]
 exact hK _ _ (hk _ (ha.put hd v))
theorem KL(hr:(execOp (ev σ) ⟨none,op,ty,pos,bJ,none⟩).run P w= .ok .skip w')
  (hk:RL P n ops k rest σ w'):RL P n ops k (⟨none,op,ty,pos,bJ,none⟩::rest) σ w:=by
 intro a ha
 refine wpList_plain O fun K hK=> ?_
 rw[Oper.wp,ha.eval,hr]
 exact hK _ _ (hk _ ha)
theorem GU{f:FuncId}{args:Array Value}{q:Value->World->Prop}(hd:Nat.blt d n=true)
  (hr:(execOp (ev σ) ⟨some d,op,ty,pos,bJ,none⟩).run P w= .ok (.enter f args) w) (hc:Calls P f args w (iA q))
  (hk:∀v w',q v w'->RL P n ops k rest (k7 σ d v) w'):RL P n ops k (⟨some d,op,ty,pos,bJ,none⟩::rest) σ w:=by
 intro a ha
 refine wpList_plain O fun K hK=> ?_
 rw[Oper.wp,ha.eval,hr]
 refine hc.mono fun e w' hq=> ?_
 cases e with
 |returned v=>exact hK _ _ (hk _ _ hq _ (ha.put hd v))
 |panicked c=>exact hq.elim
 |outgrown=>exact hq.elim
theorem GV{a:Act}(ha:Is n σ a){j dj:Nat}{b want:Bool}(hj:(ops[j]?).bind (·.dst)=some dj)(hb:σ dj= .bool b)(dst:Option Tmp):
  Region.wanted ⟨dst,op,ty,pos,bJ,some (j,want)⟩ (yielded ops a.tmps)=(b==want):=by
 have h1:a.tmps[dj]?=some (.bool b):=ha.look hb yJ
 simp only[Region.wanted,yielded,hj,Qs,h1]
 cases b<;>cases want<;>rfl
theorem E4{a:Act}(ha:Is n σ a){j dj:Nat}{want:Bool}(hj:(ops[j]?).bind (·.dst)=some dj)(hu:σ dj=undef)(dst:Option Tmp):
  Region.wanted ⟨dst,op,ty,pos,bJ,some (j,want)⟩ (yielded ops a.tmps)=false:=by
 have h1:a.tmps[dj]?=some undef\/a.tmps[dj]?=none:=by
  have:=ha.get dj
  rw[hu,wc]at this
  cases hx:a.tmps[dj]? with
  |none=>exact .inr O
  |some u=>simp[hx]at this;exact .inl (by rw[this])
 rcases h1 with h1|h1<;>simp only[Region.wanted,yielded,hj,Qs,h1,undef]<;>rfl
theorem gX{j dj:Nat}{want:Bool}(hd:Nat.blt d n=true)(hj:(ops[j]?).bind (·.dst)=some dj)(hu:σ dj=undef)
  (h:RL P n ops k rest (k7 σ d undef) w):RL P n ops k (⟨some d,op,ty,pos,bJ,some (j,want)⟩::rest) σ w:=by
 intro a ha
 simp only[wpList,E4 ha hj hu]
 exact h _ (ha.put hd undef)
end ops
section runs
variable{P:Program}{σ:Env}{w:World}{dst:Option Tmp}{ty:TypeId}{pos:String}{bJ:Array Edge}{g:Option (Nat×Bool)}
theorem run_move{x:Operand}{v:Value}(hx:ev σ x=v):(execOp (ev σ) ⟨dst,.move x,ty,pos,bJ,g⟩).run P w= .ok (.value v) w:=by
 subst hx;rfl
theorem run_assign{x:Operand}{v:Value}(hx:ev σ x=v):(execOp (ev σ) ⟨dst,.assign x,ty,pos,bJ,g⟩).run P w= .ok (.value v) w:=by
 subst hx;rfl
theorem gI{c a b:Operand}{v:Value}(hc:ev σ c= .bool true)(ha:ev σ a=v):
  (execOp (ev σ) ⟨dst,.pick c a b,ty,pos,bJ,g⟩).run P w= .ok (.value v) w:=by
 subst ha;simp[execOp,hc,asBool]
theorem dX{c a b:Operand}{v:Value}(hc:ev σ c= .bool false)(hb:ev σ b=v):
  (execOp (ev σ) ⟨dst,.pick c a b,ty,pos,bJ,g⟩).run P w= .ok (.value v) w:=by
 subst hb;simp[execOp,hc,asBool]
theorem bA{t:Operand}{i:Nat}{vs:Array Value}{v:Value}(ht:ev σ t= .tuple vs)(hv:vs[i]?=some v):
  (execOp (ev σ) ⟨dst,.extract t i,ty,pos,bJ,g⟩).run P w= .ok (.value v) w:=by
 simp[execOp,ht,Instr.extract,hv]
section ints
variable{t u:TypeId}{x y:Operand}{k:IntKind}{a b:Int}
theorem Cy{op:BinOp}{v:Value}(hx:ev σ x= .int k a)(hy:ev σ y= .int k b)(hop:(match op with| .eql=>Value.bool (decide (a=b))| .neq=> .bool (decide (a≠b))| .lss=> .bool (decide (a<b))| .leq=> .bool (decide (a<=b))| .gtr=> .bool (decide (b<a))| .geq=> .bool (decide (b<=a))|_=>undef)=v)(hu:v≠undef):
  (execOp (ev σ) ⟨dst,.binOp op t x y u,ty,pos,bJ,g⟩).run P w= .ok (.value v) w:=by
 subst hop
 cases op<;>simp_all [execOp,eqGuard,binOp,Op.intCmp,undef]
 .rw[gG];simp
 rw[gG];simp
theorem bX(hx:ev σ x= .int k a)(hy:ev σ y= .int k b):(execOp (ev σ) ⟨dst,.binOp .eql t x y u,ty,pos,bJ,g⟩).run P w= .ok (.value (.bool (decide (a=b)))) w:=Cy hx hy O yJ
theorem jB(hx:ev σ x= .int k a)(hy:ev σ y= .int k b):(execOp (ev σ) ⟨dst,.binOp .neq t x y u,ty,pos,bJ,g⟩).run P w= .ok (.value (.bool (decide (a≠b)))) w:=Cy hx hy O yJ
theorem aL(hx:ev σ x= .int k a)(hy:ev σ y= .int k b):(execOp (ev σ) ⟨dst,.binOp .lss t x y u,ty,pos,bJ,g⟩).run P w= .ok (.value (.bool (decide (a<b)))) w:=Cy hx hy O yJ
theorem yM(hx:ev σ x= .int k a)(hy:ev σ y= .int k b):(execOp (ev σ) ⟨dst,.binOp .leq t x y u,ty,pos,bJ,g⟩).run P w= .ok (.value (.bool (decide (a<=b)))) w:=Cy hx hy O yJ
theorem dz(hx:ev σ x= .int k a)(hy:ev σ y= .int k b):(execOp (ev σ) ⟨dst,.binOp .gtr t x y u,ty,pos,bJ,g⟩).run P w= .ok (.value (.bool (decide (b<a)))) w:=Cy hx hy O yJ
theorem dA(hx:ev σ x= .int k a)(hy:ev σ y= .int k b):(execOp (ev σ) ⟨dst,.binOp .geq t x y u,ty,pos,bJ,g⟩).run P w= .ok (.value (.bool (decide (b<=a)))) w:=Cy hx hy O yJ
theorem Cz{n:Int}(h: -9223372036854775808<=n/\n<=9223372036854775807):IntKind.i64.wrap n=n:=IntWalk.i64_in n h
theorem ay(hx:ev σ x= .int .i64 a)(hy:ev σ y= .int .i64 b)(h: -9223372036854775808<=a+b/\a+b<=9223372036854775807):
  (execOp (ev σ) ⟨dst,.binOp .add t x y u,ty,pos,bJ,g⟩).run P w= .ok (.value (.int .i64 (a+b))) w:=by
 simp[execOp,hx,hy,eqGuard,binOp,Op.intArith,Cz h]
theorem fG(hx:ev σ x= .int .i64 a)(hy:ev σ y= .int .i64 b)(h: -9223372036854775808<=a-b/\a-b<=9223372036854775807):
  (execOp (ev σ) ⟨dst,.binOp .sub t x y u,ty,pos,bJ,g⟩).run P w= .ok (.value (.int .i64 (a-b))) w:=by
 simp[execOp,hx,hy,eqGuard,binOp,Op.intArith,Cz h]
theorem CA(hx:ev σ x= .int .i64 a)(hy:ev σ y= .int .i64 b)(h: -9223372036854775808<=a*b/\a*b<=9223372036854775807):
  (execOp (ev σ) ⟨dst,.binOp .mul t x y u,ty,pos,bJ,g⟩).run P w= .ok (.value (.int .i64 (a*b))) w:=by
 simp[execOp,hx,hy,eqGuard,binOp,Op.intArith,Cz h]
theorem ak3(hx:ev σ x= .int .i64 a)(hy:ev σ y= .int .i64 b)(ha:0<=a/\a<=9223372036854775807)(hb:0<b):
  (execOp (ev σ) ⟨dst,.binOp .quo t x y u,ty,pos,bJ,g⟩).run P w= .ok (.value (.int .i64 (a/b))) w:=by
 have h1:a.tdiv b=a/b:=aee ha.1
 have h2:a/b<=a:=Int.ediv_le_self b ha.1
 have h3:0<=a/b:=Int.ediv_nonneg ha.1 J
 simp[execOp,hx,hy,eqGuard,binOp,Op.intDiv,h1,Cz (n:=a/b) J,show b≠0 by omega]
end ints
section words
variable{t u:TypeId}{x y:Operand}{a b:BitVec 64}
theorem KM(n:Int):IntKind.u64.wrap n=((BitVec.ofInt 64 n).toNat:Int):=by
 simp[IntKind.wrap,IntKind.bits,IntKind.signed,Qn]
 omega
theorem ofU(a:BitVec 64):BitVec.ofInt 64 (a.toNat:Int)=a:=az
theorem Q1(a:BitVec 64):IntKind.u64.wrap (a.toNat:Int)=(a.toNat:Int):=by rw[KM,ofU]
theorem CB{op:BinOp}{k:IntKind}{m n:Int}{v:Value}(hx:ev σ x= .int k m)(hy:ev σ y= .int k n)(h:(binOp op t (.int k m) (.int k n)).run P w= .ok v w):
  (execOp (ev σ) ⟨dst,.binOp op t x y u,ty,pos,bJ,g⟩).run P w= .ok (.value v) w:=by
 have he:(eqGuard op t x y (.int k m) (.int k n))=pure ():=by cases op<;>rfl
 simp[execOp,hx,hy,he,h]
theorem js(hx:ev σ x=U a)(hy:ev σ y=U b):(execOp (ev σ) ⟨dst,.binOp .eql t x y u,ty,pos,bJ,g⟩).run P w= .ok (.value (.bool (decide (a=b)))) w:=by
 rw[bX hx hy];congr 3;rw[gG];simp[<-WQ];omega
theorem uB(hx:ev σ x=U a)(hy:ev σ y=U b):(execOp (ev σ) ⟨dst,.binOp .neq t x y u,ty,pos,bJ,g⟩).run P w= .ok (.value (.bool (decide (a≠b)))) w:=by
 rw[jB hx hy];congr 3;rw[gG];simp[<-WQ];omega
theorem aeR(hx:ev σ x=U a)(hy:ev σ y=U b):(execOp (ev σ) ⟨dst,.binOp .add t x y u,ty,pos,bJ,g⟩).run P w= .ok (.value (U (a+b))) w:=by
 simp[execOp,hx,hy,eqGuard,binOp,Op.intArith,KM,BitVec.ofInt_add]
theorem Tf(hx:ev σ x=U a)(hy:ev σ y=U b):(execOp (ev σ) ⟨dst,.binOp .sub t x y u,ty,pos,bJ,g⟩).run P w= .ok (.value (U (a-b))) w:=by
 have h:((BitVec.ofInt 64 ((a.toNat:Int)-b.toNat)).toNat:Int)=((a-b).toNat:Int):=by
  rw[Qn,Qt];have:=a.isLt;have:=b.isLt;omega
 refine CB hx hy ?_
 simp only[binOp,Op.intArith,KM,h];rfl
theorem KO(hx:ev σ x=U a)(hy:ev σ y=U b):(execOp (ev σ) ⟨dst,.binOp .mul t x y u,ty,pos,bJ,g⟩).run P w= .ok (.value (U (a*b))) w:=by
 simp[execOp,hx,hy,eqGuard,binOp,Op.intArith,KM,BitVec.ofInt_mul]
theorem mq(hx:ev σ x=U a)(hy:ev σ y=U b):(execOp (ev σ) ⟨dst,.binOp .and t x y u,ty,pos,bJ,g⟩).run P w= .ok (.value (U (a&&&b))) w:=by
 refine CB hx hy ?_
 simp only[binOp,Op.intBits,IntKind.bits,ofU,Q1];rfl
theorem jC(hx:ev σ x=U a)(hy:ev σ y=U b):(execOp (ev σ) ⟨dst,.binOp .or t x y u,ty,pos,bJ,g⟩).run P w= .ok (.value (U (a|||b))) w:=by
 refine CB hx hy ?_
 simp only[binOp,Op.intBits,IntKind.bits,ofU,Q1];rfl
theorem Tg(hx:ev σ x=U a)(hy:ev σ y=U b):(execOp (ev σ) ⟨dst,.binOp .andNot t x y u,ty,pos,bJ,g⟩).run P w= .ok (.value (U (a&&& ~~~b))) w:=by
 refine CB hx hy ?_
 simp only[binOp,Op.intBits,IntKind.bits,ofU,Q1];rfl
theorem KP(hx:ev σ x=U a)(hy:ev σ y=U b)(hb:b≠0):(execOp (ev σ) ⟨dst,.binOp .quo t x y u,ty,pos,bJ,g⟩).run P w= .ok (.value (U (a/b))) w:=by
 have hb':¬((b.toNat:Int)=0):=fun h=>hb (Gn uz)
 have h1:((a.toNat:Int)).tdiv (b.toNat:Int)=((a/b).toNat:Int):=by
  rw[aee J];simp
 refine CB hx hy ?_
 simp only[binOp,Op.intDiv,aP hb',h1,Q1];rfl
theorem KQ(hx:ev σ x=U a)(hy:ev σ y=U b)(hb:b≠0):(execOp (ev σ) ⟨dst,.binOp .rem t x y u,ty,pos,bJ,g⟩).run P w= .ok (.value (U (a%b))) w:=by
 have hb':¬((b.toNat:Int)=0):=fun h=>hb (Gn uz)
 have h1:((a.toNat:Int)).tmod (b.toNat:Int)=((a%b).toNat:Int):=by
  rw[Int.tmod_eq_emod_of_nonneg J];simp
 refine CB hx hy ?_
 simp only[binOp,Op.intDiv,aP hb',h1];rfl
theorem aeS(hx:ev σ x=U a):(execOp (ev σ) ⟨dst,.unOp .neg t x,ty,pos,bJ,g⟩).run P w= .ok (.value (U (-a))) w:=by
 have h:((BitVec.ofInt 64 (0-(a.toNat:Int))).toNat:Int)=((-a).toNat:Int):=by
  rw[Qn,BitVec.toNat_neg];have:=a.isLt;omega
 simp only[execOp,hx,Op.unary,Op.intArith,KM,h];rfl
theorem E5(hx:ev σ x=U a)(hy:ev σ y=U b):(execOp (ev σ) ⟨dst,.binOp .shl t x y u,ty,pos,bJ,g⟩).run P w= .ok (.value (U (a<<<b.toNat))) w:=by
 have h:IntKind.u64.wrap ((a.toNat:Int)*2^(min b.toNat 64))=((a<<<b.toNat).toNat:Int):=by
  have e1:((a.toNat:Int)*2^(min b.toNat 64))=((a.toNat*2^(min b.toNat 64):Nat):Int):=by push_cast;rfl
  rw[KM,e1,BitVec.ofInt_natCast,WA,Qi,Qu]
  by_cases hle:b.toNat<=64
  .rw[qW hle]
  rw[WR J]
  have e2:(2:Nat)^b.toNat=2^64*2^(b.toNat-64):=by rw[<-Nat.pow_add];congr 1;omega
  rw[e2,<-Nat.mul_assoc,Nat.mul_right_comm,Nat.mul_mod_left,Nat.mul_mod_left]
 have hn:¬((b.toNat:Int)<0):=J
 have he:(eqGuard .shl t x y (U a) (U b))=pure ():=rfl
 simp only[execOp,hx,hy,he,binOp,Op.shift,aP hn,dN,IntKind.bits,h];rfl
theorem E6(hx:ev σ x=U a)(hy:ev σ y=U b):(execOp (ev σ) ⟨dst,.binOp .shr t x y u,ty,pos,bJ,g⟩).run P w= .ok (.value (U (a>>>b.toNat))) w:=by
 have h:((a.toNat:Int)).fdiv (2^(min b.toNat 64))=((a>>>b.toNat).toNat:Int):=by
  have e1:((2:Int)^(min b.toNat 64))=((2^(min b.toNat 64):Nat):Int):=by push_cast;rfl
  rw[e1,Int.fdiv_eq_ediv_of_nonneg _ (Ke _),Wn,aeg]
  norm_cast
  by_cases hle:b.toNat<=64
  .rw[qW hle]
  rw[WR J]
  have:=a.isLt
  rw[Nat.div_eq_of_lt J,Nat.div_eq_of_lt]
  exact WB this (Wv J J)
 have hn:¬((b.toNat:Int)<0):=J
 have he:(eqGuard .shr t x y (U a) (U b))=pure ():=rfl
 simp only[execOp,hx,hy,he,binOp,Op.shift,aP hn,dN,IntKind.bits,h];rfl
theorem jW{s e:TypeId}{m:Int}{ki:IntKind}{des:TypeDesc}(hs:P.underlying s=some des)(he:P.underlying e=some (.int .u64))(hx:ev σ x= .int ki m):
  (execOp (ev σ) ⟨dst,.convert s e x,ty,pos,bJ,g⟩).run P w= .ok (.value (U (BitVec.ofInt 64 m))) w:=by
 have h:(convert s e (.int ki m)).run P w= .ok (.int .u64 (IntKind.u64.wrap m)) w:=by
  simp[convert,jr hs,jr he,Conv.intToInt]
 simp only[execOp,hx]
 simp[h,KM]
theorem Ef{s e:TypeId}{m:Int}{ki:IntKind}{des:TypeDesc}(hs:P.underlying s=some des)(he:P.underlying e=some (.int .i64))(hx:ev σ x= .int ki m)(h: -9223372036854775808<=m/\m<=9223372036854775807):
  (execOp (ev σ) ⟨dst,.convert s e x,ty,pos,bJ,g⟩).run P w= .ok (.value (.int .i64 m)) w:=by
 have h:(convert s e (.int ki m)).run P w= .ok (.int .i64 m) w:=by
  simp[convert,jr hs,jr he,Conv.intToInt,Cz h]
 simp only[execOp,hx]
 simp[h]
theorem Xr(a:BitVec 64):IntKind.i64.wrap (a.toNat:Int)=a.toInt:=by
 have:=a.isLt
 rw[BitVec.toInt_eq_toNat_cond]
 have h64:(2:Int)^64=18446744073709551616:=aD
 have h63:(2:Int)^(64-1)=9223372036854775808:=aD
 have e64:(2:Nat)^64=18446744073709551616:=aD
 simp only[IntKind.wrap,IntKind.bits,IntKind.signed,h64,h63,e64,lU,ep]
 by_cases h:2*a.toNat<18446744073709551616
 .rw[aQ h,aP J];omega
 rw[aP h,aQ J];omega
theorem Xs{s e:TypeId}{des:TypeDesc}(hs:P.underlying s=some des)(he:P.underlying e=some (.int .i64))(hx:ev σ x=U a):
  (execOp (ev σ) ⟨dst,.convert s e x,ty,pos,bJ,g⟩).run P w= .ok (.value (.int .i64 a.toInt)) w:=by
 have h:(convert s e (U a)).run P w= .ok (.int .i64 a.toInt) w:=by
  simp[convert,jr hs,jr he,Conv.intToInt,Xr]
 simp only[execOp,hx]
 simp[h]
end words
section avP
variable{t u:TypeId}{x y:Operand}{a b:Bool}{p:Prop}[inst:Decidable p]
theorem bO(hx:ev σ x= .bool a):(execOp (ev σ) ⟨dst,.unOp .not t x,ty,pos,bJ,g⟩).run P w= .ok (.value (.bool (!a))) w:=by
 simp[execOp,hx,Op.unary]
theorem uC(hx:ev σ x= .bool (decide p)):(execOp (ev σ) ⟨dst,.unOp .not t x,ty,pos,bJ,g⟩).run P w= .ok (.value (.bool (decide ¬p))) w:=by
 simp[execOp,hx,Op.unary]
theorem KR(d:Nat)(ht:P.underlying t=some .bool):(Op.equalIn (d+1) t (.bool a) (.bool b)).run P w= .ok (a==b) w:=by
 simp[Op.equalIn,jr ht]
theorem aeT(ht:P.underlying t=some .bool)(hx:ev σ x= .bool a)(hy:ev σ y= .bool b):(execOp (ev σ) ⟨dst,.binOp .eql t x y u,ty,pos,bJ,g⟩).run P w= .ok (.value (.bool (a==b))) w:=by
 have h:(binOp .eql t (.bool a) (.bool b)).run P w= .ok (.bool (a==b)) w:=by
  simp only[binOp];simp[Op.equal,Op.maxDepth,KR 9999 ht]
 have he:(eqGuard .eql t x y (.bool a) (.bool b))=pure ():=rfl
 simp only[execOp,hx,hy,he];simp[h]
theorem KS(ht:P.underlying t=some .bool)(hx:ev σ x= .bool a)(hy:ev σ y= .bool b):(execOp (ev σ) ⟨dst,.binOp .neq t x y u,ty,pos,bJ,g⟩).run P w= .ok (.value (.bool (!(a==b)))) w:=by
 have h:(binOp .neq t (.bool a) (.bool b)).run P w= .ok (.bool (!(a==b))) w:=by
  simp only[binOp];simp[Op.equal,Op.maxDepth,KR 9999 ht]
 have he:(eqGuard .neq t x y (.bool a) (.bool b))=pure ():=rfl
 simp only[execOp,hx,hy,he];simp[h]
end avP
section mem
variable{t u:TypeId}{x y:Operand}{v:Value}
theorem Jr{e:TypeId}(hx:ev σ x=v):(execOp (ev σ) ⟨dst,.box e x,ty,pos,bJ,g⟩).run P w= .ok (.value (.pointer (some ⟨w.heap.size,0,none⟩))) (w.alloc (.cells v.cells e)):=by
 subst hx;rfl
theorem bf{e:TypeId}{z:Value}(hz:∀w,(zeroValue e).run P w= .ok z w):(execOp (ev σ) ⟨dst,.alloc e,ty,pos,bJ,g⟩).run P w= .ok (.value (.pointer (some ⟨w.heap.size,0,none⟩))) (w.alloc (.cells z.cells e)):=by
 simp[execOp,Instr.alloc,hz,newVar,newRow,newObj,Sem.run]
theorem N0{s i n off b o:Nat}{fs:Array Field}{f:Field}(hu:P.underlying s=some (.struct fs))(hf:fs[i]?=some f)(ho:f.offset=off)
  (hs:∀w,(sizeOf f.type).run P w= .ok n w) (hn:n≠0) (hx:ev σ x= .pointer (some ⟨b,o,none⟩)):
  (execOp (ev σ) ⟨dst,.fieldAddr s x i,ty,pos,bJ,g⟩).run P w= .ok (.value (.pointer (some ⟨b,o+off,none⟩))) w:=by
 subst ho
 simp[execOp,Instr.fieldAt,jr hu,hf,hx,Instr.sureAddr,fieldPlace,hs,hn,Gw]
theorem bC{len n b o:Nat}{e:TypeId}{k:IntKind}{i:Int}(hu:P.underlying t=some (.array len e))(hs:∀w,(sizeOf e).run P w= .ok n w)
  (hx:ev σ x= .pointer (some ⟨b,o,none⟩)) (hy:ev σ y= .int k i) (hi:0<=i/\i<len):
  (execOp (ev σ) ⟨dst,.indexAddr t x y,ty,pos,bJ,g⟩).run P w= .ok (.value (.pointer (some ⟨b,o+i.toNat*n,none⟩))) w:=by
 simp[execOp,Instr.indexAt,jr hu,hx,hy,asIntOf,Instr.sureAddr,hi,hs,Gw]
theorem af{a:Addr}(hx:ev σ x= .pointer (some a)):(execOp (ev σ) ⟨dst,.nilCheck x,ty,pos,bJ,g⟩).run P w= .ok (.value (.pointer (some a))) w:=by
 simp[execOp,hx]
theorem au{d:TypeDesc}{b o:Nat}(hu:P.underlying t=some d)(hd:d.isRow=false)(hx:ev σ x= .pointer (some ⟨b,o,none⟩))(hc:w.cell? ⟨b,o,none⟩=some v):
  (execOp (ev σ) ⟨dst,.load t x,ty,pos,bJ,g⟩).run P w= .ok (.value v) w:=by
 have ha:(isAgg t).run P w= .ok false w:=by
  unfold isAgg
  rw[o9,jr hu w]
  cases d<;>simp_all
 simp[execOp,hx,Instr.loadAt,Instr.sureAddr,loadVar,ha,load,Sem.run,hc]
theorem cN{d:TypeDesc}{b o:Nat}{cs:List Value}(hu:P.underlying t=some d)(hd:d.isRow=true)(hi:(P.info? t).map (·.size)=some cs.length)
  (hx:ev σ x= .pointer (some ⟨b,o,none⟩)) (hc:w.rangeAt b o cs):
  (execOp (ev σ) ⟨dst,.load t x,ty,pos,bJ,g⟩).run P w= .ok (.value (.agg cs.toArray)) w:=by
 have:=run_loadAt_mid (P:=P) w b o t cs d hc hu hd hi
 simp only[execOp,hx,o9,this];rfl
theorem yN{b:Nat}{c:Array Value}{e:TypeId}{off:Nat}(hg:w.heap[b]?=some (.cells c e (0,0)))(vs:List Value)(hl:off+vs.length<=c.size)(h1:∀u∈vs,u.oneCell'=true):
  (storeCells ⟨b,off,none⟩ vs).run P w= .ok () (w.setRow b (c.toList.take off++vs++c.toList.drop (off+vs.length)).toArray):=by
 have:=WI P b off e vs 0 c w hg (by simpa using hl) h1
 simpa using this
theorem bL{b off:Nat}{c:Array Value}{e:TypeId}(hi:(P.info? t).map (·.size)=some 1)(hx:ev σ x= .pointer (some ⟨b,off,none⟩))(hy:ev σ y=v)(hv:v.cells=#[v])(h1:v.oneCell'=true)
  (hg:w.heap[b]?=some (.cells c e (0,0))) (ho:off<c.size):
  (execOp (ev σ) ⟨dst,.store t x y,ty,pos,bJ,g⟩).run P w= .ok .skip (w.setRow b (c.setIfInBounds off v)):=by
 have hs:=yN (P:=P) (off:=off) hg [v] iF Ee
 have e1:(c.toList.take off++[v]++c.toList.drop (off+1)).toArray=c.setIfInBounds off v:=by
  apply QJ
  simp[Wj,ho]
 have hz:(sizeOf t).run P w= .ok 1 w:=by
  cases hq:P.info? t with
  |none=>simp[hq]at hi
  |some i=>simp[hq]at hi;simp[sizeOf,typeInfo,hq,hi]
 simp only[gk,e1]at hs
 simp[execOp,hx,hy,Instr.storeAt,Instr.sureAddr,storeVar,hv,hz,hs]
theorem eC{b:Nat}{c c':Array Value}{e:TypeId}(hi:(P.info? t).map (·.size)=some c'.size)(hx:ev σ x= .pointer (some ⟨b,0,none⟩))(hy:ev σ y= .agg c')(h1:∀u∈c',u.oneCell'=true)
  (hg:w.heap[b]?=some (.cells c e (0,0))) (ho:c'.size=c.size):
  (execOp (ev σ) ⟨dst,.store t x y,ty,pos,bJ,g⟩).run P w= .ok .skip (w.setRow b c'):=by
 have hs:=yN (P:=P) (off:=0) hg c'.toList (by simp[ho]) Ee
 have e1:(c.toList.take 0++c'.toList++c.toList.drop (0+c'.toList.length)).toArray=c':=by
  apply QJ
  simp[ho]
 have hz:(sizeOf t).run P w= .ok c'.size w:=by
  cases hq:P.info? t with
  |none=>simp[hq]at hi
  |some i=>simp[hq]at hi;simp[sizeOf,typeInfo,hq,hi]
 rw[e1]at hs
 simp[execOp,hx,hy,Instr.storeAt,Instr.sureAddr,storeVar,Value.cells,hz,hs]
theorem tS{fn:Fn}{cs:List Operand}{vs:List Value}(h:cs.map (ev σ)=vs):(execOp (ev σ) ⟨dst,.makeFunc fn #[] cs.toArray,ty,pos,bJ,g⟩).run P w= .ok (.value (.func fn #[] vs.toArray)) w:=by
 subst h;simp[execOp,Instr.makeFunc]
theorem xL{f:FuncId}{Im:List Operand}{ats:Array TypeId}{vs:List Value}(hf:∀args w,(callFunc f args).run P w= .ok (.enter f args) w)(h:Im.map (ev σ)=vs):
  (execOp (ev σ) ⟨dst,.call {callee:= .value (.func f),args:=Im.toArray,argTypes:=ats},ty,pos,bJ,g⟩).run P w= .ok (.enter f vs.toArray) w:=by
 subst h
 simp[execOp,resolve,ev,Deferred.ofValue,invoke,hf]
theorem OB{x:Operand}{f:FuncId}{cap:Array Value}{Im:List Operand}{ats:Array TypeId}{vs:List Value}(hf:∀args w,(callFunc f args).run P w= .ok (.enter f args) w)
  (hx:ev σ x= .func (.func f) #[] cap) (h:Im.map (ev σ)=vs):
  (execOp (ev σ) ⟨dst,.call {callee:= .value x,args:=Im.toArray,argTypes:=ats},ty,pos,bJ,g⟩).run P w= .ok (.enter f (vs.toArray++cap)) w:=by
 subst h
 simp[execOp,resolve,hx,Deferred.ofValue,invoke,hf]
theorem aeU{e:TypeId}{a:Option Addr}{n c:Nat}{ats:Array TypeId}(ht:ats[0]?=some t)(hu:P.underlying t=some (.slice e))(hx:ev σ x=v)(hv:v= .slice a n c):
  (execOp (ev σ) ⟨dst,.call {callee:= .builtin .len,args:=#[x],argTypes:=ats},ty,pos,bJ,g⟩).run P w= .ok (.value (I n)) w:=by
 subst hv
 simp[execOp,resolve,invoke,builtin,Builtin.len_,ht,hx,jr hu,goInt]
theorem Br{a b:Int}{ats:Array TypeId}(hx:ev σ x= .int .i64 a)(hy:ev σ y= .int .i64 b):
  (execOp (ev σ) ⟨dst,.call {callee:= .builtin .max,args:=#[x,y],argTypes:=ats},ty,pos,bJ,g⟩).run P w= .ok (.value (.int .i64 (max a b))) w:=by
 have h:(if b>a then b else a)=max a b:=J
 simp[execOp,resolve,invoke,builtin,Builtin.max_,Builtin.max2,hx,hy,h]
theorem qk{a b:Int}{ats:Array TypeId}(hx:ev σ x= .int .i64 a)(hy:ev σ y= .int .i64 b):
  (execOp (ev σ) ⟨dst,.call {callee:= .builtin .min,args:=#[x,y],argTypes:=ats},ty,pos,bJ,g⟩).run P w= .ok (.value (.int .i64 (min a b))) w:=by
 have h:(if b<a then b else a)=min a b:=J
 simp[execOp,resolve,invoke,builtin,Builtin.min_,Builtin.min2,hx,hy,h]
theorem kR{s:ByteArray}{ats:Array TypeId}(ht:ats[0]?=some t)(hu:P.underlying t=some .string)(hx:ev σ x= .string s):
  (execOp (ev σ) ⟨dst,.call {callee:= .builtin .len,args:=#[x],argTypes:=ats},ty,pos,bJ,g⟩).run P w= .ok (.value (I s.size)) w:=by
 simp[execOp,resolve,invoke,builtin,Builtin.len_,ht,hx,jr hu,goInt]
theorem run_build{ps:List (Nat×Operand)}{vs:List (Nat×Value)}{cells:Array Value}(h:ps.map (fun p=>(p.1,ev σ p.2))=vs)(hb:P.built t vs=some cells):
  (execOp (ev σ) ⟨dst,.build t ps.toArray,ty,pos,bJ,g⟩).run P w= .ok (.value (.agg cells)) w:=by
 subst h
 have:=Go.run_build (P:=P) w t ((ps.map (fun p=>(p.1,ev σ p.2))).toArray) cells hb
 simp[execOp,this]
theorem ak5{e:TypeId}{len:Nat}{ps:List (Nat×Operand)}{vs:List (Nat×Value)}{cells:Array Value}{ie:TypeInfo}{z:Value}
  (hu:P.underlying t=some (.slice e)) (hie:P.info? e=some ie) (hz:ie.zero=some z) (hsmall:¬len*ie.size>2^24) (hpos:¬len*ie.size=0)
  (h:ps.map (fun p=>(p.1,ev σ p.2))=vs) (hc:Instr.fill (fun i=>some (i*ie.size,ie.size)) ((Array.range (len*ie.size)).map (z.cells[· %z.cells.size]!)) vs=some cells):
  (execOp (ev σ) ⟨dst,.buildSlice t len ps.toArray,ty,pos,bJ,g⟩).run P w= .ok (.value (.slice (some ⟨w.heap.size,0,none⟩) len len)) (w.alloc (.cells cells e)):=by
 subst h
 have:=Go.run_buildSlice (P:=P) w t e len ((ps.map (fun p=>(p.1,ev σ p.2))).toArray) cells ie z hu hie hz hsmall hpos hc
 simp[execOp,this]
theorem Th(off:Nat):∀(cs:List Value) (j:Nat) (cur:List Value),off+j+cs.length<=cur.length->
  (cs.zipIdx j).foldl (fun(a:Array Value) (p:Value×Nat)=>a.setIfInBounds (off+p.2) p.1) cur.toArray=(cur.take (off+j)++cs++cur.drop (off+j+cs.length)).toArray
 |[],j,cur,h=>by simp
 |c::cs,j,cur,h=>by
  simp only[eO]at h
  simp only[List.zipIdx_cons,r5,iZ]
  rw[Th off cs (j+1) (cur.set (off+j) c) iF]
  congr 1
  have h1:(cur.set (off+j) c).take (off+(j+1))=cur.take (off+j)++[c]:=by
   apply sY
   intro i
   simp only[uo,uq,List.getElem?_append,eo,show min (off+j) cur.length=off+j by omega]
   by_cases h1:i<off+j
   .rw[aQ J,aP J,aQ h1,aQ h1]
   by_cases h2:i=off+j
   .subst h2;rw[aQ (show off+j<off+(j+1)by omega),aQ O,aQ J,aP (Nat.lt_irrefl _)];simp
   rw[aP J,aP h1,mX iF]
  have h2:(cur.set (off+j) c).drop (off+(j+1)+cs.length)=cur.drop (off+j+(c::cs).length):=by
   rw[List.drop_set_of_lt J];congr 1;simp;omega
  rw[h1,h2];simp
theorem Ti(sz:Nat):∀(vs:List Value) (k:Nat) (cur:List Value),cur.length=(k+vs.length)*sz->(∀v∈vs,v.cells.size=sz)->
  Instr.fill (fun i=>some (i*sz,sz)) cur.toArray ((vs.zipIdx k).map fun p=>(p.2,p.1))=some (cur.take (k*sz)++vs.flatMap (·.cells.toList)).toArray
 |[],k,cur,h,_=>by simp[Instr.fill,iP (show cur.length<=k*sz by simp at h;omega)]
 |v::vs,k,cur,h,hv=>by
  have hs:=hv v az
  simp only[eO]at h
  have hm:(k+(vs.length+1))*sz=k*sz+sz+vs.length*sz:=by rw[kO,kO,QH];omega
  simp only[List.zipIdx_cons,lf,Instr.fill,hs,ur]
  rw[aP iF]
  have hf:v.cells.zipIdx.foldl (fun(a:Array Value) (p:Value×Nat)=>a.setIfInBounds (k*sz+p.2) p.1) cur.toArray=(cur.take (k*sz)++v.cells.toList++cur.drop (k*sz+sz)).toArray:=by
   rw[<-Array.foldl_toList,Array.toList_zipIdx]
   have:=Th (k*sz) v.cells.toList 0 cur (by simp[hs];omega)
   simpa[hs]using this
  have hf':v.cells.zipIdx.foldl (fun cs (x:Value×Nat)=>match x with|(c,j)=>cs.setIfInBounds (k*sz+j) c) cur.toArray=(cur.take (k*sz)++v.cells.toList++cur.drop (k*sz+sz)).toArray:=hf
  rw[hf',Ti sz vs (k+1) _ (by simp[hs];rw[kO,kO];omega) (fun u hu=>hv u (by simp[hu]))]
  congr 2
  rw[show(k+1)*sz=k*sz+sz by rw[kO,QH],Qe (by simp[hs];omega)]
  rw[iP (by simp[hs];omega)]
  simp
theorem ct{e sz:TypeId}{len:Nat}{ps:List (Nat×Operand)}{vs:List Value}{ie:TypeInfo}{z:Value}
  (hu:P.underlying t=some (.slice e)) (hie:P.info? e=some ie) (hz:ie.zero=some z) (hsz:ie.size=sz) (hl:vs.length=len) (hsmall:¬len*sz>2^24) (hpos:¬len*sz=0)
  (h:ps.map (fun p=>(p.1,ev σ p.2))=(vs.zipIdx.map fun p=>(p.2,p.1))) (hc:vs.all (fun v=>v.cells.size==sz)=true):
  (execOp (ev σ) ⟨dst,.buildSlice t len ps.toArray,ty,pos,bJ,g⟩).run P w= .ok (.value (.slice (some ⟨w.heap.size,0,none⟩) len len)) (w.alloc (.cells (vs.flatMap (·.cells.toList)).toArray e)):=by
 subst hsz
 subst hl
 refine ak5 hu hie hz hsmall hpos h ?_
 have hz':((Array.range (vs.length*ie.size)).map (z.cells[· %z.cells.size]!))=(((Array.range (vs.length*ie.size)).map (z.cells[· %z.cells.size]!)).toList).toArray:=(Array.toArray_toList ..).symm
 rw[hz']
 have:=Ti ie.size vs 0 (((Array.range (vs.length*ie.size)).map (z.cells[· %z.cells.size]!)).toList) az (fun v hv=>by simpa using iC.1 hc v hv)
 simpa using this
theorem GX{s i:Nat}{cs:Array Value}{fs:Array Field}{f:Field}(hu:P.underlying s=some (.struct fs))(hf:fs[i]?=some f)(ha:∀w,(isAgg f.type).run P w= .ok false w)
  (hx:ev σ x= .agg cs) (hv:cs[f.offset]?=some v):(execOp (ev σ) ⟨dst,.field s x i,ty,pos,bJ,g⟩).run P w= .ok (.value v) w:=by
 simp[execOp,Instr.field,jr hu,hf,hx,asAgg,part,ha,hv]
theorem KT{e:TypeId}{len:Nat}{cs:Array Value}{k:IntKind}{i:Int}(hu:P.underlying t=some (.array len e))(ha:∀w,(isAgg e).run P w= .ok false w)(hs:∀w,(sizeOf e).run P w= .ok 1 w)
  (hx:ev σ x= .agg cs) (hy:ev σ y= .int k i) (hi:0<=i/\i<len) (hv:cs[i.toNat]?=some v):(execOp (ev σ) ⟨dst,.index t x y,ty,pos,bJ,g⟩).run P w= .ok (.value v) w:=by
 simp[execOp,Instr.index,jr hu,hx,hy,asIntOf,part,ha,hs,hv,hi]
end mem
end runs
abbrev a8:=Sum (Nat×Obj) (Value×TypeId×Nat×Nat×List Value)
abbrev a8.blk(b:Nat)(o:Obj):a8:= .inl (b,o)
abbrev a8.row(v:Value)(e:TypeId)(sz n:Nat)(xs:List Value):a8:= .inr (v,e,sz,n,xs)
def a8.rq:a8->Option Nat
 | .inl (b,_)=>some b
 | .inr (v,_)=>v.ownBlock
def a8.ok(base:Nat)(w:World):a8->Prop
 | .inl (b,o)=>base<=b/\w.heap[b]?=some o
 | .inr (v,e,sz,n,xs)=>w.ownsRow base e sz v n xs
structure Hp(w0 w:World)(L:List a8):Prop where
 below:Below w0.heap.size w0 w
 ok:∀x∈L,x.ok w0.heap.size w
 KU:L.Pairwise fun x y=>x.rq=none\/x.rq≠y.rq
theorem a8.Io{base:Nat}{w:World}{x:a8}(h:x.ok base w):∀b,x.rq=some b->base<=b/\b<w.heap.size:=by
 intro b hb
 rcases x with⟨c,o⟩|⟨v,e,sz,n,xs⟩
 .simp only[a8.rq,WH]at hb;subst hb
  exact⟨h.1,(A6.1 h.2).1⟩
 exact World.ownsRow.lt h b hb
theorem a8.CC{base:Nat}{w w':World}{x:a8}(h:x.ok base w)(hb:∀b,x.rq=some b->w'.heap[b]?=w.heap[b]?):x.ok base w':=by
 rcases x with⟨c,o⟩|⟨v,e,sz,n,xs⟩
 .exact⟨h.1,(hb c O).trans h.2⟩
 refine⟨h.1,?_⟩
 rcases h.2 with hn|⟨gb,cap,cur,rfl,h1,h2,rest⟩
 .exact .inl hn
 exact .inr ⟨gb,cap,cur,rfl,h1,(hb gb O).trans h2,rest⟩
section hp
variable{w0 w w':World}{L:List a8}
theorem Hp.start(w:World):Hp w w []:=⟨Below.refl _ _,fun _ h=>ow,List.Pairwise.nil⟩
theorem Hp.size(h:Hp w0 w L):w0.heap.size<=w.heap.size:=h.below.size
theorem Hp.drew(h:Hp w0 w L):Hp w0 w.drew L:=⟨h.below.drew,fun x hx=>a8.CC (h.ok x hx) fun _ _=>rfl,h.KU⟩
theorem Hp.call(h:Hp w0 w L)(hb:Below w.heap.size w w'):Hp w0 w' L:=
 ⟨h.below.trans (hb.mono h.size),fun x hx=>a8.CC (h.ok x hx) fun b hf=>hb.block b (a8.Io (h.ok x hx) b hf).2,h.KU⟩
theorem Hp.alloc(h:Hp w0 w L)(o:Obj):Hp w0 (w.alloc o) (.blk w.heap.size o::L):=by
 refine⟨h.below.alloc h.size o,fun x hx=> ?_,?_⟩
 .rcases cZ.1 hx with rfl|hx
  .exact⟨h.size,heap_alloc_new w o⟩
  exact a8.CC (h.ok x hx) fun b hf=>Below.heap_alloc w o b (a8.Io (h.ok x hx) b hf).2
 refine List.Pairwise.cons (fun y hy=> ?_) h.KU
 right
 intro he
 have:=(a8.Io (h.ok y hy) w.heap.size he.symm).2
 omega
theorem Hp.CD{v:Value}{e:TypeId}{sz n:Nat}{xs:List Value}(h:Hp w0 w L)(hb:Below w.heap.size w w')(hr:w'.ownsRow w.heap.size e sz v n xs):Hp w0 w' (.row v e sz n xs::L):=by
 have h':=h.call hb
 refine⟨h'.below,fun x hx=> ?_,List.Pairwise.cons (fun y hy=> ?_) h.KU⟩
 .rcases cZ.1 hx with rfl|hx
  .refine⟨hr.1,?_⟩
   rcases hr.2 with hn|⟨gb,cap,cur,rfl,h1,rest⟩
   .exact .inl hn
   exact .inr ⟨gb,cap,cur,rfl,jP h.size h1,rest⟩
  exact h'.ok x hx
 .cases hv:v.ownBlock with
  |none=>left;exact hv
  |some b=>
   right
   intro he
   have h1:=(hr.lt b hv).1
   have h2:=(a8.Io (h.ok y hy) b (by rw[<-he];exact hv)).2
   omega
theorem Hp.fD(h:Hp w0 w L)(e:TypeId)(sz:Nat):Hp w0 w (.row (.slice none 0 0) e sz 0 []::L):=
 ⟨h.below,fun x hx=>by
  rcases cZ.1 hx with rfl|hx
  .exact World.ownsRow_nil w _ e sz
  exact h.ok x hx,List.Pairwise.cons (fun y hy=> .inl O) h.KU⟩
theorem Hp.tail{x:a8}(h:Hp w0 w (x::L)):Hp w0 w L:=⟨h.below,fun y hy=>h.ok y (fw _ hy),h.KU.tail⟩
theorem Hp.sub{L':List a8}(h:Hp w0 w L)(hs:L'.Sublist L):Hp w0 w L':=⟨h.below,fun y hy=>h.ok y (hs.subset hy),h.KU.sublist hs⟩
theorem Hp.blk{i b:Nat}{o:Obj}(h:Hp w0 w L)(hi:L[i]?=some (.blk b o)):w.heap[b]?=some o:=(h.ok _ (ld hi)).2
theorem Hp.cell{i b off:Nat}{c:Array Value}{e:TypeId}{fr:Nat×Nat}{v:Value}(h:Hp w0 w L)(hi:L[i]?=some (.blk b (.cells c e fr)))(hc:c[off]?=some v):w.cell? ⟨b,off,none⟩=some v:=by
 rw[xa w b off c e fr (h.blk hi)];exact hc
theorem Hp.range{i b off:Nat}{c:Array Value}{e:TypeId}{fr:Nat×Nat}{cs:List Value}(h:Hp w0 w L)(hi:L[i]?=some (.blk b (.cells c e fr)))(hc:∀j v,cs[j]?=some v->c[off+j]?=some v):w.rangeAt b off cs:=
 fun j v hv=>h.cell hi (hc j v hv)
theorem Bs{i:Nat}{x x':a8}(hi:L[i]?=some x)(hf:x'.rq=x.rq)(hd:L.Pairwise fun x y=>x.rq=none\/x.rq≠y.rq):(L.set i x').Pairwise fun x y=>x.rq=none\/x.rq≠y.rq:=by
 have hm:(L.set i x').map a8.rq=L.map a8.rq:=by
  rw[List.map_set,hf]
  apply sY
  intro j
  rw[uq]
  split
  .rename_i hij;subst hij
   simp[hi]
   exact(mh.1 hi).1
  rfl
 have h1:(L.map a8.rq).Pairwise fun x y=>x=none\/x≠y:=Gt.2 hd
 rw[<-hm]at h1
 exact Gt.1 h1
theorem Hp.set{i b:Nat}{c c':Array Value}{e:TypeId}(h:Hp w0 w L)(hi:L[i]?=some (.blk b (.cells c e (0,0)))):Hp w0 (w.setRow b c') (L.set i (.blk b (.cells c' e (0,0)))):=by
 have hx:=h.ok _ (ld hi)
 have hil:=(mh.1 hi).1
 refine⟨below_setRow h.below hx.1 c',fun y hy=> ?_,Bs hi O h.KU⟩
 obtain⟨j,hj,Eg⟩:=yz.1 hy
 rw[yC]at Eg
 split at Eg
 .subst Eg
  exact⟨hx.1,setRow_heap w b c c' e (0,0) hx.2⟩
 rename_i hne
 have hjL:j<L.length:=by simpa using hj
 have hyL:y∈L:=Eg▸p6 hjL
 refine a8.CC (h.ok y hyL) fun bb hf=>setRow_other w b bb c' fun IV=> ?_
 subst IV
 have hp:=J7.1 h.KU
 have hLi:L[i]= .blk bb (.cells c e (0,0)):=(mh.1 hi).2
 rcases WC hne with hlt|hgt
 .rcases hp i j hil hjL hlt with h0|h0
  .rw[hLi]at h0;cases h0
  rw[hLi,Eg,hf]at h0;exact h0 O
 rcases hp j i hjL hil hgt with h0|h0
 .rw[Eg,hf]at h0;cases h0
 rw[hLi,Eg,hf]at h0;exact h0 O
theorem Hp.get{i:Nat}{x:a8}(h:Hp w0 w L)(hi:L[i]?=some x):x.ok w0.heap.size w:=h.ok _ (ld hi)
end hp
def sb:Value->Nat
 | .slice (some a) _ _=>a.block
 |_=>0
def so:Value->Nat
 | .slice (some a) _ _=>a.off
 |_=>0
structure Sl(w:World)(v:Value)(sz n:Nat)(cells:List Value):Prop where
 shape:∃a cap,v= .slice a n cap/\n<=cap/\(0<n->a=some ⟨sb v,so v,none⟩)
 len:cells.length=n*sz
 cell:∀j c,cells[j]?=some c->w.cell? ⟨sb v,so v+j,none⟩=some c
 small:n<=maxLen
section sl
variable{P:Program}{w0 w w':World}{L:List a8}{v:Value}{sz n:Nat}{cells:List Value}
theorem Sl.nil(w:World)(sz:Nat):Sl w (.slice none 0 0) sz 0 []:=⟨⟨none,0,rfl,eG _,fun h=>J⟩,az,fun j c h=>by simp at h,kQ⟩
theorem Sl.below(h:Sl w v sz n cells)(hb:Below w.heap.size w w'):Sl w' v sz n cells:=
 ⟨h.shape,h.len,fun j c hc=>by
  have h1:=h.cell j c hc
  rw[hb.cell (World.block_lt_of_cell? w _ h1)];exact h1,h.small⟩
theorem Sl.hp(h:Sl w0 v sz n cells)(hp:Hp w0 w L):Sl w v sz n cells:=h.below hp.below
theorem Sl.KV{base:Nat}{e:TypeId}(h:w.ownsRow base e sz v n cells):Sl w v sz n cells:=by
 obtain⟨h1,h2⟩:=h
 rcases h2 with⟨rfl,rfl⟩|⟨gb,cap,cur,rfl,hb,hg,hn,hm,hs,ht⟩
 .have:cells=[]:=E3 Ee
  subst this;exact Sl.nil w sz
 refine⟨⟨_,cap,rfl,hn,fun _=>rfl⟩,h1,fun j c hc=> ?_,jP hn hm⟩
 simp only[sb,so,fg]
 rw[xa w _ _ cur e (0,0) hg]
 rw[<-ht,uo]at hc
 split at hc
 .simpa using hc
 .cases hc
theorem Hp.sl{i:Nat}{e:TypeId}(h:Hp w0 w L)(hi:L[i]?=some (.row v e sz n cells)):Sl w v sz n cells:=Sl.KV (h.get hi)
theorem Hp.dQ{i b:Nat}{c:Array Value}{e:TypeId}(h:Hp w0 w L)(hi:L[i]?=some (.blk b (.cells c e (0,0))))(hl:c.size=n*sz)(hs:n<=maxLen):Sl w (.slice (some ⟨b,0,none⟩) n n) sz n c.toList:=
 ⟨⟨_,n,rfl,eG _,fun _=>rfl⟩,by simpa using hl,fun j u hu=>by
  simp only[sb,so,fg]
  exact h.cell hi qf,hs⟩
section ops
variable{σ:Env}{dst:Option Tmp}{ty t:TypeId}{pos:String}{bJ:Array Edge}{g:Option (Nat×Bool)}{x y:Operand}
theorem ag{e:TypeId}{k:IntKind}{i:Int}(hS:Sl w v sz n cells)(hu:P.underlying t=some (.slice e))(hs:∀w,(sizeOf e).run P w= .ok sz w)
  (hx:ev σ x=v) (hy:ev σ y= .int k i) (hi:0<=i/\i<n):
  (execOp (ev σ) ⟨dst,.indexAddr t x y,ty,pos,bJ,g⟩).run P w= .ok (.value (.pointer (some ⟨sb v,so v+i.toNat*sz,none⟩))) w:=by
 obtain⟨a,cap,hv,hnc,ha⟩:=hS.shape
 have ha':=ha J
 have hx':ev σ x= .slice (some ⟨sb v,so v,none⟩) n cap:=by rw[hx,hv,<-hv];rw[<-ha'];exact hv
 simp[execOp,Instr.indexAt,jr hu,hx',hy,asIntOf,hi,hs,Gw]
theorem aA{e:TypeId}{ats:Array TypeId}(hS:Sl w v sz n cells)(ht:ats[0]?=some t)(hu:P.underlying t=some (.slice e))(hx:ev σ x=v):
  (execOp (ev σ) ⟨dst,.call {callee:= .builtin .len,args:=#[x],argTypes:=ats},ty,pos,bJ,g⟩).run P w= .ok (.value (I n)) w:=by
 obtain⟨a,cap,hv,hnc,ha⟩:=hS.shape
 exact aeU ht hu hx hv
end ops
end sl
section aC8
variable{P:Program}{n:Nat}{ops:Array Oper}{k:K}{rest:List Oper}{σ:Env}{w0 w:World}{L:List a8}{op:Op}{ty:TypeId}{pos:String}{bJ:Array Edge}{d:Nat}
theorem Xt{o:Obj}(hd:Nat.blt d n=true)(hH:Hp w0 w L){f:Nat->Value}(hr:(execOp (ev σ) ⟨some d,op,ty,pos,bJ,none⟩).run P w= .ok (.value (f w.heap.size)) (w.alloc o))
  (hk:∀b w',Hp w0 w' (.blk b o::L)->RL P n ops k rest (k7 σ d (f b)) w'):RL P n ops k (⟨some d,op,ty,pos,bJ,none⟩::rest) σ w:=
 ox hd hr (hk _ _ (hH.alloc o))
theorem bu{i b:Nat}{c c':Array Value}{e:TypeId}(hH:Hp w0 w L)(hi:L[i]?=some (.blk b (.cells c e (0,0))))
  (hr:(execOp (ev σ) ⟨none,op,ty,pos,bJ,none⟩).run P w= .ok .skip (w.setRow b c'))
  (hk:∀w',Hp w0 w' (L.set i (.blk b (.cells c' e (0,0))))->RL P n ops k rest σ w'):RL P n ops k (⟨none,op,ty,pos,bJ,none⟩::rest) σ w:=
 KL hr (hk _ (hH.set hi))
def Pure(v:Value)(w:World):Ending->World->Prop:=iA fun u w'=>u=v/\Below w.heap.size w w'
def rV(e:TypeId)(sz m:Nat)(xs:List Value)(w:World):Ending->World->Prop:=iA fun v w'=>w'.ownsRow w.heap.size e sz v m xs/\Below w.heap.size w w'
theorem aG{f:FuncId}{args:Array Value}{v:Value}(hd:Nat.blt d n=true)(hH:Hp w0 w L)(hc:Calls P f args w (Pure v w))
  (hr:(execOp (ev σ) ⟨some d,op,ty,pos,bJ,none⟩).run P w= .ok (.enter f args) w)
  (hk:∀w',Hp w0 w' L->RL P n ops k rest (k7 σ d v) w'):RL P n ops k (⟨some d,op,ty,pos,bJ,none⟩::rest) σ w:=
 GU hd hr hc fun u w' ⟨hu,hb⟩=>by subst hu;exact hk w' (hH.call hb)
theorem Bt{f:FuncId}{args:Array Value}{e:TypeId}{sz m:Nat}{xs:List Value}(hd:Nat.blt d n=true)(hH:Hp w0 w L)(hc:Calls P f args w (rV e sz m xs w))
  (hr:(execOp (ev σ) ⟨some d,op,ty,pos,bJ,none⟩).run P w= .ok (.enter f args) w)
  (hk:∀v w',Hp w0 w' (.row v e sz m xs::L)->RL P n ops k rest (k7 σ d v) w'):RL P n ops k (⟨some d,op,ty,pos,bJ,none⟩::rest) σ w:=
 GU hd hr hc fun u w' ⟨hu,hb⟩=>hk u w' (hH.CD hb hu)
end aC8
def AN(P:Program)(n:Nat)(l:List Oper)(S:World->Prop)(k:K)(fuel:Nat)(listed:Array Bool)(σ:Env)(w:World):Prop:=
 ∀a,Is n σ a->wpAnyH P .any l.toArray (qX n k) S fuel listed a w
section aeX
variable{P:Program}{n:Nat}{l:List Oper}{S:World->Prop}{k:K}{xs:List (Nat×K)}{r:K}{σ:Env}{w w0:World}{L:List a8}{fuel i d:Nat}{listed:Array Bool}{op:Op}{ty:TypeId}{pos:String}{bJ:Array Edge}{g:Option (Nat×Bool)}{v:Value}{dst:Option Tmp}
theorem eF{id:Nat}(hm:P.follows .mixedOrders=true)(hH:Hp w0 w L)
  (h:∀w',Hp w0 w' L->AN P n l (fun w=>Hp w0 w L) k l.length (Array.replicate l.length false) σ w'):CW P n (.region id l.toArray true) k xs r σ w:=by
 intro a ha
 refine yF (fun e a' w' hq=> ?_) (W3 (id:=id) (Q:=qX n k) hm (W4 (S:=fun w=>Hp w0 w L) _ _ _ _ ?_))
 .cases e with
  |normal=>exact hq
  |exit id=>exact hq.elim
  |ret=>exact hq.elim
  |goto l=>exact hq.elim
  |panic c=>exact hq.elim
  |outgrown=>exact hq.elim
 have:=h _ hH.drew a ha
 simpa using this
theorem avR(hr:Region.ready .any l.toArray listed=[])(h:k σ w):AN P n l S k fuel listed σ w:=by
 intro a ha
 cases fuel with
 |zero=>exact⟨hr,σ,ha,h⟩
 |succ f=>exact⟨fun _=>⟨σ,ha,h⟩,fun i hi=>by rw[hr]at hi;cases hi⟩
theorem aeY(i:Nat)(hi:l[i]?=some ⟨some d,op,ty,pos,bJ,none⟩)(hd:Nat.blt d n=true)(hs:Region.noSelect l.toArray=true)(hf:Region.free .any l.toArray listed i=true)
  (hr:(Region.ready .any l.toArray listed).contains i=true) (hS:S w) (hy:∀w,S w->(execOp (ev σ) ⟨some d,op,ty,pos,bJ,none⟩).run P w= .ok (.value v) w)
  (h:AN P n l S k fuel (listed.setIfInBounds i true) (k7 σ d v) w):AN P n l S k (fuel+1) listed σ w:=by
 intro a ha
 refine QI (i:=i) (oi:=⟨some d,op,ty,pos,bJ,none⟩) (v:=v) uA hs hf hr (fun c a w hq=>hq.elim) (.inl ⟨rfl,fun w hw=> ?_⟩) hS (h _ (ha.put hd v))
 rw[ha.eval];exact hy w hw
theorem aqP(i:Nat){j dj:Nat}{want:Bool}(hi:l[i]?=some ⟨some d,op,ty,pos,bJ,some (j,want)⟩)(hj:(l[j]?).bind (·.dst)=some dj)(hb:σ dj= .bool want)(hd:Nat.blt d n=true)
  (hs:Region.noSelect l.toArray=true) (hf:Region.free .any l.toArray listed i=true)
  (hr:(Region.ready .any l.toArray listed).contains i=true) (hS:S w) (hy:∀w,S w->(execOp (ev σ) ⟨some d,op,ty,pos,bJ,some (j,want)⟩).run P w= .ok (.value v) w)
  (h:AN P n l S k fuel (listed.setIfInBounds i true) (k7 σ d v) w):AN P n l S k (fuel+1) listed σ w:=by
 intro a ha
 refine QI (i:=i) (oi:=⟨some d,op,ty,pos,bJ,some (j,want)⟩) (v:=v) uA hs hf hr (fun c a w hq=>hq.elim)
  (.inl ⟨by rw[GV ha (by simpa using hj) hb];simp,fun w hw=> ?_⟩) hS (h _ (ha.put hd v))
 rw[ha.eval];exact hy w hw
theorem avS(i:Nat){j dj:Nat}{b want:Bool}(hi:l[i]?=some ⟨some d,op,ty,pos,bJ,some (j,want)⟩)(hj:(l[j]?).bind (·.dst)=some dj)(hb:σ dj= .bool b)(hne:(b==want)=false)(hd:Nat.blt d n=true)
  (hs:Region.noSelect l.toArray=true) (hf:Region.free .any l.toArray listed i=true)
  (hr:(Region.ready .any l.toArray listed).contains i=true) (hS:S w)
  (h:AN P n l S k fuel (listed.setIfInBounds i true) (k7 σ d undef) w):AN P n l S k (fuel+1) listed σ w:=by
 intro a ha
 exact QI (i:=i) (oi:=⟨some d,op,ty,pos,bJ,some (j,want)⟩) (v:=undef) uA hs hf hr (fun c a w hq=>hq.elim)
  (.inr ⟨by rw[GV ha (by simpa using hj) hb];exact hne,rfl⟩) hS (h _ (ha.put hd undef))
theorem avT(i:Nat){j dj:Nat}{want:Bool}(hi:l[i]?=some ⟨some d,op,ty,pos,bJ,some (j,want)⟩)(hj:(l[j]?).bind (·.dst)=some dj)(hu:σ dj=undef)(hd:Nat.blt d n=true)
  (hs:Region.noSelect l.toArray=true) (hf:Region.free .any l.toArray listed i=true)
  (hr:(Region.ready .any l.toArray listed).contains i=true) (hS:S w)
  (h:AN P n l S k fuel (listed.setIfInBounds i true) (k7 σ d undef) w):AN P n l S k (fuel+1) listed σ w:=by
 intro a ha
 exact QI (i:=i) (oi:=⟨some d,op,ty,pos,bJ,some (j,want)⟩) (v:=undef) uA hs hf hr (fun c a w hq=>hq.elim)
  (.inr ⟨E4 ha (by simpa using hj) hu _,rfl⟩) hS (h _ (ha.put hd undef))
def AO(P:Program)(n:Nat)(l:List Oper)(S:World->Prop)(k:K)(fuel:Nat)(listed:Array Bool)(σ:Env)(w:World)(i:Nat):Prop:=
 ∀a,Is n σ a->wpOp P l.toArray (qX n k) i (fun a' w'=>S w'/\wpAnyH P .any l.toArray (qX n k) S fuel (listed.setIfInBounds i true) a' w') a w
theorem aeZ(rs:List Nat)(hr:Region.ready .any l.toArray listed=rs)(hne:rs.isEmpty=false)(h:∀i∈rs,AO P n l S k fuel listed σ w i):AN P n l S k (fuel+1) listed σ w:=by
 intro a ha
 exact wpAnyH_all hr (by intro h0;simp[h0]at hne) fun i hi=>h i hi a ha
theorem avU(i:Nat)(hr:Region.ready .any l.toArray listed=[i])(h:AO P n l S k fuel listed σ w i):AN P n l S k (fuel+1) listed σ w:=by simp_all[aeZ]
theorem Xu{o:Oper}(hi:l[i]?=some o)(hw:∀a,Is n σ a->Region.wanted o (yielded l.toArray a.tmps)=true)
  (h:∀a,Is n σ a->o.upon P a (fun a' w'=>S w'/\wpAnyH P .any l.toArray (qX n k) S fuel (listed.setIfInBounds i true) a' w') (qX n k) ((execOp (ev σ) o).run P w)):AO P n l S k fuel listed σ w i:=by
 intro a ha
 have hi':l.toArray[i]?=some o:=uA
 unfold wpOp
 simp only[hi',hw a ha,s5]
 refine .inl ?_
 unfold Oper.wp
 rw[ha.eval]
 exact h a ha
theorem Bu{w':World}(hi:l[i]?=some ⟨some d,op,ty,pos,bJ,g⟩)(hg:∀a,Is n σ a->Region.wanted ⟨some d,op,ty,pos,bJ,g⟩ (yielded l.toArray a.tmps)=true)(hd:Nat.blt d n=true)
  (hr:(execOp (ev σ) ⟨some d,op,ty,pos,bJ,g⟩).run P w= .ok (.value v) w') (hS:S w') (h:AN P n l S k fuel (listed.setIfInBounds i true) (k7 σ d v) w'):AO P n l S k fuel listed σ w i:=
 Xu hi hg fun a ha=>by rw[hr];exact⟨hS,h _ (ha.put hd v)⟩
theorem KW{w':World}(hi:l[i]?=some ⟨none,op,ty,pos,bJ,g⟩)(hg:∀a,Is n σ a->Region.wanted ⟨none,op,ty,pos,bJ,g⟩ (yielded l.toArray a.tmps)=true)
  (hr:(execOp (ev σ) ⟨none,op,ty,pos,bJ,g⟩).run P w= .ok .skip w') (hS:S w') (h:AN P n l S k fuel (listed.setIfInBounds i true) σ w'):AO P n l S k fuel listed σ w i:=
 Xu hi hg fun a ha=>by rw[hr];exact⟨hS,h _ ha⟩
theorem Q2{f:FuncId}{args:Array Value}{q:Value->World->Prop}(hi:l[i]?=some ⟨some d,op,ty,pos,bJ,g⟩)(hg:∀a,Is n σ a->Region.wanted ⟨some d,op,ty,pos,bJ,g⟩ (yielded l.toArray a.tmps)=true)(hd:Nat.blt d n=true)
  (hc:Calls P f args w (iA q)) (hr:(execOp (ev σ) ⟨some d,op,ty,pos,bJ,g⟩).run P w= .ok (.enter f args) w)
  (h:∀v w',q v w'->S w'/\AN P n l S k fuel (listed.setIfInBounds i true) (k7 σ d v) w'):AO P n l S k fuel listed σ w i:=
 Xu hi hg fun a ha=>by
  rw[hr]
  refine hc.mono fun e w' hq=> ?_
  cases e with
  |returned v=>exact⟨(h v w' hq).1,(h v w' hq).2 _ (ha.put hd v)⟩
  |panicked c=>exact hq.elim
  |outgrown=>exact hq.elim
theorem aH(a:Act)(_:Is n σ a):Region.wanted ⟨dst,op,ty,pos,bJ,none⟩ (yielded l.toArray a.tmps)=true:=rfl
theorem Bv{j dj:Nat}{want:Bool}(hj:(l[j]?).bind (·.dst)=some dj)(hb:σ dj= .bool want)(a:Act)(ha:Is n σ a):Region.wanted ⟨dst,op,ty,pos,bJ,some (j,want)⟩ (yielded l.toArray a.tmps)=true:=by grind[GV]
theorem cY{L':List a8}{o:Obj}{f:Nat->Value}(hi:l[i]?=some ⟨some d,op,ty,pos,bJ,g⟩)(hg:∀a,Is n σ a->Region.wanted ⟨some d,op,ty,pos,bJ,g⟩ (yielded l.toArray a.tmps)=true)(hd:Nat.blt d n=true)
  (hH:Hp w0 w L') (hs:L.Sublist L') (hr:(execOp (ev σ) ⟨some d,op,ty,pos,bJ,g⟩).run P w= .ok (.value (f w.heap.size)) (w.alloc o))
  (h:∀b w',Hp w0 w' (.blk b o::L')->AN P n l (fun w=>Hp w0 w L) k fuel (listed.setIfInBounds i true) (k7 σ d (f b)) w'):AO P n l (fun w=>Hp w0 w L) k fuel listed σ w i:=
 Bu hi hg hd hr ((hH.alloc o).sub (hs.cons _)) (h _ _ (hH.alloc o))
theorem cJ{L':List a8}{f:FuncId}{args:Array Value}(hi:l[i]?=some ⟨some d,op,ty,pos,bJ,g⟩)(hg:∀a,Is n σ a->Region.wanted ⟨some d,op,ty,pos,bJ,g⟩ (yielded l.toArray a.tmps)=true)(hd:Nat.blt d n=true)
  (hH:Hp w0 w L') (hs:L.Sublist L') (hc:Calls P f args w (Pure v w)) (hr:(execOp (ev σ) ⟨some d,op,ty,pos,bJ,g⟩).run P w= .ok (.enter f args) w)
  (h:∀w',Hp w0 w' L'->AN P n l (fun w=>Hp w0 w L) k fuel (listed.setIfInBounds i true) (k7 σ d v) w'):AO P n l (fun w=>Hp w0 w L) k fuel listed σ w i:=
 Q2 hi hg hd hc hr fun u w' ⟨hu,hb⟩=>by subst hu;exact⟨(hH.call hb).sub hs,h w' (hH.call hb)⟩
theorem KX{L':List a8}{f:FuncId}{args:Array Value}{e:TypeId}{sz m:Nat}{ys:List Value}(hi:l[i]?=some ⟨some d,op,ty,pos,bJ,g⟩)(hg:∀a,Is n σ a->Region.wanted ⟨some d,op,ty,pos,bJ,g⟩ (yielded l.toArray a.tmps)=true)(hd:Nat.blt d n=true)
  (hH:Hp w0 w L') (hs:L.Sublist L') (hc:Calls P f args w (rV e sz m ys w)) (hr:(execOp (ev σ) ⟨some d,op,ty,pos,bJ,g⟩).run P w= .ok (.enter f args) w)
  (h:∀u w',Hp w0 w' (.row u e sz m ys::L')->AN P n l (fun w=>Hp w0 w L) k fuel (listed.setIfInBounds i true) (k7 σ d u) w'):AO P n l (fun w=>Hp w0 w L) k fuel listed σ w i:=
 Q2 hi hg hd hc hr fun u w' ⟨hu,hb⟩=>⟨(hH.call hb).sub hs,h u w' (hH.CD hb hu)⟩
end aeX
def Fr(ws:List Nat)(σ σ':Env):Prop:=∀i,ws.contains i=false->σ' i=σ i
theorem Fr.refl(ws:List Nat)(σ:Env):Fr ws σ σ:=fun _ _=>rfl
theorem Fr.u{ws:List Nat}{σ σ':Env}{d:Nat}{v:Value}(h:Fr ws σ σ')(hd:ws.contains d=true):Fr ws σ (k7 σ' d v):=fun i hi=>by
 rw[Xq];exact h i hi
 intro e;subst e;rw[hd]at hi;cases hi
theorem Fr.t{ws ws2:List Nat}{σ σ' avV:Env}(h:Fr ws σ σ')(h2:Fr ws2 σ' avV)(hs:ws2.all (ws.contains ·)=true):Fr ws σ avV:=fun i hi=>by
 rw[h2 i,h i hi]
 cases hc:ws2.contains i with
 |false=>rfl
 |true=>
  have:=iC.1 hs i (by simpa using hc)
  rw[hi]at this;cases this
section short
variable{P:Program}{n:Nat}{ops:Array Oper}{k:K}{xs:List (Nat×K)}{r:K}{rest l:List Oper}{σ:Env}{w:World}{b:Bool}{p:Prop}{v:Value}
theorem bT[Decidable p](h:p):Value.bool (decide p)= .bool true:=by grind
theorem bF[Decidable p](h:¬p):Value.bool (decide p)= .bool false:=by grind
theorem bR{c:Bool}(h:b=c):Value.bool b= .bool c:=aK Value.bool h
theorem aDa{dj:Nat}(hb:σ dj= .bool b)(ht:b=true->RL P n ops k l σ w)(hf:b=false->RL P n ops k l σ w):RL P n ops k l σ w:=by grind
theorem aDb[Decidable p]{dj:Nat}(hb:σ dj= .bool (decide p))(ht:p->RL P n ops k l σ w)(hf:¬p->RL P n ops k l σ w):RL P n ops k l σ w:=by grind
theorem KY{S:World->Prop}{fuel:Nat}{listed:Array Bool}{dj:Nat}(hb:σ dj= .bool b)(ht:b=true->AN P n l S k fuel listed σ w)(hf:b=false->AN P n l S k fuel listed σ w):AN P n l S k fuel listed σ w:=by grind
theorem Dl{S:World->Prop}{fuel:Nat}{listed:Array Bool}[Decidable p]{dj:Nat}(hb:σ dj= .bool (decide p))(ht:p->AN P n l S k fuel listed σ w)(hf:¬p->AN P n l S k fuel listed σ w):AN P n l S k fuel listed σ w:=by grind
variable{dst:Option Tmp}{ty:TypeId}{pos:String}{bJ:Array Edge}{g:Option (Nat×Bool)}{f:FuncId}{ats:Array TypeId}{x1 x2 x3 x4 x5 x6 x:Operand}{v1 v2 v3 v4 v5 v6:Value}{cap:Array Value}
theorem GY(hf:∀args w,(callFunc f args).run P w= .ok (.enter f args) w):
 (execOp (ev σ) ⟨dst,.call {callee:= .value (.func f),args:=#[],argTypes:=ats},ty,pos,bJ,g⟩).run P w= .ok (.enter f #[]) w:=xL (Im:=[]) hf O
theorem aq(hf:∀args w,(callFunc f args).run P w= .ok (.enter f args) w)(h1:ev σ x1=v1):
 (execOp (ev σ) ⟨dst,.call {callee:= .value (.func f),args:=#[x1],argTypes:=ats},ty,pos,bJ,g⟩).run P w= .ok (.enter f #[v1]) w:=by grind[xL]
theorem aJ(hf:∀args w,(callFunc f args).run P w= .ok (.enter f args) w)(h1:ev σ x1=v1)(h2:ev σ x2=v2):
 (execOp (ev σ) ⟨dst,.call {callee:= .value (.func f),args:=#[x1,x2],argTypes:=ats},ty,pos,bJ,g⟩).run P w= .ok (.enter f #[v1,v2]) w:=by grind[xL]
theorem bB(hf:∀args w,(callFunc f args).run P w= .ok (.enter f args) w)(h1:ev σ x1=v1)(h2:ev σ x2=v2)(h3:ev σ x3=v3):
 (execOp (ev σ) ⟨dst,.call {callee:= .value (.func f),args:=#[x1,x2,x3],argTypes:=ats},ty,pos,bJ,g⟩).run P w= .ok (.enter f #[v1,v2,v3]) w:=by grind[xL]
theorem jb(hf:∀args w,(callFunc f args).run P w= .ok (.enter f args) w)(h1:ev σ x1=v1)(h2:ev σ x2=v2)(h3:ev σ x3=v3)(h4:ev σ x4=v4):
 (execOp (ev σ) ⟨dst,.call {callee:= .value (.func f),args:=#[x1,x2,x3,x4],argTypes:=ats},ty,pos,bJ,g⟩).run P w= .ok (.enter f #[v1,v2,v3,v4]) w:=by grind[xL]
theorem ru(hf:∀args w,(callFunc f args).run P w= .ok (.enter f args) w)(h1:ev σ x1=v1)(h2:ev σ x2=v2)(h3:ev σ x3=v3)(h4:ev σ x4=v4)(h5:ev σ x5=v5):
 (execOp (ev σ) ⟨dst,.call {callee:= .value (.func f),args:=#[x1,x2,x3,x4,x5],argTypes:=ats},ty,pos,bJ,g⟩).run P w= .ok (.enter f #[v1,v2,v3,v4,v5]) w:=by grind[xL]
theorem Xv(hf:∀args w,(callFunc f args).run P w= .ok (.enter f args) w)(hx:ev σ x= .func (.func f) #[] cap)(h1:ev σ x1=v1):
 (execOp (ev σ) ⟨dst,.call {callee:= .value x,args:=#[x1],argTypes:=ats},ty,pos,bJ,g⟩).run P w= .ok (.enter f (#[v1]++cap)) w:=by grind[OB]
theorem Bw{fn:Fn}(h1:ev σ x1=v1):(execOp (ev σ) ⟨dst,.makeFunc fn #[] #[x1],ty,pos,bJ,g⟩).run P w= .ok (.value (.func fn #[] #[v1])) w:=by grind[tS]
theorem r6{fn:Fn}(h1:ev σ x1=v1)(h2:ev σ x2=v2):(execOp (ev σ) ⟨dst,.makeFunc fn #[] #[x1,x2],ty,pos,bJ,g⟩).run P w= .ok (.value (.func fn #[] #[v1,v2])) w:=by grind[tS]
theorem KZ{fn:Fn}(h1:ev σ x1=v1)(h2:ev σ x2=v2)(h3:ev σ x3=v3):(execOp (ev σ) ⟨dst,.makeFunc fn #[] #[x1,x2,x3],ty,pos,bJ,g⟩).run P w= .ok (.value (.func fn #[] #[v1,v2,v3])) w:=by grind[tS]
variable{fn:Func}{w0:World}
theorem E7{t:Nat}(h:fn.results=#[.tmp t])(hv:σ t=v)(hb:Below w0.heap.size w0 w):Out P fn (fun u w'=>u=v/\Below w0.heap.size w0 w') σ w:=iG h hv ⟨rfl,hb⟩
theorem kG{t u:Nat}{y z:Value}(h:fn.results=#[.tmp t,.tmp u])(hy:σ t=y)(hz:σ u=z)(hb:Below w0.heap.size w0 w):Out P fn (fun u w'=>u= .tuple #[y,z]/\Below w0.heap.size w0 w') σ w:=avN h hy hz ⟨rfl,hb⟩
end short
section app
variable{P:Program}{w0 w:World}{L:List a8}
theorem r7{base:Nat}{t ty e:TypeId}{i:TypeInfo}{z:Value}{size bytes:Nat}(ht:P.underlying t=some (.slice e))(hi:P.info? e=some i)(hz:i.zero=some z)
  (hsize:i.size=size) (hby:i.bytes=bytes) (hzs:z.cells.size=size) (hsz:0<size)
  {v:Value} {n:Nat} {xs:List Value} (hown:w.ownsRow base e size v n xs) {y:Value} {m:Nat} {news:List Value} (hS:Sl w y size m news) (h1:∀u∈news,u.oneCell'=true)
  (h63:n+m<=maxLen) (hbytes:(n+m)*bytes<=140737488355328) (hbase:base<=w.heap.size):
  ∃v' w',(Builtin.append_ #[t,t] ty #[v,y]).run P w= .ok v' w'/\w'.ownsRow base e size v' (n+m) (xs++news)/\w.grownBy w' v.ownBlock/\
   (v'.ownBlock=none\/v'.ownBlock=v.ownBlock\/v'.ownBlock=some w.heap.size):=by
 obtain⟨a,c,hy,hnc,ha⟩:=hS.shape
 by_cases hm:m=0
 .subst hm
  have hn:news=[]:=E3 (by simpa using hS.len)
  subst hn
  refine⟨v,w,?_,by simpa using hown,⟨rfl,rfl,rfl,eG _,fun _ _ _=>rfl⟩,.inr (.inl O)⟩
  subst hy
  rcases hown.2 with⟨rfl,rfl⟩|⟨g,cap,cur,rfl,hbg,hg,hnc,hcm,hcs,avW⟩
  .cases a<;>simp[Builtin.append_,jr ht,sizeOf,typeInfo,hi,Builtin.lenOf,Builtin.firstCells,loadCells,loadCellsFrom]
  .cases a<;>simp[Builtin.append_,jr ht,sizeOf,typeInfo,hi,Builtin.lenOf,Builtin.firstCells,loadCells,loadCellsFrom,hnc,storeCells]
 have ha':=ha J
 have hyy:y= .slice (some ⟨sb y,so y,none⟩) m c:=by rw[<-ha'];exact hy
 have hnews:∀j u,news[j]?=some u->w.cell? ((⟨sb y,so y,none⟩:Addr).add j)=some u:=fun j u hu=>by rw[Gw];exact hS.cell j u hu
 obtain⟨v',w',hr,h2,h3,h4⟩:=run_append_own (P:=P) w base t ty e i z size bytes ht hi hz hsize hby hzs hsz v n xs hown ⟨sb y,so y,none⟩ m c news hS.len hnews h1 h63 hbytes hbase
 rw[hyy]
 refine⟨v',w',hr,h2,h3,?_⟩
 subst hsize
 subst hby
 have hsmall:n+m<=9223372036854775807:=by simp only[maxLen]at h63;omega
 rcases hown.2 with⟨rfl,rfl⟩|⟨g,cap,cur,rfl,hbg,hg,hnc,hcm,hcs,avW⟩
 .have hr2:=run_append_nil (P:=P) w t ty e i z ht hi hz ⟨sb y,so y,none⟩ m c news hS.len hnews J J aeG
  rw[hr2]at hr
  injection hr with e1 e2
  subst e1
  exact .inr (.inr O)
 by_cases hroom:n+m<=cap
 .have hfit:n*i.size+news.length<=cur.size:=by rw[hS.len,hcs,<-kO];exact qV _ hroom
  have hr2:=run_append_room (P:=P) w t ty e i ht hi g n cap cur hg ⟨sb y,so y,none⟩ m c news hS.len hnews h1 hroom hfit
  rw[hr2]at hr
  injection hr with e1 e2
  subst e1
  exact .inr (.inl O)
 have holds:∀j u,xs[j]?=some u->w.cell? ((⟨g,0,none⟩:Addr).add j)=some u:=hown.cells (g:=g) O
 have hr2:=run_append_grow (P:=P) w t ty e i z ht hi hz ⟨g,0,none⟩ n cap xs hown.1 holds ⟨sb y,so y,none⟩ m c news hS.len hnews J J (growslice_fits J hbytes)
 rw[hr2]at hr
 injection hr with e1 e2
 subst e1
 exact .inr (.inr O)
theorem Hp.xM{w':World}{i:Nat}{v v':Value}{e:TypeId}{sz n m:Nat}{xs ys:List Value}(h:Hp w0 w L)(hi:L[i]?=some (.row v e sz n xs))
  (hr:w'.ownsRow w0.heap.size e sz v' m ys) (hg:w.grownBy w' v.ownBlock) (hf:v'.ownBlock=none\/v'.ownBlock=v.ownBlock\/v'.ownBlock=some w.heap.size):Hp w0 w' (L.set i (.row v' e sz m ys)):=by
 have hx:=h.get hi
 have hil:=(mh.1 hi).1
 have hLi:L[i]= .row v e sz n xs:=(mh.1 hi).2
 have hp:=J7.1 h.KU
 have ae0:∀j (hj:j<L.length),j≠i->∀b,(L[j]).rq=some b->v.ownBlock≠some b:=by
  intro j hj hne b hb he
  rcases WC hne with hlt|hgt
  .rcases hp j i hj hil hlt with h0|h0
   .rw[hb]at h0;cases h0
   rw[hb,hLi]at h0;exact h0 he.symm
  rcases hp i j hil hj hgt with h0|h0
  .rw[hLi]at h0;simp only[a8.rq]at h0;rw[he]at h0;cases h0
  rw[hb,hLi]at h0;exact h0 he
 refine⟨h.below.grown hg h.size fun k hk=>(hx.lt k hk).1,fun y hy=> ?_,?_⟩
 .obtain⟨j,hj,Eg⟩:=yz.1 hy
  rw[yC]at Eg
  split at Eg
  .subst Eg;exact hr
  rename_i hne
  have hjL:j<L.length:=by simpa using hj
  have hyL:y∈L:=Eg▸p6 hjL
  refine a8.CC (h.ok y hyL) fun b hb=>hg.block b (a8.Io (h.ok y hyL) b hb).2 fun e=> ?_
  exact ae0 j hjL (fun e=>hne e.symm) b (by rw[Eg];exact hb) e.symm
 refine J7.2 fun a b ha hb hab=> ?_
 have haL:a<L.length:=by simpa using ha
 have hbL:b<L.length:=by simpa using hb
 rw[yC,yC]
 have key:∀j (hj:j<L.length),j≠i->v'.ownBlock=none\/(L[j]).rq=none\/v'.ownBlock≠(L[j]).rq:=by
  intro j hj hne
  cases hfj:(L[j]).rq with
  |none=>exact .inr (.inl O)
  |some c=>
   rcases hf with h0|h0|h0
   .exact .inl h0
   .refine .inr (.inr fun e=>ae0 j hj hne c hfj ?_);rw[<-h0,e]
   refine .inr (.inr fun e=> ?_)
   have:=(a8.Io (h.ok _ (p6 hj)) c hfj).2
   rw[h0]at e;injection e with e;omega
 by_cases hia:i=a
 .subst hia
  rw[aQ O,aP J]
  rcases key b hbL (by omega)with h0|h0|h0
  .exact .inl h0
  .cases hv:v'.ownBlock with
   |none=>exact .inl hv
   |some c=>exact .inr (by rw[h0];show v'.ownBlock≠none;rw[hv];simp)
  exact .inr h0
 rw[aP hia]
 by_cases hib:i=b
 .subst hib
  rw[aQ O]
  rcases key a haL (by omega)with h0|h0|h0
  .cases hv:(L[a]).rq with
   |none=>exact .inl O
   |some c=>exact .inr (by show some c≠v'.ownBlock;rw[h0];simp)
  .exact .inl h0
  exact .inr fun e=>h0 e.symm
 rw[aP hib]
 exact hp a b haL hbL hab
variable{n:Nat}{ops:Array Oper}{k:K}{rest:List Oper}{σ:Env}{ty:TypeId}{pos:String}{bJ:Array Edge}{d:Nat}{x y:Operand}
theorem rW{t:TypeId}{v u:Value}{w':World}{v':Value}{dst:Option Tmp}{g:Option (Nat×Bool)}(hx:ev σ x=v)(hy:ev σ y=u)(hr:(Builtin.append_ #[t,t] ty #[v,u]).run P w= .ok v' w'):
  (execOp (ev σ) ⟨dst,.call {callee:= .builtin .append,args:=#[x,y],argTypes:=#[t,t]},ty,pos,bJ,g⟩).run P w= .ok (.value v') w':=by
 simp[execOp,resolve,invoke,builtin,hx,hy,hr]
theorem jX{t e:TypeId}{i:Nat}{ie:TypeInfo}{z:Value}{size bytes:Nat}{v u:Value}{m m':Nat}{xs news:List Value}(hd:Nat.blt d n=true)(hH:Hp w0 w L)(hL:L[i]?=some (.row v e size m xs))(hS:Sl w u size m' news)
  (hx:ev σ x=v) (hy:ev σ y=u) (ht:P.underlying t=some (.slice e)) (hi:P.info? e=some ie) (hz:ie.zero=some z)
  (hsize:ie.size=size) (hby:ie.bytes=bytes) (hzs:z.cells.size=size) (hsz:0<size) (h1:∀u∈news,u.oneCell'=true)
  (hbytes:(m+m')*bytes<=140737488355328) (h63:m+m'<=maxLen)
  (hk:∀v' w',Hp w0 w' (L.set i (.row v' e size (m+m') (xs++news)))->RL P n ops k rest (k7 σ d v') w'):
  RL P n ops k (⟨some d,.call {callee:= .builtin .append,args:=#[x,y],argTypes:=#[t,t]},ty,pos,bJ,none⟩::rest) σ w:=by
 obtain⟨v',w',hr,h2,h3,h4⟩:=r7 (P:=P) (ty:=ty) ht hi hz hsize hby hzs hsz (hH.get hL) hS h1 h63 hbytes hH.size
 exact ox hd (rW hx hy hr) (hk v' w' (hH.xM hL h2 h3 h4))
end app
theorem clI(k:IntKind)(n:Int):(Value.int k n).cells.toList=[Value.int k n]:=rfl
theorem clB(b:Bool):(Value.bool b).cells.toList=[Value.bool b]:=rfl
theorem clS(b:ByteArray):(Value.string b).cells.toList=[Value.string b]:=rfl
theorem clP(a:Option Addr):(Value.pointer a).cells.toList=[Value.pointer a]:=rfl
theorem clL(a:Option Addr)(n c:Nat):(Value.slice a n c).cells.toList=[Value.slice a n c]:=rfl
theorem clA(l:List Value):(Value.agg l.toArray).cells.toList=l:=rfl
section more
variable{P:Program}{w0 w:World}{L L':List a8}{fn:Func}{σ:Env}
theorem Hp.conv(h:Hp w0 w L)(e:L=L'):Hp w0 w L':=e▸h
theorem Hp.perm(h:Hp w0 w L)(hp:L.Perm L'):Hp w0 w L':=
 ⟨h.below,fun x hx=>h.ok x (hp.mem_iff.2 hx),hp.pairwise h.KU fun{x y} hxy=>by
  cases hy:y.rq with
  |none=>exact .inl O
  |some b=>
   right
   rcases hxy with h0|h0
   .rw[h0];simp
   rw[hy]at h0;exact fun e=>h0 e.symm⟩
theorem N1{t i:Nat}{v:Value}{e:TypeId}{sz n n':Nat}{xs xs':List Value}(h:fn.results=#[.tmp t])(hv:σ t=v)(hH:Hp w0 w L)(hi:L[i]?=some (.row v e sz n xs))(hn:n=n')(hx:xs=xs'):
  Out P fn (fun u w'=>w'.ownsRow w0.heap.size e sz u n' xs'/\Below w0.heap.size w0 w') σ w:=by
 subst hn;subst hx
 exact iG h hv ⟨hH.get hi,hH.below⟩
theorem dZ{xs:List Int}{k:Int}(h:0<=k/\k<xs.length):(xs.map I)[k.toNat*1]?=some (I (xs.getD k.toNat 0)):=by grind
end more
def isD(ops:Array Oper)(j dj:Nat):Bool:=match(ops[j]?).bind (·.dst)with
 |some d=>Nat.beq d dj
 |none=>false
def Xw{α:Type}:Bool->α->α->α
 |true,x,_=>x
 |false,_,y=>y
def gv(ops:Array Oper)(dj:Nat)(b:Bool):Option (Nat×Bool)->Option Bool
 |some (j,want)=>Xw (isD ops j dj) (some (Xw b want (!want))) none
 |none=>none
def pk(dj:Nat)(b:Bool):Op->Op
 | .pick (.tmp c) x y=>Xw (Nat.beq c dj) (.move (Xw b x y)) (.pick (.tmp c) x y)
 |o=>o
def dE(dj:Nat):Option Tmp->Bool
 |some d=>Nat.beq d dj
 |none=>false
def gs(ops:Array Oper)(dj:Nat)(b:Bool):List Oper->List Oper
 |[]=>[]
 |o::r=>match gv ops dj b o.guard with
  |some true=>⟨o.dst,pk dj b o.op,o.type,o.pos,o.after,none⟩::Xw (dE dj o.dst) r (gs ops dj b r)
  |some false=>match o.dst with
   |none=>gs ops dj b r
   |some d=>⟨some d,.move (.const undef),o.type,o.pos,o.after,none⟩::Xw (Nat.beq d dj) r (gs ops dj b r)
  |none=>⟨o.dst,pk dj b o.op,o.type,o.pos,o.after,o.guard⟩::Xw (dE dj o.dst) r (gs ops dj b r)
def gl(n:Nat)(ops:Array Oper)(dj:Nat)(b:Bool):List Oper->List Oper
 |[]=>[]
 |o::r=>match gv ops dj b o.guard,o.dst with
  |some false,some d=>Xw (Xw (Nat.beq d dj) false (Nat.blt d n)) (gl n ops dj b r) (gs ops dj b (o::r))
  |some false,none=>gl n ops dj b r
  |_,_=>gs ops dj b (o::r)
def ge(n:Nat)(ops:Array Oper)(dj:Nat)(b:Bool):List Oper->Env->Env
 |[],σ=>σ
 |o::r,σ=>match gv ops dj b o.guard,o.dst with
  |some false,some d=>Xw (Xw (Nat.beq d dj) false (Nat.blt d n)) (ge n ops dj b r (k7 σ d undef)) σ
  |some false,none=>ge n ops dj b r σ
  |_,_=>σ
section
variable{P:Program}{n:Nat}{ops:Array Oper}{k:K}{rest l:List Oper}{σ:Env}{w:World}{dj:Nat}{b:Bool}
theorem GZ{a:Act}{o:Oper}{t:Bool}(h:a.tmps[dj]?=some (.bool b))(hg:gv ops dj b o.guard=some t):Region.wanted o (yielded ops a.tmps)=t:=by
 obtain⟨dst,op,ty,pos,bJ,g⟩:=o
 cases g with
 |none=>cases hg
 |some jw=>
  obtain⟨j,want⟩:=jw
  simp only[gv]at hg
  cases hi:isD ops j dj with
  |false=>rw[hi]at hg;cases hg
  |true=>
   rw[hi]at hg;simp only[Xw,WH]at hg;subst hg
   unfold isD at hi;split at hi
   .rename_i d hd
    have:d=dj:=uA
    subst this
    simp only[Region.wanted,yielded,hd,Qs,h]
    cases b<;>cases want<;>rfl
   .cases hi
theorem ae1{a:Act}{o:Oper}(h:a.tmps[dj]?=some (.bool b))(g:Option (Nat×Bool)):execOp a.eval ⟨o.dst,pk dj b o.op,o.type,o.pos,o.after,g⟩=execOp a.eval o:=by
 obtain⟨dst,op,ty,pos,bJ,g'⟩:=o
 show execOp a.eval ⟨dst,pk dj b op,ty,pos,bJ,g⟩=execOp a.eval ⟨dst,op,ty,pos,bJ,g'⟩
 unfold pk
 split
 .rename_i c x y
  cases hc:Nat.beq c dj with
  |false=>rfl
  |true=>
   have:c=dj:=by simpa using hc
   subst this
   have e:a.eval (.tmp c)= .bool b:=by
    show a.tmps.getD c undef=_
    rw[wc,h];rfl
   simp only[execOp,e,asBool,Xw]
   cases b<;>rfl
 rfl
theorem abx{o:Oper}{a:Act}{N N':Act->World->Prop}{Q:Exit->Act->World->Prop}(hN:∀(a':Act) v w,a'.tmps=a.tmps->N (a'.put o.dst v) w->N' (a'.put o.dst v) w){r:Result Next}(h:o.upon P a N Q r):o.upon P a N' Q r:=by
 unfold Oper.upon at h⊢
 split at h
 .exact hN _ _ _ O h
 .exact hN _ _ _ O h
 .exact hN {a with defers:=_} _ _ O h
 .refine h.mono fun e w' hr=> ?_
  cases e with
  |returned v=>exact hN _ _ _ O hr
  |panicked c=>exact hr
  |outgrown=>exact hr
 .exact fun c cs=>let⟨v,w',r,s⟩:=h c cs;⟨v,w',hN _ _ _ O r,s⟩
 .exact h
 exact h.elim
theorem ae2{a a':Act}{d:Option Tmp}{v:Value}(h:a.tmps[dj]?=some (.bool b))(e:a'.tmps=a.tmps)(hd:dE dj d=false):(a'.put d v).tmps[dj]?=some (.bool b):=by
 cases d with
 |none=>simpa[Act.put,e]using h
 |some d=>
  have hne:d≠dj:=by intro e;subst e;simp[dE]at hd
  simp only[Act.put,e]
  rw[Dk,aP hne];exact h
theorem aok{Q:Exit->Act->World->Prop}(hL:¬LetsOut Q):∀(l:List Oper) (a:Act) (w:World),a.tmps[dj]?=some (.bool b)->wpList P ops Q (gs ops dj b l) a w->wpList P ops Q l a w
 |[],a,w,_,h=>h
 |o::r,a,w,hb,h=>by
  have next:∀(a':Act) v w,a'.tmps=a.tmps->wpList P ops Q (Xw (dE dj o.dst) r (gs ops dj b r)) (a'.put o.dst v) w->wpList P ops Q r (a'.put o.dst v) w:=by
   intro a' v w' e h'
   cases hd:dE dj o.dst with
   |true=>rw[hd]at h';exact h'
   |false=>rw[hd]at h';exact aok hL r _ _ (ae2 hb e hd) h'
  have run:∀g,(Oper.wp P ⟨o.dst,pk dj b o.op,o.type,o.pos,o.after,g⟩ a w (wpList P ops Q (Xw (dE dj o.dst) r (gs ops dj b r))) Q\/(Oper.asks P ⟨o.dst,pk dj b o.op,o.type,o.pos,o.after,g⟩ a w/\LetsOut Q))->
    (o.wp P a w (wpList P ops Q r) Q\/(o.asks P a w/\LetsOut Q)):=by
   intro g hg
   rcases hg with hg|hg
   .left
    unfold Oper.wp at hg⊢
    rw[ae1 hb]at hg
    exact abx (o:=o) next hg
   right
   unfold Oper.asks at hg⊢
   rw[ae1 hb]at hg;exact hg
  unfold gs at h
  cases hg:gv ops dj b o.guard with
  |none=>
   rw[hg]at h;simp only[wpList]at h⊢
   have e:Region.wanted ⟨o.dst,pk dj b o.op,o.type,o.pos,o.after,o.guard⟩ (yielded ops a.tmps)=Region.wanted o (yielded ops a.tmps):=by unfold Region.wanted;rfl
   rw[e]at h
   split
   .rename_i hw;rw[aQ hw]at h;exact run _ h
   rename_i hw;rw[aP hw]at h;exact next _ _ _ O h
  |some t=>
   rw[hg]at h
   cases t with
   |true=>
    simp only[wpList]at h⊢
    rw[aQ (GZ hb hg)]
    rw[aQ aN]at h
    exact run _ h
   |false=>
    simp only[wpList]at h⊢
    rw[aP (by rw[GZ hb hg];simp)]
    cases hd:o.dst with
    |none=>
     rw[hd]at h
     rw[hd]at next
     exact next a undef w O h
    |some d=>
     rw[hd]at h
     rw[hd]at next
     simp only[wpList]at h
     rw[aQ aN]at h
     rcases h with h|h
     .exact next _ _ _ O h
     exact(hL h.2).elim
theorem aqR(k:K):¬LetsOut (qX n k):=by
 intro⟨a,w,h⟩
 exact h
theorem K0:∀(l:List Oper) (σ:Env),σ dj= .bool b->RL P n ops k (gl n ops dj b l) (ge n ops dj b l σ) w->RL P n ops k l σ w
 |[],σ,_,h=>h
 |o::r,σ,hb,h=>by
  have stay:RL P n ops k (gs ops dj b (o::r)) σ w->RL P n ops k (o::r) σ w:=fun h a ha=>aok (aqR k) _ a w (ha.look hb yJ) (h a ha)
  unfold gl ge at h
  obtain⟨dst,op,ty,pos,bJ,g⟩:=o
  cases hg:gv ops dj b g with
  |none=>simp only[hg]at h;exact stay h
  |some t=>
   cases t with
   |true=>simp only[hg]at h;exact stay h
   |false=>
    simp only[hg]at h
    have hw:∀a,Is n σ a->Region.wanted ⟨dst,op,ty,pos,bJ,g⟩ (yielded ops a.tmps)=false:=fun a ha=>GZ (ha.look hb yJ) hg
    cases dst with
    |none=>
     have h1:=K0 r σ hb h
     intro a ha
     simp only[wpList,hw a ha]
     exact h1 a ha
    |some d=>
     simp only at h
     cases hd:Nat.beq d dj with
     |true=>rw[hd]at h;exact stay h
     |false=>
      rw[hd]at h
      cases hn:Nat.blt d n with
      |false=>rw[hn]at h;exact stay h
      |true=>
       rw[hn]at h
       have hne:dj≠d:=by intro e;subst e;simp at hd
       have h1:=K0 r (k7 σ d undef) (by rw[Xq _ _ hne];exact hb) h
       intro a ha
       simp only[wpList,hw a ha]
       exact h1 _ (ha.put hn undef)
theorem cC{j:Nat}{want:Bool}{dst:Option Tmp}{op:Op}{ty:TypeId}{pos:String}{bJ:Array Edge}(hj:(ops[j]?).bind (·.dst)=some dj)(hb:σ dj= .bool b)
 (h:RL P n ops k (gl n ops dj b (⟨dst,op,ty,pos,bJ,some (j,want)⟩::rest)) (ge n ops dj b (⟨dst,op,ty,pos,bJ,some (j,want)⟩::rest) σ) w):RL P n ops k (⟨dst,op,ty,pos,bJ,some (j,want)⟩::rest) σ w:=K0 _ _ hb h
theorem gm{c:Bool}(dj:Nat)(hb:σ dj= .bool c)(ht:c=true->RL P n ops k (gl n ops dj true l) (ge n ops dj true l σ) w)(hf:c=false->RL P n ops k (gl n ops dj false l) (ge n ops dj false l σ) w):RL P n ops k l σ w:=by
 cases hc:c with
 |true=>exact K0 _ _ (hc▸hb) (ht hc)
 |false=>exact K0 _ _ (hc▸hb) (hf hc)
theorem bN{p:Prop}[Decidable p](dj:Nat)(hb:σ dj= .bool (decide p))(ht:p->RL P n ops k (gl n ops dj true l) (ge n ops dj true l σ) w)(hf:¬p->RL P n ops k (gl n ops dj false l) (ge n ops dj false l σ) w):RL P n ops k l σ w:=by
 by_cases hc:p
 .exact K0 _ _ (by rw[hb,gB hc]) (ht hc)
 exact K0 _ _ (by rw[hb,gF hc]) (hf hc)
theorem Bx{d:Nat}{ty:TypeId}{pos:String}{bJ:Array Edge}(h:RL P n ops k rest (k7 σ d undef) w)(hd:Nat.blt d n=true:=by rfl):RL P n ops k (⟨some d,.move (.const undef),ty,pos,bJ,none⟩::rest) σ w:=
 ox hd (run_move O) h
end
end
end Go.Proofs.YtlhjdflgjbkpmaaGreatDoor.E
namespace Go.Proofs.YtlhjdflgjbkpmaaGreatDoor.M
def yO(n:Int):Bool:=decide (1<=n/\n<=64)
def below(n:Int):BitVec 64:=if n<=0 then 0#64 else if 64<=n then~~~0#64 else(1#64<<<(BitVec.ofInt 64 n).toNat)-1#64
theorem Q3{n:Int}(h:n<=0):below n=0#64:=by simp[below,h]
theorem aby{n:Int}(h:64<=n):below n= ~~~0#64:=by grind[below]
theorem abz{n:Int}(h:¬n<=0)(h':¬64<=n):below n=(1#64<<<(BitVec.ofInt 64 n).toNat)-1#64:=by grind[below]
def uD(n k:Int):BitVec 64×Bool:=if 1<=n/\n<=64/\0<=k/\k<n then(below k,true)else(0#64,false)
theorem ak6{n:Int}(h:(!yO n)=false):1<=n/\n<=64:=by simpa[yO]using h
theorem ak7{n:Int}(h:(!yO n)=true):¬(1<=n/\n<=64):=by grind[yO]
theorem Bz{n k:Int}(h:¬(1<=n/\n<=64/\0<=k/\k<n)):uD n k=(0#64,false):=by rw[uD,aP h]
theorem ug{n k:Int}(h:1<=n/\n<=64/\0<=k/\k<n):uD n k=(below k,true):=by rw[uD,aQ h]
def level(n:Int)(s:BitVec 64):Int×Bool:=
 if 1<=n/\n<=64 then
  match(List.range n.toNat).find? (fun k:Nat=>s==below (k:Int))with
  |some k=>((k:Int),true)
  |none=>(0,false)
 else(0,false)
theorem K1{n:Int}(s:BitVec 64)(h:¬(1<=n/\n<=64)):level n s=(0,false):=by grind[level]
theorem K2{n k:Int}{s:BitVec 64}(h:1<=n/\n<=64)(h0:0<=k)(hk:k<n)(hs:s=below k)(hf:∀j:Int,0<=j->j<k->s≠below j):level n s=(k,true):=by
 have hfind:(List.range n.toNat).find? (fun i:Nat=>s==below (i:Int))=some k.toNat:=by
  rw[List.find?_range_eq_some]
  refine⟨?_,iF,?_⟩
  .rw[show((k.toNat:Int))=k by omega];simpa using hs
  intro j hj
  have:=hf j J J
  simpa using this
 simp only[level,aQ h,hfind]
 rw[show((k.toNat:Int))=k by omega]
theorem Eh{n:Int}{s:BitVec 64}(h:1<=n/\n<=64)(hf:∀j:Int,0<=j->j<n->s≠below j):level n s=(0,false):=by grind[below,level]
theorem m7{n:Int}(h:0<=n/\n<18446744073709551616):(BitVec.ofInt 64 n).toNat=n.toNat:=by grind
theorem eY(n:Int)(i:Nat):(below n).getLsbD i=decide (i<64/\(i:Int)<n):=by
 unfold below
 by_cases h:n<=0
 .rw[aQ h];simp;omega
 rw[aP h]
 by_cases h':64<=n
 .rw[aQ h',Qo,Wx,Bool.not_false,W5,Qv];omega
 rw[aP h',m7 J]
 have e:(1#64<<<n.toNat)-1#64=BitVec.ofNat 64 (2^n.toNat-1):=by
  apply Gn
  have h1:2^n.toNat<2^64:=Nat.pow_lt_pow_right J J
  have h2:0<2^n.toNat:=Nat.two_pow_pos _
  have h3:(1#64<<<n.toNat).toNat=2^n.toNat:=by
   simp[Qi,Qu];exact h1
  rw[Qt,h3,WA,WA]
  generalize 2^n.toNat=X at h1 h2
  omega
 rw[e,Ww,aec]
 by_cases a:i<64<;>by_cases b:i<n.toNat<;>simp[a,b]<;>omega
def m8(p:Nat->Bool):Nat->BitVec 64
 |0=>0#64
 |i+1=>if p i then m8 p i|||(1#64<<<i)else m8 p i
theorem mr(i k:Nat):(1#64<<<i).getLsbD k=(decide (k<64)&&decide (k=i)):=by grind
theorem jY(p:Nat->Bool)(j i:Nat):(m8 p j).getLsbD i=(decide (i<j)&&decide (i<64)&&p i):=by
 induction j with
 |zero=>simp[m8]
 |succ j ih=>
  unfold m8
  by_cases hp:p j=true
  .rw[aQ hp,WJ,ih,mr]
   by_cases h2:i=j
   .subst h2;by_cases h1:i<64<;>simp[h1,hp]
   by_cases h1:i<64<;>by_cases h3:i<j<;>simp[h1,h2,h3]<;>omega
  rw[aP hp,ih]
  by_cases h2:i=j
  .subst h2;simp[hp]
  by_cases h1:i<64<;>by_cases h3:i<j<;>simp[h1,h3]<;>omega
def kH(l:List Int):BitVec 64:=m8 (fun i=>l.contains (i:Int)) 64
theorem gJ(l:List Int)(i:Nat):(kH l).getLsbD i=(decide (i<64)&&l.contains (i:Int)):=by grind[kH,jY]
def yP(i:Int):Bool:=decide (0<=i/\i<64)
def hasB(s:BitVec 64)(i:Int):Bool:=yP i&&s.getLsbD i.toNat
def uE(s:BitVec 64)(i:Int):BitVec 64:=if yP i then s|||(1#64<<<(BitVec.ofInt 64 i).toNat)else s
def ae3(s:BitVec 64)(i:Int):BitVec 64:=if yP i then s&&& ~~~(1#64<<<(BitVec.ofInt 64 i).toNat)else s
def r8(s:BitVec 64)(j:Nat):List Int:=((List.range j).filter (s.getLsbD ·)).map fun(i:Nat)=>(i:Int)
def gf(s:BitVec 64):List Int:=r8 s 64
def dV(a b:BitVec 64):Bool:=decide (a&&& ~~~b=0#64)
theorem xg(s:BitVec 64)(i:Int)(k:Nat):(uE s i).getLsbD k=(s.getLsbD k||(decide (k<64)&&decide ((k:Int)=i))):=by grind[uE,yP,mr,m7]
theorem N2(s:BitVec 64)(i:Int)(k:Nat):(ae3 s i).getLsbD k=(s.getLsbD k&& !decide ((k:Int)=i)):=by grind[ae3,yP,mr,m7]
theorem eu{a b:BitVec 64}(h:∀i,i<64->a.getLsbD i=b.getLsbD i):a=b:=by grind
theorem abA(l:List Int)(i:Int):uE (kH l) i=kH (l++[i]):=eu fun k hk=>by
 rw[xg,gJ,gJ]
 simp[hk,DX]
theorem ZH:kH []=0#64:=eu fun k hk=>by rw[gJ];simp
theorem abB(s:BitVec 64)(j:Nat)(i:Int):i∈r8 s j↔0<=i/\i<j/\s.getLsbD i.toNat=true:=by grind[r8]
theorem fQ(s:BitVec 64)(i:Int):i∈gf s↔hasB s i=true:=by grind[gf,abB,hasB,yP]
theorem ak8(s:BitVec 64):kH (gf s)=s:=eu fun k hk=>by
 rw[gJ]
 have:=fQ s (k:Int)
 have hc:(gf s).contains (k:Int)=hasB s k:=by
  rw[gG,<-this];simp
 rw[hc,hasB,yP];simp[hk];omega
theorem K3(s:BitVec 64)(j:Nat):r8 s (j+1)=r8 s j++(if s.getLsbD j then[(j:Int)]else[]):=by grind[r8,List.range_succ]
theorem G0(s:BitVec 64)(j:Nat):(r8 s j).length<=j:=by grind[r8]
theorem E8(s:BitVec 64):(gf s).length<=64:=G0 s 64
theorem E9(a b:BitVec 64):dV a b=true↔∀i,i<64->a.getLsbD i=true->b.getLsbD i=true:=by
 unfold dV
 rw[ep]
 constructor
 .intro h i hi ha
  have:=aK (fun z=>BitVec.getLsbD z i) h
  simp[hi,ha]at this
  exact this
 intro h
 refine eu fun i hi=> ?_
 have:=h i hi
 simp only[q9,Qo,hi,decide_true,lU,Wx]
 cases ha:a.getLsbD i
 .rfl
 rw[this ha];rfl
theorem ak9(s:BitVec 64){i:Int}(h:yP i=true):decide (s>>>(BitVec.ofInt 64 i).toNat&&&1#64=1#64)=hasB s i:=by
 have h':0<=i/\i<64:=by simpa[yP]using h
 rw[hasB,h,lU,m7 J]
 have key:s>>>i.toNat&&&1#64=if s.getLsbD i.toNat then 1#64 else 0#64:=by
  refine eu fun k hk=> ?_
  by_cases hb:s.getLsbD i.toNat=true
  .rw[aQ hb]
   simp only[q9,aef]
   by_cases h0:k=0
   .subst h0;simp[hb]
   simp[BitVec.getLsbD_one,h0]
  rw[aP hb]
  simp only[q9,aef]
  by_cases h0:k=0
  .subst h0;simpa using hb
  simp[BitVec.getLsbD_one,h0]
 rw[key]
 by_cases hb:s.getLsbD i.toNat=true
 .rw[aQ hb,hb];rfl
 rw[aP hb];simp at hb;rw[hb];rfl
theorem Xx(s:BitVec 64){i:Int}(h:yP i=false):hasB s i=false:=by rw[hasB,h];rfl
theorem Js(s:BitVec 64)(k:Nat):(s>>>k)%2#64=1#64↔s.getLsbD k=true:=by
 have:(s>>>k)%2#64=1#64↔(s>>>k).toNat%2=1:=by
  rw[<-WQ];simp
 rw[this]
 have h2:(s>>>k).getLsbD 0=s.getLsbD k:=az
 rw[<-h2,BitVec.getLsbD,Nat.testBit_zero,ep]
theorem half(s:BitVec 64)(k:Nat):(s>>>k)/2#64=s>>>(k+1):=by
 apply Gn
 simp only[BitVec.toNat_udiv,Wn,Nat.shiftRight_add]
 rfl
def zY(l:List Int)(j:Nat):BitVec 64:=m8 (fun i=>l.contains (i:Int)) j
theorem ala{p:Nat->Bool}{j:Nat}(hj:j<64):m8 p j+(1#64<<<j)=m8 p j|||(1#64<<<j):=by
 refine BitVec.add_eq_or_of_and_eq_zero _ _ (eu fun k hk=> ?_)
 rw[q9,jY,mr]
 by_cases h:k=j
 .subst h;simp
 simp[h]
theorem abC{l:List Int}{j:Nat}(hj:j<64)(h:(j:Int)∈l):zY l j+(1#64<<<j)=zY l (j+1):=by grind[zY,ala,m8]
theorem Xy{l:List Int}{i k:Int}(h0:0<=i)(hi:i<64)(hk:0<=k)(hkl:k<l.length)(h:l.getD k.toNat 0=i):zY l i.toNat+(1#64<<<i.toNat)=zY l (i+1).toNat:=by grind[abC]
theorem ae4{l:List Int}{j:Nat}(h:¬(j:Int)∈l):zY l j=zY l (j+1):=by grind[zY,m8]
theorem abD{l:List Int}{i:Int}(h0:0<=i)(hf:∀j:Int,0<=j->j<l.length->l.getD j.toNat 0≠i):zY l i.toNat=zY l (i+1).toNat:=by
 rw[show(i+1).toNat=i.toNat+1 by omega]
 refine ae4 fun hm=> ?_
 rw[show((i.toNat:Nat):Int)=i by omega]at hm
 obtain⟨j,hj,he⟩:=yz.1 hm
 refine hf j J J ?_
 rw[dN,eE,ef hj];exact he
theorem ak2(j:Nat):(1#64<<<j)*2#64=1#64<<<(j+1):=by
 apply Gn
 have h1:(1#64).toNat=1:=rfl
 have h2:(2#64).toNat=2:=rfl
 rw[BitVec.toNat_mul,Qi,Qi,Qu,Qu,h1,h2,QH,QH,Nat.mod_mul_mod]
 rfl
theorem OC{l:List Int}{k:Int}(h0:0<=k)(h:k<l.length):l.take (k+1).toNat=l.take k.toNat++[l.getD k.toNat 0]:=by
 rw[show(k+1).toNat=k.toNat+1 by omega,DS J,eE,ef J];rfl
theorem K4{l:List Int}{k:Int}(h:¬k<l.length):l.take k.toNat=l:=iP J
theorem Fa{l:List Int}{n:Int}(h:∀i:Int,0<=i->i<64->(i∈l↔i<n)):kH l=below n:=eu fun k hk=>by
 rw[gJ,eY]
 have:=h k J J
 rw[gG];simp[hk,this]
def upto(j:Int):List Int:=(List.range j.toNat).map fun(i:Nat)=>(i:Int)
theorem kC{j:Int}(h:0<=j):upto j++[j]=upto (j+1):=by
 unfold upto
 rw[show(j+1).toNat=j.toNat+1 by omega,wV,gA,Kf,show((j.toNat:Nat):Int)=j by omega]
theorem r9{j:Int}:(upto j).length=j.toNat:=by simp[upto]
theorem cM{j i:Int}:i∈upto j↔0<=i/\i<j:=by
 simp only[upto,fU,oL]
 constructor
 .rintro⟨a,h1,rfl⟩;omega
 rintro⟨h1,h2⟩;exact⟨i.toNat,J,J⟩
theorem abE{s:BitVec 64}{j:Int}(h0:0<=j)(h:(s>>>j.toNat)%2#64=1#64):r8 s j.toNat++[j]=r8 s (j+1).toNat:=by
 rw[show(j+1).toNat=j.toNat+1 by omega,K3,aQ ((Js s _).1 h),show((j.toNat:Nat):Int)=j by omega]
theorem ae5{s:BitVec 64}{j:Int}(h0:0<=j)(h:¬(s>>>j.toNat)%2#64=1#64):r8 s j.toNat=r8 s (j+1).toNat:=by
 rw[show(j+1).toNat=j.toNat+1 by omega,K3,aP (fun e=>h ((Js s _).2 e)),kV]
theorem OD{s:BitVec 64}{j:Int}(h:¬j<64)(h':j<=64):r8 s j.toNat=gf s:=by grind[r8,gf]
theorem dc{l:List Int}{k:Int}(h0:0<=k)(h:k<l.length):l.getD k.toNat 0∈l:=by grind
theorem Tj(a b:BitVec 64):dV a b=(gf a).all (hasB b ·):=by
 rw[gG,E9,iC]
 constructor
 .intro h i hi
  have:=(fQ a i).1 hi
  simp only[hasB,yP,cH,ep]at this⊢
  exact⟨this.1,h _ J this.2⟩
 intro h i hi ha
 have:=h i ((fQ a i).2 (by simp[hasB,yP,ha];omega))
 simp only[hasB,yP,cH,ep]at this
 simpa using this.2
def aDe(n:Int):BitVec 64:=if 1<=n/\n<=64 then below (n-1)else 0#64
theorem Tk{n k:Int}(h:(uD n k).2=true):1<=n/\n<=64/\0<=k/\k<n:=by grind[Bz]
theorem Xz{n k:Int}(h:(uD n k).2=false):¬(1<=n/\n<=64/\0<=k/\k<n):=by grind[ug]
theorem Tl{n k:Int}{s:BitVec 64}(h0:0<=k)(hi:(uD n k).2=true)(hne:¬(uD n k).1=s)(hf:n<=64->∀j:Int,0<=j->j<k->s≠below j):n<=64->∀j:Int,0<=j->j<k+1->s≠below j:=by grind[ug,Tk]
theorem Tm{n k:Int}{s:BitVec 64}(h0:0<=k)(hk:k<n)(hf:n<=64->∀j:Int,0<=j->j<k->s≠below j)(hi:(uD n k).2=false):n<=64->∀j:Int,0<=j->j<k+1->s≠below j:=by
 intro hn
 have:=Xz hi
 omega
theorem abF{n k:Int}{s:BitVec 64}(h0:0<=k)(hi:(uD n k).2=true)(hf:n<=64->∀j:Int,0<=j->j<k->s≠below j)(he:(uD n k).1=s):level n s=(k,true):=by grind[Tk,ug,K2]
theorem Dm{n k:Int}{s:BitVec 64}(h0:0<=k)(hk:k<=n\/k=0)(h6:k<=64)(hf:n<=64->∀j:Int,0<=j->j<k->s≠below j)(he:¬(k<n/\k<64)):level n s=(0,false):=by grind[Eh,K1]
theorem abG{j k:Int}(h0:0<=j)(hjk:j<k)(hk:k<=64):below k≠below j:=fun e=>by
 have:=aK (fun z=>BitVec.getLsbD z j.toNat) e
 simp only[eY]at this
 rw[gB J,gF J]at this
 cases this
theorem XA{n k:Int}(h:1<=n/\n<=64/\0<=k/\k<n):level n (uD n k).1=(k,true):=by grind[ug,K2,abG]
theorem ae6(i j:Int):below i|||below j=below (max i j):=eu fun k hk=>by
 rw[WJ,eY,eY,eY,gG];simp;omega
theorem abH(i j:Int):below i&&&below j=below (min i j):=eu fun k hk=>by
 rw[q9,eY,eY,eY,gG];simp;omega
def pop(s:BitVec 64):Int:=
 let x:=(s>>>1&&&6148914691236517205#64)+(s&&&6148914691236517205#64)
 let x:=(x>>>2&&&3689348814741910323#64)+(x&&&3689348814741910323#64)
 let x:=(x>>>4+x)&&&1085102592571150095#64
 let x:=x+x>>>8
 let x:=x+x>>>16
 let x:=x+x>>>32
 (x&&&127#64).toInt
theorem yQ:∀{l m:List Int},l.Pairwise (· <·)->m.Pairwise (· <·)->(∀x,x∈l↔x∈m)->l=m
 |[],[],_,_,_=>rfl
 |[],b::m,_,_,h=>by have:=(h b).2 az;simp at this
 |a::l,[],_,_,h=>by have:=(h a).1 az;simp at this
 |a::l,b::m,hl,hm,h=>by
  have hl':=lQ.1 hl
  have hm':=lQ.1 hm
  have hab:a=b:=by
   rcases cZ.1 ((h a).1 az)with h1|h1
   .exact h1
   rcases cZ.1 ((h b).2 az)with h2|h2
   .exact h2.symm
   have:=hm'.1 a h1;have:=hl'.1 b h2;omega
  subst hab
  congr 1
  refine yQ hl'.2 hm'.2 fun x=> ?_
  constructor
  .intro hx
   rcases cZ.1 ((h x).1 (fw _ hx))with h1|h1
   .have:=hl'.1 x hx;omega
   exact h1
  intro hx
  rcases cZ.1 ((h x).2 (fw _ hx))with h1|h1
  .have:=hm'.1 x hx;omega
  exact h1
theorem ry(s:BitVec 64):(gf s).Pairwise (· <·):=by grind[gf,r8,List.pairwise_lt_range]
theorem yR{s:BitVec 64}:gf s=[]↔s=0#64:=by
 constructor
 .intro h;rw[<-ak8 s,h,ZH]
 rintro rfl;simp[gf,r8]
def Low(s:BitVec 64)(j:Nat):Prop:=j<64/\s.getLsbD j=true/\∀i,i<j->s.getLsbD i=false
theorem XB{s:BitVec 64}(h:s≠0#64):∃j,Low s j:=by
 have hne:gf s≠[]:=fun e=>h (yR.1 e)
 obtain⟨a,l,e⟩:=List.exists_cons_of_ne_nil hne
 have ha:=(fQ s a).1 (by rw[e];simp)
 simp only[hasB,yP,cH,ep]at ha
 refine⟨a.toNat,J,ha.2,fun i hi=> ?_⟩
 cases hb:s.getLsbD i with
 |false=>rfl
 |true=>
  have hm:=(fQ s (i:Int)).2 (by simp[hasB,yP,hb];omega)
  rw[e]at hm
  have hs:=ry s
  rw[e]at hs
  rcases cZ.1 hm with h1|h1
  .omega
  have:=(lQ.1 hs).1 _ h1;omega
theorem ae7{s:BitVec 64}{j:Nat}(h:Low s j):∃m,s.toNat=2^j*(2*m+1):=by
 obtain⟨hj,hb,hz⟩:=h
 have h1:s.toNat%2^j=0:=by
  apply Nat.eq_of_testBit_eq
  intro i
  rw[Nat.testBit_mod_two_pow,Nat.zero_testBit]
  by_cases hi:i<j
  .have:=hz i hi;rw[BitVec.getLsbD]at this;simp[this]
  simp[hi]
 have h2:s.toNat/2^j%2=1:=by
  rw[BitVec.getLsbD,Nat.testBit_eq_decide_div_mod_eq]at hb
  simpa using hb
 refine⟨s.toNat/2^j/2,?_⟩
 have h3:=WU s.toNat (2^j)
 have h4:=WU (s.toNat/2^j) 2
 rw[h2]at h4
 rw[h4];omega
theorem Ip{s:BitVec 64}{j:Nat}(h:Low s j){i:Nat}(hi:i<64):(s-1#64).getLsbD i=if i<j then true else if i=j then false else s.getLsbD i:=by
 obtain⟨m,hm⟩:=ae7 h
 have hp:0<2^j:=Nat.two_pow_pos j
 have hlt:=s.isLt
 have h1:(s-1#64).toNat=2^j*(2*m)+(2^j-1):=by
  rw[Qt]
  have e:(1#64).toNat=1:=rfl
  have e2:2^j*(2*m+1)=2^j*(2*m)+2^j:=by rw[Nat.mul_add,kP]
  rw[e];omega
 rw[BitVec.getLsbD,h1,aed _ J]
 by_cases h2:i<j
 .rw[aQ h2,aQ h2,aec];simp[h2]
 rw[aP h2,aP h2]
 by_cases h3:i=j
 .subst h3;rw[aQ O,QE];simp
 rw[aP h3,BitVec.getLsbD,hm]
 have e2:2^j*(2*m+1)=2^j*(2*m+1)+0:=J
 rw[e2,aed _ hp,aP h2]
 obtain⟨k,hk⟩:∃k,i-j=k+1:=⟨i-j-1,J⟩
 rw[hk,Nat.testBit_succ,Nat.testBit_succ]
 congr 1;omega
theorem G1{s:BitVec 64}{j:Nat}(h:Low s j){i:Nat}(hi:i<64):(s&&&(s-1#64)).getLsbD i=(s.getLsbD i&& !decide (i=j)):=by grind[Low,Ip]
theorem alc{s:BitVec 64}{j:Nat}(h:Low s j):gf s=(j:Int)::gf (s&&&(s-1#64)):=by
 refine yQ (ry s) (lQ.2 ⟨fun x hx=> ?_,ry _⟩) fun x=> ?_
 .have:=(fQ _ x).1 hx
  simp only[hasB,yP,cH,ep]at this
  obtain⟨⟨h0,h1⟩,h2⟩:=this
  rw[G1 h J]at h2
  simp only[cH,A8,wg]at h2
  rcases Nat.lt_or_ge x.toNat j with hlt|hge
  .rw[h.2.2 _ hlt]at h2;cases h2.1
  omega
 rw[fQ,cZ,fQ]
 simp only[hasB,yP,cH,ep]
 constructor
 .rintro⟨h1,h2⟩
  by_cases hx:x=j
  .exact .inl hx
  refine .inr ⟨h1,?_⟩
  rw[G1 h J,h2];simp;omega
 rintro(rfl|⟨h1,h2⟩)
 .have:=h.1;exact⟨J,by simpa using h.2.1⟩
 rw[G1 h J]at h2
 simp only[cH]at h2
 exact⟨h1,h2.1⟩
theorem ald{s:BitVec 64}{j:Nat}(h:Low s j):s&&& -s=1#64<<<j:=by
 have hn: -s= ~~~(s-1#64):=by
  apply Gn
  rw[BitVec.toNat_neg,BitVec.toNat_not,Qt]
  have e:(1#64).toNat=1:=rfl
  have:=s.isLt
  rw[e];omega
 refine eu fun i hi=> ?_
 rw[hn,q9,Qo,Ip h hi,mr]
 by_cases h1:i<j
 .rw[aQ h1,h.2.2 i h1];simp;omega
 rw[aP h1]
 by_cases h2:i=j
 .rw[aQ h2,h2,h.2.1];simp
 rw[aP h2];cases s.getLsbD i<;>simp[h2]
def zZ:List Int:=[0,1,56,2,57,49,28,3,61,58,42,50,38,29,17,4,62,47,59,36,45,43,51,22,53,39,33,30,24,18,12,5,63,55,48,27,60,41,37,16,46,35,44,21,52,32,23,11,54,26,40,15,34,20,31,10,25,14,19,9,13,8,7,6]
def tz(s:BitVec 64):Int:=if s=0#64 then 64 else zZ.getD (((s&&& -s)*285870213051353865#64)>>>58).toNat 0
theorem ae8(x:BitVec 64):0<=((x>>>58).toNat:Int)/\((x>>>58).toNat:Int)<(64:Nat):=by
 have:(x>>>58).toNat<64:=by
  rw[Wn,aeg]
  have:=x.isLt
  omega
 omega
theorem aqS{s:BitVec 64}{j:Nat}(h:Low s j):tz s=j:=by
 have hne:s≠0#64:=fun e=>by have:=h.2.1;rw[e]at this;simp at this
 rw[tz,aP hne,ald h]
 have key:∀k:Fin 64,zZ.getD (((1#64<<<k.val)*285870213051353865#64)>>>58).toNat 0=(k.val:Int):=by decide+kernel
 exact key ⟨j,h.1⟩
theorem Q4{s:BitVec 64}(h:s≠0#64):gf s=tz s::gf (s&&&(s-1#64)):=by
 obtain⟨j,hj⟩:=XB h
 rw[aqS hj];exact alc hj
theorem Q5{s:BitVec 64}(h:s≠0#64):(gf (s&&&(s-1#64))).length<(gf s).length:=by
 rw[Q4 h];simp
def avY:List Nat->Nat
 |[]=>0
 |d::r=>2^8*avY r+d
def aNY(x:Nat):List Nat:=[x%256,x/256%256,x/65536%256,x/16777216%256,x/4294967296%256,x/1099511627776%256,x/281474976710656%256,x/72057594037927936%256]
def g1(d:Nat):Nat:=((d>>>1)&&&85)+(d&&&85)
def g2(d:Nat):Nat:=((d>>>2)&&&51)+(d&&&51)
def pc8(d:Nat):Nat:=(List.range 8).countP d.testBit
def aNZ(s:BitVec 64)(k:Int):Int×Bool:=if 0<=k/\k<(gf s).length then((gf s).getD k.toNat 0,true)else(0,false)
def kAt(k:Int)(n:Nat):Int:=if k-n< -9223372036854775808 then k-n+18446744073709551616 else k-n
theorem avZ{s:BitVec 64}(h:s≠0#64):zZ.getD (((s&&& -s)*285870213051353865#64)>>>58).toNat 0=tz s:=by rw[tz,aP h]
theorem ale{a b:BitVec 64}{k:Int}(h0:0<=k)(hk:k<(gf a).length)(h:(!hasB b ((gf a).getD k.toNat 0))=true):dV a b=false:=by grind[Tj,gf]
theorem ae9{a b:BitVec 64}(hf:∀j:Int,0<=j->j<(gf a).length->hasB b ((gf a).getD j.toNat 0)=true):dV a b=true:=by
 rw[Tj,iC]
 intro x hx
 obtain⟨i,hi,rfl⟩:=sX hx
 have:=hf i J J
 simpa[eE,hi]using this
def aDf(s:BitVec 64):Int×Bool:=if s=0#64 then(0,false)else(tz s,true)
theorem G2(a b:BitVec 64):dV a (a|||b)=true:=by grind[E9]
theorem Fb(a b:BitVec 64):dV (a&&&b) a=true:=by grind[E9]
end Go.Proofs.YtlhjdflgjbkpmaaGreatDoor.M
namespace Go.Proofs.YtlhjdflgjbkpmaaGreatDoor.E
section
open Go Go.RowKit Go.Proofs.YtlhjdflgjbkpmaaGreatDoor.M
def oh(w:World):Prop:=∀j,j<64->w.cell? ⟨0,j,none⟩=some (.int .u8 (zZ.getD j 0))
theorem oh.below{w w':World}(h:oh w)(hb:Below w.heap.size w w'):oh w':=fun j hj=>by
 have h1:=h j hj
 rw[hb.cell (World.block_lt_of_cell? w _ h1)];exact h1
theorem oh.hp{w0 w:World}{L:List a8}(h:oh w0)(hH:Hp w0 w L):oh w:=h.below hH.below
theorem oh.at{w:World}(h:oh w)(x:BitVec 64):w.cell? ⟨0,0+(((x>>>58).toNat:Int)).toNat*1,none⟩=some (.int .u8 (zZ.getD (x>>>58).toNat 0)):=by
 have h2:=h (x>>>58).toNat (by have:=ae8 x;omega)
 generalize(x>>>58).toNat=j at*
 simpa using h2
theorem afa(j:Nat):0<=zZ.getD j 0/\zZ.getD j 0<=63:=by
 by_cases h:j<64
 .have key:∀k:Fin 64,0<=zZ.getD k.val 0/\zZ.getD k.val 0<=63:=by decide+kernel
  exact key ⟨j,h⟩
 have:zZ.getD j 0=0:=by
  rw[eE,mX (by simp[zZ];omega)];rfl
 omega
theorem alf{x:Int}(h:0<=x/\x<=63): -9223372036854775808<=x/\x<=9223372036854775807:=J
theorem Hp.Ei{w0 w:World}{L:List a8}{b:Nat}{c:List Value}{e:TypeId}(h:Hp w0 w (.blk b (.cells c.toArray e (0,0))::L))(n sz:Nat)(hc:c.length=n*sz)(hn:n<=maxLen):
  Hp w0 w (.row (.slice (some ⟨b,0,none⟩) n n) e sz n c::L):=by
 refine⟨h.below,fun x hx=> ?_,?_⟩
 .rcases cZ.1 hx with rfl|hx
  .have h1:=h.ok _ (tG ..)
   exact⟨hc,.inr ⟨b,n,c.toArray,rfl,h1.1,h1.2,eG _,hn,by simpa using hc,by simp[<-hc]⟩⟩
  exact h.ok x (fw _ hx)
 exact List.Pairwise.cons (fun y hy=>(lQ.1 h.KU).1 y hy) (lQ.1 h.KU).2
section drawn
variable{P:Program}{n:Nat}{l:List Oper}{S:World->Prop}{k:K}{xs:List (Nat×K)}{r:K}{σ:Env}{w w0:World}{L L' V9:List a8}{fuel i d:Nat}{listed:Array Bool}{op:Op}{ty:TypeId}{pos:String}{bJ:Array Edge}{g:Option (Nat×Bool)}{v:Value}{dst:Option Tmp}
theorem gY{id:Nat}(hm:P.follows .mixedOrders=true)(hH:Hp w0 w L)(hs:L'.Sublist L)
  (h:∀w',Hp w0 w' L->AN P n l (fun w=>Hp w0 w L') k l.length (Array.replicate l.length false) σ w'):CW P n (.region id l.toArray true) k xs r σ w:=by
 intro a ha
 refine yF (fun e a' w' hq=> ?_) (W3 (id:=id) (Q:=qX n k) hm (W4 (S:=fun w=>Hp w0 w L') _ _ _ _ ?_))
 .cases e with
  |normal=>exact hq
  |exit id=>exact hq.elim
  |ret=>exact hq.elim
  |goto l=>exact hq.elim
  |panic c=>exact hq.elim
  |outgrown=>exact hq.elim
 have:=h _ hH.drew a ha
 simpa using this
theorem iy(i j:Nat)(hr:Region.ready .any l.toArray listed=[i,j])(h1:AO P n l S k fuel listed σ w i)(h2:AO P n l S k fuel listed σ w j):AN P n l S k (fuel+1) listed σ w:=by simp_all[aeZ]
theorem cf(hi:l[i]?=some ⟨some d,op,ty,pos,bJ,g⟩)(hg:∀a,Is n σ a->Region.wanted ⟨some d,op,ty,pos,bJ,g⟩ (yielded l.toArray a.tmps)=true)(hd:Nat.blt d n=true)
  (hH:Hp w0 w V9) (hs:L'.Sublist V9) (hr:(execOp (ev σ) ⟨some d,op,ty,pos,bJ,g⟩).run P w= .ok (.value v) w)
  (h:AN P n l (fun w=>Hp w0 w L') k fuel (listed.setIfInBounds i true) (k7 σ d v) w):AO P n l (fun w=>Hp w0 w L') k fuel listed σ w i:=
 Bu hi hg hd hr (hH.sub hs) h
theorem ec{j b:Nat}{c c':Array Value}{e:TypeId}(hi:l[i]?=some ⟨none,op,ty,pos,bJ,g⟩)(hg:∀a,Is n σ a->Region.wanted ⟨none,op,ty,pos,bJ,g⟩ (yielded l.toArray a.tmps)=true)
  (hH:Hp w0 w V9) (hj:V9[j]?=some (.blk b (.cells c e (0,0)))) (hs:L'.Sublist (V9.set j (.blk b (.cells c' e (0,0)))))
  (hr:(execOp (ev σ) ⟨none,op,ty,pos,bJ,g⟩).run P w= .ok .skip (w.setRow b c'))
  (h:∀w',Hp w0 w' (V9.set j (.blk b (.cells c' e (0,0))))->AN P n l (fun w=>Hp w0 w L') k fuel (listed.setIfInBounds i true) σ w'):AO P n l (fun w=>Hp w0 w L') k fuel listed σ w i:=
 KW hi hg hr ((hH.set hj).sub hs) (h _ (hH.set hj))
end drawn
theorem aS{w:World}{base:Nat}{e:TypeId}{sz n:Nat}{v:Value}{xs:List Value}(h:w.ownsRow base e sz v n xs):v.cells=#[v]/\v.oneCell'=true:=by
 rcases h.2 with⟨rfl,_⟩|⟨g,cap,cur,rfl,_⟩<;>exact⟨rfl,rfl⟩
theorem Sl.conv{w:World}{v:Value}{sz n n':Nat}{c c':List Value}(h:Sl w v sz n c)(hn:n=n')(hc:c=c'):Sl w v sz n' c':=by subst hn hc;exact h
def kS(v:Value)(k:Nat):Value:=
 match v with
 | .slice a _ c=> .slice a k c
 |v=>v
theorem Sl.cut{w:World}{v:Value}{sz n:Nat}{cells:List Value}(h:Sl w v sz n cells)(k:Nat)(hk:k<=n):Sl w (kS v k) sz k (cells.take (k*sz)):=by
 obtain⟨a,cap,hv,hnc,ha⟩:=h.shape
 subst hv
 have e1:sb (.slice a k cap)=sb (.slice a n cap):=by cases a<;>rfl
 have e2:so (.slice a k cap)=so (.slice a n cap):=by cases a<;>rfl
 refine⟨⟨a,cap,rfl,J,fun h0=> ?_⟩,?_,fun j c hc=> ?_,jP hk h.small⟩
 .show a=some ⟨sb (.slice a k cap),so (.slice a k cap),none⟩
  rw[e1,e2];exact ha J
 .rw[eo,h.len];exact qW (qV _ hk)
 show w.cell? ⟨sb (.slice a k cap),so (.slice a k cap)+j,none⟩=some c
 rw[e1,e2]
 rw[uo]at hc
 split at hc
 .exact h.cell j c hc
 .cases hc
theorem Sl.av0{w:World}{v:Value}{xs:List Int}{n:Int}(h:Sl w v 1 xs.length (xs.map I))(hn:0<=n/\n<=xs.length):Sl w (kS v n.toNat) 1 (xs.take n.toNat).length ((xs.take n.toNat).map I):=
 (h.cut n.toNat J).conv (by rw[eo];omega) (by rw[kP,wY])
section afb
variable{P:Program}{σ:Env}{w:World}{dst:Option Tmp}{ty t:TypeId}{pos:String}{bJ:Array Edge}{g:Option (Nat×Bool)}{x y:Operand}{v:Value}{sz n:Nat}{cells:List Value}{k:IntKind}{i:Int}
theorem tT{e:TypeId}(hS:Sl w v sz n cells)(hu:P.underlying t=some (.slice e))(hs:∀w,(sizeOf e).run P w= .ok sz w)(hx:ev σ x=v)(hy:ev σ y= .int k i)(hi:0<=i/\i<=n):
  (execOp (ev σ) ⟨dst,.slice t x none (some y) none,ty,pos,bJ,g⟩).run P w= .ok (.value (kS v i.toNat)) w:=by
 obtain⟨a,cap,hv,hnc,ha⟩:=hS.shape
 subst hv
 have h1:0<=i/\i<=(cap:Int):=J
 have h2:(Instr.slice t (.slice a n cap) none (some (.int k i)) none).run P w= .ok (.slice a i.toNat cap) w:=by
  simp[Instr.slice,Instr.sliceBounds,Instr.sliceBound,jr hu,asIntOf,h1,hs]
  intro h;cases a<;>rfl
 have h3:(Instr.sliceAt t (.slice a n cap) none (some (.int k i)) none).run P w= .ok (.slice a i.toNat cap) w:=by
  simp[Instr.sliceAt,jr hu,h2]
 simp[execOp,hx,hy,h3,kS]
end afb
end
end Go.Proofs.YtlhjdflgjbkpmaaGreatDoor.E
namespace Go.Proofs.YtlhjdflgjbkpmaaGreatDoor.M
theorem nt{b:Bool}(h:(!b)=true):b=false:=by cases b;rfl;cases h
theorem nf{b:Bool}(h:(!b)=false):b=true:=by cases b;cases h;rfl
structure Rl where
 n:Int
 up:Nat->BitVec 64
def Rl.put(r:Rl)(i:Nat)(x:BitVec 64):Rl:=⟨r.n,fun j=>if j=i then x else r.up j⟩
def Rl.eq(a b:Rl):Prop:=a.n=b.n/\∀i,i<64->a.up i=b.up i
instance(a b:Rl):Decidable (a.eq b):=inferInstanceAs (Decidable (a.n=b.n/\∀i,i<64->a.up i=b.up i))
def Rl.none:Rl:=⟨0,fun _=>0#64⟩
def pts(r:Rl):Int:=max 0 (min r.n 64)
theorem dB(r:Rl):0<=pts r/\pts r<=64:=by unfold pts;omega
def Ar(r:Rl)(i:Int):Bool:=decide (0<=i/\i<pts r)
def bI(r:Rl)(i j:Int):Bool:=Ar r i&&Ar r j&&(r.up i.toNat).getLsbD j.toNat
theorem qm{r:Rl}{i:Int}:Ar r i=true↔0<=i/\i<pts r:=by simp[Ar]
theorem aqT{r:Rl}{i:Int}(h:Ar r i=true):0<=i/\i<64:=by have:=dB r;have:=qm.1 h;omega
theorem afc{r:Rl}{i:Int}(h:Ar r i=true):yP i=true:=by grind[aqT,yP]
theorem alg{r:Rl}{i j:Int}(hi:Ar r i=true)(hj:Ar r j=true):hasB (r.up i.toNat) j=bI r i j:=by grind[bI,hasB,afc]
theorem Jt{r:Rl}{i j:Int}(hi:Ar r i=false):bI r i j=false:=by rw[bI,hi];rfl
theorem Q6{r:Rl}{i j:Int}(hj:Ar r j=false):bI r i j=false:=by rw[bI,hj];simp
theorem alh{r:Rl}{i j:Int}(hi:0<=i)(hj:0<=j)(hi2:i<pts r)(hj2:j<pts r):decide ((r.up i.toNat>>>(BitVec.ofInt 64 j).toNat)%2#64=1#64)=bI r i j:=by grind[Rl,pts,bI,dB,alg,qm,hasB,afc,m7,Js]
theorem Ju{r:Rl}{i j:Int}(h:¬(0<=i/\0<=j/\i<pts r/\j<pts r)):bI r i j=false:=by grind[bI,Ar,qm]
def uF(r:Rl)(i:Int):BitVec 64:=r.up i.toNat&&&below (pts r)
def yS(r:Rl)(i:Int):BitVec 64:=ae3 (uF r i) i
def Dn(n:Int)(f:Nat->BitVec 64)(k:Int):Rl:=⟨n,fun i=>if(i:Int)<k then f i else 0#64⟩
theorem xh{n:Int}{f h:Nat->BitVec 64}(e:∀i,f i=h i):(⟨n,f⟩:Rl)=⟨n,h⟩:=by rw[show f=h from funext e]
theorem G3(n:Int)(f:Nat->BitVec 64):(⟨n,fun _=>0#64⟩:Rl)=Dn n f 0:=by grind[Rl,Dn,xh]
theorem K5{n:Int}{f:Nat->BitVec 64}{k:Int}{x:BitVec 64}(h:0<=k)(hx:x=f k.toNat):(Dn n f k).put k.toNat x=Dn n f (k+1):=xh fun i=>by
 show(if i=k.toNat then x else if(i:Int)<k then f i else 0#64)=if(i:Int)<k+1 then f i else 0#64
 by_cases h1:i=k.toNat
 .subst h1;rw[aQ O,aQ J,hx]
 rw[aP h1]
 by_cases h2:(i:Int)<k
 .rw[aQ h2,aQ J]
 rw[aP h2,aP J]
def ew(r:Rl):Rl:=Dn (pts r) (fun i=>uF r i) (pts r)
theorem ZI(r:Rl)(i:Int)(j:Nat):(uF r i).getLsbD j=((r.up i.toNat).getLsbD j&&decide (j<64/\(j:Int)<pts r)):=by grind[uF,eY]
theorem tU(r:Rl){i:Int}(hi:0<=i/\i<pts r)(j:Nat):(uF r i).getLsbD j=bI r i j:=by grind[dB,ZI,bI,qm,Ar,pts]
def qo(r:Rl)(i k:Int):List Int:=(upto k).filter (bI r i ·)
theorem abI{r:Rl}{i k:Int}(h0:0<=k)(h:bI r i k=true):qo r i k++[k]=qo r i (k+1):=by grind[qo,kC]
theorem abJ{r:Rl}{i k:Int}(h0:0<=k)(h:bI r i k=false):qo r i k=qo r i (k+1):=by grind[qo,kC]
theorem OE{r:Rl}{i k:Int}:(qo r i k).length<=k.toNat:=by grind[Rl,qo,bI,upto,r9]
theorem abK{r:Rl}{i:Int}(hi:0<=i/\i<pts r):kH (qo r i (pts r))=uF r i:=eu fun j hj=>by
 rw[gJ,tU r hi,gB hj,lU,gG]
 simp only[qo,DX,ep,wW,cM]
 refine⟨fun h=>h.2,fun h=>⟨?_,h⟩⟩
 have:Ar r j=true:=by
  simp only[bI,cH]at h;exact h.1.2
 exact qm.1 this
def wh(f:Int->BitVec 64)(l:List Int):BitVec 64:=l.foldl (fun a i=>a|||f i) 0#64
theorem K6{f:Int->BitVec 64}{l:List Int}{k:Int}(h0:0<=k)(h:k<l.length):wh f (l.take k.toNat)|||f (l.getD k.toNat 0)=wh f (l.take (k+1).toNat):=by grind[OC,wh]
theorem Tn(f:Int->BitVec 64):∀(l:List Int) (a:BitVec 64) (j:Nat),(l.foldl (fun a i=>a|||f i) a).getLsbD j=(a.getLsbD j||l.any fun i=>(f i).getLsbD j)
 |[],a,j=>by simp
 |i::l,a,j=>by rw[r5,Tn f l,WJ,List.any_cons,Bool.or_assoc]
theorem G4(f:Int->BitVec 64)(l:List Int)(j:Nat):(wh f l).getLsbD j=l.any fun i=>(f i).getLsbD j:=by rw[wh,Tn];simp
theorem XC{s:BitVec 64}{k:Int}(h0:0<=k)(h:k<(gf s).length):hasB s ((gf s).getD k.toNat 0)=true:=by grind[fQ,List.getElem?_eq_getElem,List.getElem_mem]
theorem yT{s:BitVec 64}{i:Int}(h:hasB s i=true):0<=i/\i<64:=by grind[hasB,yP]
theorem OF{s:BitVec 64}{k:Int}(h0:0<=k)(h:k<(gf s).length):0<=(gf s).getD k.toNat 0/\(gf s).getD k.toNat 0<64:=yT (XC h0 h)
def upR(r:Rl)(s:BitVec 64):BitVec 64:=wh (uF r) (gf (s&&&below (pts r)))
def xj(r:Rl)(s:BitVec 64)(k:Int):BitVec 64:=m8 (fun i=>decide (uF r i&&&s≠0#64)) k.toNat
def Dp(r:Rl)(s:BitVec 64):BitVec 64:=xj r s (pts r)
theorem afe{p:Nat->Bool}{k:Int}(h0:0<=k)(hk:k<64)(h:p k.toNat=true):uE (m8 p k.toNat) k=m8 p (k+1).toNat:=eu fun j hj=>by
 rw[xg,jY,jY]
 by_cases h1:(j:Int)=k
 .have:j=k.toNat:=J
  subst this
  have h2:k.toNat<(k+1).toNat:=J
  rw[gB h2,gB hj,gB h1,h];simp
 have h3:(j<k.toNat)↔(j<(k+1).toNat):=J
 rw[gF h1,show decide (j<k.toNat)=decide (j<(k+1).toNat)from Qv.2 h3];simp
theorem aff{p:Nat->Bool}{k:Int}(h0:0<=k)(h:p k.toNat=false):m8 p k.toNat=m8 p (k+1).toNat:=eu fun j hj=>by
 rw[jY,jY]
 by_cases h1:j=k.toNat
 .subst h1;rw[h];simp
 have h3:(j<k.toNat)↔(j<(k+1).toNat):=J
 rw[show decide (j<k.toNat)=decide (j<(k+1).toNat)from Qv.2 h3]
theorem afg{r:Rl}{s:BitVec 64}{k:Int}(h0:0<=k)(hk:k<64)(h:uF r k&&&s≠0#64):uE (xj r s k) k=xj r s (k+1):=by grind[Rl,uF,uE,xj,afe]
theorem afh{r:Rl}{s:BitVec 64}{k:Int}(h0:0<=k)(h:¬uF r k&&&s≠0#64):xj r s k=xj r s (k+1):=by grind[Rl,uF,xj,aff]
def pq(u:Nat->BitVec 64)(k:Int):Nat->BitVec 64:=fun i=>if(i:Int)<k then uE (u i) i else u i
theorem abL(n:Int)(u:Nat->BitVec 64):(⟨n,u⟩:Rl)=⟨n,pq u 0⟩:=by grind[Rl,pq,xh]
theorem afi{n k:Int}{u:Nat->BitVec 64}(h0:0<=k):Rl.put ⟨n,pq u k⟩ k.toNat (uE (pq u k k.toNat) k)=⟨n,pq u (k+1)⟩:=xh fun i=>by
 show(if i=k.toNat then uE (pq u k k.toNat) k else pq u k i)=pq u (k+1) i
 unfold pq
 by_cases h1:i=k.toNat
 .subst h1
  rw[aQ O,aP J,aQ J,fN h0]
 rw[aP h1]
 by_cases h2:(i:Int)<k
 .rw[aQ h2,aQ J]
 rw[aP h2,aP J]
def jD(m:Nat)(k:Int)(u:Nat->BitVec 64):Nat->BitVec 64:=fun i=>if(i:Int)<k/\(u i).getLsbD m=true then u i|||u m else u i
theorem abM(m:Nat)(n:Int)(u:Nat->BitVec 64):(⟨n,u⟩:Rl)=⟨n,jD m 0 u⟩:=by grind[Rl,jD,xh]
theorem afj(m:Nat)(k:Int)(u:Nat->BitVec 64):jD m k u m=u m:=by grind[jD]
theorem To{n m k:Int}{u:Nat->BitVec 64}(m0:0<=m)(h0:0<=k)(h:hasB (jD m.toNat k u k.toNat) m=true):
  Rl.put ⟨n,jD m.toNat k u⟩ k.toNat (jD m.toNat k u k.toNat|||jD m.toNat k u m.toNat)=⟨n,jD m.toNat (k+1) u⟩:=xh fun i=>by
 rw[hasB,cH]at h
 have e:jD m.toNat k u k.toNat=u k.toNat:=aP J
 rw[e]at h⊢
 rw[afj]
 show(if i=k.toNat then u k.toNat|||u m.toNat else jD m.toNat k u i)=jD m.toNat (k+1) u i
 unfold jD
 by_cases h1:i=k.toNat
 .subst h1
  rw[aQ O,aQ ⟨J,h.2⟩]
 rw[aP h1]
 have:((i:Int)<k)↔((i:Int)<k+1):=J
 simp only[this]
theorem afk{n m k:Int}{u:Nat->BitVec 64}(m0:0<=m/\m<64)(h0:0<=k)(h:hasB (jD m.toNat k u k.toNat) m=false):(⟨n,jD m.toNat k u⟩:Rl)=⟨n,jD m.toNat (k+1) u⟩:=by grind[xh,jD,hasB,yP]
def wall(n:Int)(u:Nat->BitVec 64):Nat->Nat->BitVec 64
 |0=>u
 |m+1=>jD m n (wall n u m)
theorem abN{n m:Int}{u:Nat->BitVec 64}(h:0<=m):(⟨n,jD m.toNat n (wall n u m.toNat)⟩:Rl)=⟨n,wall n u (m+1).toNat⟩:=by
 rw[show(m+1).toNat=m.toNat+1 by omega];rfl
def iQ(r:Rl):Rl:=⟨pts r,wall (pts r) (pq (ew r).up (pts r)) (pts r).toNat⟩
theorem aqU{l:List Int}{x k:Int}(h0:0<=k)(h:k<l.length)(e:l.getD k.toNat 0=x):l.contains x=true:=by grind
theorem av1{l:List Int}{x:Int}(hf:∀j:Int,0<=j->j<l.length->l.getD j.toNat 0≠x):l.contains x=false:=by
 rw[DX,wg]
 intro h
 obtain⟨i,hi,rfl⟩:=sX h
 refine hf i J J ?_
 simp[eE,hi]
end Go.Proofs.YtlhjdflgjbkpmaaGreatDoor.M
namespace Go.Proofs.YtlhjdflgjbkpmaaGreatDoor.E
section
open Go Go.RowKit Go.Proofs.YtlhjdflgjbkpmaaGreatDoor.M
def vG(r:Rl):List Value:=I r.n::(List.range 64).map fun i=>U (r.up i)
@[irreducible] def dM(r:Rl):Array Value:=(vG r).toArray
theorem iR(r:Rl):dM r=(vG r).toArray:=by unfold dM;rfl
theorem oN(r:Rl):(vG r).length=65:=by simp[vG]
theorem GO(r:Rl):(dM r).size=65:=by rw[iR];simp[vG]
theorem fF(r:Rl):(dM r)[0]?=some (I r.n):=by rw[iR];simp[vG]
theorem wj(r:Rl){i:Nat}(h:i<64):(dM r)[0+1+i*1]?=some (U (r.up i)):=by
 rw[iR,show 0+1+i*1=i+1 by omega];simp[vG,h]
theorem K7(r:Rl):∀u∈dM r,u.oneCell'=true:=by
 rw[iR];simp[vG]
 exact⟨rfl,fun _ _=>rfl⟩
theorem xN(r:Rl)(i:Nat)(x:BitVec 64):(dM r).setIfInBounds (0+1+i*1) (U x)=dM (r.put i x):=by
 rw[iR,iR]
 apply WD
 intro j
 rw[Dk]
 simp only[Gp,ur,oN]
 cases j with
 |zero=>
  rw[aP J]
  simp[vG,Rl.put]
 |succ j=>
  simp only[vG,List.getElem?_cons_succ,p5]
  by_cases h:i=j
  .subst h
   rw[aQ J]
   by_cases h2:i<64
   .rw[aQ J];simp[h2,Rl.put]
   rw[aP J];simp[h2]
  rw[aP J]
  by_cases h2:j<64
  .have h3:¬j=i:=fun e=>h e.symm
   simp[h2,Rl.put,h3]
  simp[h2]
section runs
variable{P:Program}{σ:Env}{w:World}{dst:Option Tmp}{ty t u:TypeId}{pos:String}{bJ:Array Edge}{g:Option (Nat×Bool)}{x y:Operand}{b:Nat}{e:TypeId}{r:Rl}{fr:Nat×Nat}
theorem dO{ps:List (Nat×Operand)}{vs:List (Nat×Value)}{cells:Array Value}(h:ps.map (fun p=>(p.1,ev σ p.2))=vs)(hb:P.built t vs=some cells):
 (execOp (ev σ) ⟨dst,.build t ps.toArray,ty,pos,bJ,g⟩).run P w= .ok (.value (.agg cells)) w:=Go.Proofs.YtlhjdflgjbkpmaaGreatDoor.E.run_build h hb
theorem bp{c:List Value}(hg:w.heap[b]?=some (.cells c.toArray e fr)):w.rangeAt b 0 c:=fun j v hj=>by
 unfold World.cell?
 simp only[hg]
 simpa using hj
theorem aO{d:TypeDesc}(hu:P.underlying t=some d)(hd:d.isRow=true)(hi:(P.info? t).map (·.size)=some 65)(hx:ev σ x= .pointer (some ⟨b,0,none⟩))
 (hg:w.heap[b]?=some (.cells (dM r) e fr)):(execOp (ev σ) ⟨dst,.load t x,ty,pos,bJ,g⟩).run P w= .ok (.value (.agg (dM r))) w:=by grind[iR,cN,oN,bp]
theorem nX{r0:Rl}(hi:(P.info? t).map (·.size)=some 65)(hx:ev σ x= .pointer (some ⟨b,0,none⟩))(hy:ev σ y= .agg (dM r))(hg:w.heap[b]?=some (.cells (dM r0) e (0,0))):
 (execOp (ev σ) ⟨dst,.store t x y,ty,pos,bJ,g⟩).run P w= .ok .skip (w.setRow b (dM r)):=by grind[eC,GO,K7]
theorem aDg(a b:BitVec 64):(((a.toNat:Nat):Int)==((b.toNat:Nat):Int))=decide (a=b):=by grind[BitVec.eq_of_toNat_eq]
theorem aom(d:Nat){t e:TypeId}{len:Nat}(f h:Nat->BitVec 64)(hu:P.underlying t=some (.array len e))(he:P.underlying e=some (.int .u64))(hs:∀w,(sizeOf e).run P w= .ok 1 w)(ha:∀w,(isAgg e).run P w= .ok false w):
  (Op.equalIn (d+1+1) t (.agg ((List.range len).map fun i=>U (f i)).toArray) (.agg ((List.range len).map fun i=>U (h i)).toArray)).run P w= .ok (decide (∀i,i<len->f i=h i)) w:=by
 unfold Op.equalIn
 simp only[o9,jr hu,wT,hs]
 rw[Std.Legacy.Range.forIn_eq_forIn_range']
 have key:∀(n s:Nat),s+n<=len->(Sem.run P (forIn (List.range' s n 1) ((none:Option Bool),()) fun i __s=>do
      let __do_lift<-part e (List.map (fun i=>U (f i)) (List.range len)).toArray (i*1)
      let Tp<-part e (List.map (fun i=>U (h i)) (List.range len)).toArray (i*1)
      let __do_lift<-Op.equalIn (d+1) e __do_lift Tp
      if(!__do_lift)=true then pure (ForInStep.done (some false,()))else pure (ForInStep.yield (none,()))) w)
   = .ok (if∀i,i<n->f (s+i)=h (s+i)then(none,())else(some false,())) w:=by
  intro n
  induction n with
  |zero=>
   intro s hs2
   have:∀i,i<0->f (s+i)=h (s+i):=fun i b=>by omega
   rw[aQ this];rfl
  |succ n ih=>
   intro s hs2
   have hp:∀g:Nat->BitVec 64,(part e (List.map (fun i=>U (g i)) (List.range len)).toArray (s*1)).run P w= .ok (U (g s)) w:=fun g=>by
    simp[part,ha,show s<len by omega]
   rw[List.range'_succ,List.forIn_cons]
   simp only[o9,hp,wT,Qx w d e .u64 .u64 _ _ he,aDg]
   by_cases h1:f s=h s
   .rw[gB h1]
    simp only[Bool.not_true,rZ,xd,Sem.run_pure,wT]
    rw[ih (s+1) J]
    by_cases h2:∀i,i<n->f (s+1+i)=h (s+1+i)
    .have h3:∀i,i<n+1->f (s+i)=h (s+i):=fun i a=>by
      cases i with
      |zero=>exact h1
      |succ i=>have:=h2 i J;rwa[show s+1+i=s+(i+1)by omega]at this
     rw[aQ h2,aQ h3]
    have h3:¬∀i,i<n+1->f (s+i)=h (s+i):=fun h3=>h2 fun i a=>by
     have:=h3 (i+1) J;rwa[show s+(i+1)=s+1+i by omega]at this
    rw[aP h2,aP h3]
   rw[gF h1]
   have h3:¬∀i,i<n+1->f (s+i)=h (s+i):=fun h3=>h1 (h3 0 J)
   rw[aP h3]
   simp only[Bool.not_false,s5,Sem.run_pure,wT]
 have k2:=key len 0 J
 have e0:(Std.Legacy.Range.mk 0 len 1 aD).size=len:=by simp[Std.Legacy.Range.size]
 simp only[e0]
 rw[k2]
 by_cases h2:∀i,i<len->f i=h i
 .have h3:∀i,i<len->f (0+i)=h (0+i):=fun i b=>by rw[fg];exact h2 i b
  rw[aQ h3,gB h2];rfl
 have h3:¬∀i,i<len->f (0+i)=h (0+i):=fun h3=>h2 fun i b=>by have:=h3 i b;rwa[fg]at this
 rw[aP h3,gF h2];rfl
theorem abO(r:Rl):(dM r).extract 1 (1+64)=((List.range 64).map fun i=>U (r.up i)).toArray:=by grind[iR,vG]
structure ali(P:Program)(t:TypeId)(f0 f1:Field)(e:TypeId):Prop where
 u:P.underlying t=some (.struct (P.fieldsOf t))
 f:P.fieldsOf t=#[f0,f1]
 n0:f0.name≠ "_"
 n1:f1.name≠ "_"
 o0:f0.offset=0
 o1:f1.offset=1
 u0:P.underlying f0.type=some (.int .i64)
 a0:∀w,(isAgg f0.type).run P w= .ok false w
 u1:P.underlying f1.type=some (.array 64 e)
 a1:∀w,(isAgg f1.type).run P w= .ok true w
 s1:∀w,(sizeOf f1.type).run P w= .ok 64 w
 ue:P.underlying e=some (.int .u64)
 se:∀w,(sizeOf e).run P w= .ok 1 w
 ae:∀w,(isAgg e).run P w= .ok false w
 st:P.stoodInHeld t=false
 eg:P.eqGuardType P.depth t=false
theorem ali.eql{f0 f1:Field}(T:ali P t f0 f1 e)(a b:Rl)(w:World):(Op.equalIn 10000 t (.agg (dM a)) (.agg (dM b))).run P w= .ok (decide (a.eq b)) w:=by
 rw[run_equalIn_struct w 9999 t _ _ T.u T.st,T.f]
 have p0:∀r:Rl,(part f0.type (dM r) f0.offset).run P w= .ok (I r.n) w:=fun r=>by
  rw[T.o0];have:=fF r;simp[part,T.a0,this]
 have p1:∀r:Rl,(part f1.type (dM r) f1.offset).run P w= .ok (.agg ((List.range 64).map fun i=>U (r.up i)).toArray) w:=fun r=>by
  rw[T.o1,<-abO];simp[part,T.a1,T.s1]
 have e0:(Op.equalIn 9999 f0.type (I a.n) (I b.n)).run P w= .ok (a.n==b.n) w:=Qx w 9998 _ .i64 .i64 _ _ T.u0
 have e1:(Op.equalIn 9999 f1.type (.agg ((List.range 64).map fun i=>U (a.up i)).toArray) (.agg ((List.range 64).map fun i=>U (b.up i)).toArray)).run P w= .ok (decide (∀i:Nat,i<64->a.up i=b.up i)) w:=
  aom 9997 _ _ T.u1 T.ue T.se T.ae
 simp only[Op.eqFields,T.n0,T.n1,ne_eq,WK,s5,o9,p0,e0,wT]
 by_cases h0:a.n=b.n
 .by_cases h1:∀i,i<64->a.up i=b.up i
  .rw[gB h1]at e1
   rw[gB (show a.eq b from⟨h0,h1⟩)];simp[h0,p1,e1]
  rw[gF h1]at e1
  rw[gF (show¬a.eq b from fun h=>h1 h.2)];simp[h0,p1,e1]
 rw[gF (show¬a.eq b from fun h=>h0 h.1)];simp[h0]
theorem Ej{f0 f1:Field}{a b:Rl}(T:ali P t f0 f1 e)(hx:ev σ x= .agg (dM a))(hy:ev σ y= .agg (dM b)):
  (execOp (ev σ) ⟨dst,.binOp .eql t x y u,ty,pos,bJ,g⟩).run P w= .ok (.value (.bool (decide (a.eq b)))) w:=by
 have h:=run_eql_struct (P:=P) w t (dM a) (dM b)
 rw[T.eql]at h
 simp only[execOp,hx,hy,o9,WV w .eql t x y _ _ T.eg,wT]
 simp[h]
structure aon(P:Program)(t:TypeId)(f0 f1:Field):Prop where
 u:P.underlying t=some (.struct (P.fieldsOf t))
 f:P.fieldsOf t=#[f0,f1]
 n0:f0.name≠ "_"
 n1:f1.name≠ "_"
 o0:f0.offset=0
 o1:f1.offset=1
 u0:P.underlying f0.type=some (.int .i64)
 a0:∀w,(isAgg f0.type).run P w= .ok false w
 u1:P.underlying f1.type=some (.int .i64)
 a1:∀w,(isAgg f1.type).run P w= .ok false w
 st:P.stoodInHeld t=false
 eg:P.eqGuardType P.depth t=false
theorem aon.eql{f0 f1:Field}(T:aon P t f0 f1)(a b c d:Int)(w:World):(Op.equalIn 10000 t (.agg #[I a,I b]) (.agg #[I c,I d])).run P w= .ok (decide ((a,b)=(c,d))) w:=by
 rw[run_equalIn_struct w 9999 t _ _ T.u T.st,T.f]
 have p0:∀x y:Int,(part f0.type #[I x,I y] f0.offset).run P w= .ok (I x) w:=fun x y=>by
  rw[T.o0];simp[part,T.a0]
 have p1:∀x y:Int,(part f1.type #[I x,I y] f1.offset).run P w= .ok (I y) w:=fun x y=>by
  rw[T.o1];simp[part,T.a1]
 have e0:(Op.equalIn 9999 f0.type (I a) (I c)).run P w= .ok (a==c) w:=Qx w 9998 _ .i64 .i64 _ _ T.u0
 have e1:(Op.equalIn 9999 f1.type (I b) (I d)).run P w= .ok (b==d) w:=Qx w 9998 _ .i64 .i64 _ _ T.u1
 simp only[Op.eqFields,T.n0,T.n1,ne_eq,WK,s5,o9,p0,e0,wT]
 by_cases h0:a=c
 .subst h0
  by_cases h1:b=d
  .subst h1;simp[p1,e1]
  simp[p1,e1,h1]
 simp[h0]
theorem afl{w0 w:World}{fn:Func}{L:List a8}{i p:Nat}{q:Value->World->Prop}{d:TypeDesc}{ty:TypeId}(h:fn.results=#[.cell p ty])(hp:σ p= .pointer (some ⟨b,0,none⟩))(hH:Hp w0 w L)
  (hi:L[i]?=some (.blk b (.cells (dM r) e fr))) (hu:P.underlying ty=some d) (hd:d.isRow=true) (hz:(P.info? ty).map (·.size)=some 65) (hq:q (.agg (dM r)) w):Out P fn q σ w:=
 fun n a ha=>⟨_,results_cell_row h _ w b e (dM r) fr d (by rw[ha.get,hp]) (hH.blk hi) hu (by cases d<;>simp_all) (by rw[GO];exact hz),hq⟩
def prL(l:List (Int×Int)):List Value:=l.flatMap fun p=>[I p.1,I p.2]
@[simp] theorem av2(l:List (Int×Int))(a b:Int):prL (l++[(a,b)])=prL l++[I a,I b]:=by simp[prL]
end runs
end
end Go.Proofs.YtlhjdflgjbkpmaaGreatDoor.E
namespace Go.Proofs.YtlhjdflgjbkpmaaGreatDoor.M
theorem afm(m:Nat)(n:Int)(u:Nat->BitVec 64)(i j:Nat):(jD m n u i).getLsbD j=((u i).getLsbD j||(decide ((i:Int)<n)&&(u i).getLsbD m&&(u m).getLsbD j)):=by grind[jD]
structure Thr(n:Int)(u0 u:Nat->BitVec 64)(m:Nat):Prop where
 Ek:∀i j:Nat,(u i).getLsbD j=true->(i:Int)<n/\(j:Int)<n
 base:∀i j:Nat,(u0 i).getLsbD j=true->(u i).getLsbD j=true
 thr:∀k:Nat,k<m->∀i j:Nat,(u i).getLsbD k=true->(u k).getLsbD j=true->(u i).getLsbD j=true
 sound:∀S:Nat->Prop,(∀x y:Nat,S x->(u0 x).getLsbD y=true->S y)->∀x y:Nat,S x->(u x).getLsbD y=true->S y
theorem Thr.pass{n:Int}{u0 u:Nat->BitVec 64}{m:Nat}(h:Thr n u0 u m):Thr n u0 (jD m n u) (m+1):=by
 have bit:∀i j:Nat,(jD m n u i).getLsbD j=true↔((u i).getLsbD j=true\/((u i).getLsbD m=true/\(u m).getLsbD j=true)):=fun i j=>by
  rw[afm]
  simp only[ou,cH,ep]
  constructor
  .rintro(h1|⟨⟨h1,h2⟩,h3⟩)
   .exact .inl h1
   exact .inr ⟨h2,h3⟩
  rintro(h1|⟨h1,h2⟩)
  .exact .inl h1
  exact .inr ⟨⟨(h.Ek _ _ h1).1,h1⟩,h2⟩
 refine⟨fun i j hb=> ?_,fun i j hb=>(bit i j).2 (.inl (h.base i j hb)),fun k hk i j h1 h2=> ?_,fun S hS x y hx hb=> ?_⟩
 .rcases(bit i j).1 hb with h1|⟨h1,h2⟩
  .exact h.Ek i j h1
  exact⟨(h.Ek i m h1).1,(h.Ek m j h2).2⟩
 .rw[bit]at*
  by_cases e:k=m
  .subst e
   have a1:(u i).getLsbD k=true:=by rcases h1 with h1|h1;exact h1;exact h1.1
   have a2:(u k).getLsbD j=true:=by rcases h2 with h2|h2;exact h2;exact h2.2
   exact .inr ⟨a1,a2⟩
  have hk':k<m:=J
  rcases h1 with h1|⟨h1,h1'⟩<;>rcases h2 with h2|⟨h2,h2'⟩
  .exact .inl (h.thr k hk' i j h1 h2)
  .exact .inr ⟨h.thr k hk' i m h1 h2,h2'⟩
  .exact .inr ⟨h1,h.thr k hk' m j h1' h2⟩
  exact .inr ⟨h1,h2'⟩
 rcases(bit x y).1 hb with h1|⟨h1,h2⟩
 .exact h.sound S hS x y hx h1
 exact h.sound S hS m y (h.sound S hS x m hx h1) h2
theorem Thr.wall{n:Int}{u0:Nat->BitVec 64}(hi:∀i j:Nat,(u0 i).getLsbD j=true->(i:Int)<n/\(j:Int)<n):∀m,Thr n u0 (wall n u0 m) m
 |0=>⟨hi,fun _ _ h=>h,fun k hk=>J,fun S hS x y hx hb=>hS x y hx hb⟩
 |m+1=>(Thr.wall hi m).pass
theorem Fe(r:Rl)(i j:Nat):(pq (ew r).up (pts r) i).getLsbD j=true↔((i:Int)<pts r/\(j:Int)<pts r/\(bI r i j=true\/i=j)):=by grind[Rl,pq,ew,pts,bI,dB,Dn,uF,xg,tU,qm]
theorem CE(r:Rl):Thr (pts r) (pq (ew r).up (pts r)) (iQ r).up (pts r).toNat:=Thr.wall (fun i j h=>by have:=(Fe r i j).1 h;exact⟨this.1,this.2.1⟩) _
theorem ZJ{r:Rl}{u:Nat->BitVec 64}:pts ⟨pts r,u⟩=pts r:=by unfold pts;simp;omega
theorem yK(r:Rl):pts (iQ r)=pts r:=ZJ
theorem G5(r:Rl):pts (ew r)=pts r:=ZJ
theorem jt{r:Rl}{i j:Int}(h:bI r i j=true):(0<=i/\i<pts r)/\(0<=j/\j<pts r)/\(r.up i.toNat).getLsbD j.toNat=true:=by grind[bI,qm]
theorem Jv{r:Rl}{i j:Int}(hi:0<=i/\i<pts r)(hj:0<=j/\j<pts r)(h:(r.up i.toNat).getLsbD j.toNat=true):bI r i j=true:=by grind[bI,qm]
theorem ZK{r:Rl}{i j:Nat}:((iQ r).up i).getLsbD j=true↔bI (iQ r) i j=true:=by
 constructor
 .intro h
  have:=(CE r).Ek i j h
  exact Jv GR GR uz
 intro h
 have:=(jt h).2.2;simpa using this
theorem xO{r:Rl}{i:Int}(h:0<=i/\i<pts r):bI (iQ r) i i=true:=
 Jv GR GR ((CE r).base _ _ ((Fe r _ _).2 ⟨J,J,.inr O⟩))
theorem Ff{r:Rl}{i j:Int}(h:bI r i j=true):bI (iQ r) i j=true:=by
 obtain⟨h1,h2,-⟩:=jt h
 refine Jv GR GR ((CE r).base _ _ ((Fe r _ _).2 ⟨J,J,.inl ?_⟩))
 rw[fN h1.1,fN h2.1];exact h
theorem mC{r:Rl}{i j k:Int}(h1:bI (iQ r) i j=true)(h2:bI (iQ r) j k=true):bI (iQ r) i k=true:=by
 obtain⟨a1,a2,a3⟩:=jt h1
 obtain⟨b1,b2,b3⟩:=jt h2
 exact Jv a1 b2 ((CE r).thr _ (by rw[yK]at a2;omega) _ _ a3 b3)
theorem CF{r:Rl}{i j:Int}(h:bI (iQ r) i j=true)(S:Int->Prop)(hS:∀x y,S x->bI r x y=true->S y)(hi:S i):S j:=by
 obtain⟨a1,a2,a3⟩:=jt h
 have:=(CE r).sound (fun x=>S (x:Int)) (fun x y hx hb=>by
  obtain⟨-,-,h1|h1⟩:=(Fe r x y).1 hb
  .exact hS _ _ hx h1
  subst h1;exact hx) i.toNat j.toNat (by rw[fN a1.1];exact hi) a3
 rwa[fN a2.1]at this
def scan(r:Rl)(x:Int)(l:List Int):Nat->List Int
 |0=>l
 |b+1=>if(bI r x b&& !(scan r x l b).contains (b:Int))=true then scan r x l b++[(b:Int)]else scan r x l b
def Wa(r:Rl):Nat->Nat->List Int->List Int
 |0,_,l=>l
 |f+1,a,l=>if a<l.length then Wa r f (a+1) (scan r (l.getD a 0) l (pts r).toNat)else l
def xk(r:Rl)(i:Int):List Int:=if Ar r i then Wa r 65 0 [i]else[]
theorem OA{r:Rl}{i:Int}(h:¬(0<=i/\i<pts r)):xk r i=[]:=aP fun h'=>h (qm.1 h')
def Tq(r:Rl)(l:List Int):Prop:=l.Nodup/\∀x∈l,0<=x/\x<pts r
theorem CG:∀(n:Nat) (l:List Int),l.Nodup->(∀x∈l,0<=x/\x<(n:Int))->l.length<=n
 |0,l,_,h=>by
  cases l with
  |nil=>simp
  |cons x l=>have:=h x az;omega
 |n+1,l,hn,h=>by
  by_cases hm:(n:Int)∈l
  .have h1:=Wo hm
   have h2:=CG n (l.erase (n:Int)) (hn.erase _) fun x hx=>by
    have h3:=(hn.mem_erase_iff).1 hx
    have:=h x h3.2;omega
   have:0<l.length:=Qj hm
   omega
  have:=CG n l hn fun x hx=>by
   have:=h x hx
   have:x≠n:=fun e=>hm (e▸hx)
   omega
  omega
theorem Tq.len{r:Rl}{l:List Int}(h:Tq r l):l.length<=64:=by
 have hp:=dB r
 have:=CG (pts r).toNat l h.1 fun x hx=>by have:=h.2 x hx;omega
 omega
theorem Tq.one{r:Rl}{i:Int}(h:0<=i/\i<pts r):Tq r [i]:=by grind[Rl,pts,Tq]
theorem Tq.add{r:Rl}{l:List Int}{b:Int}(h:Tq r l)(hb:0<=b/\b<pts r)(hc:l.contains b=false):Tq r (l++[b]):=by grind[Rl,Tq,pts]
theorem ZL{r:Rl}{x:Int}{l:List Int}(h:Tq r l):∀k:Nat,(k:Int)<=pts r->Tq r (scan r x l k)
 |0,_=>h
 |k+1,hk=>by
  have ih:=ZL (x:=x) h k J
  unfold scan
  split
  .rename_i hc
   simp only[cH,A8]at hc
   exact ih.add ⟨J,J⟩ hc.2
  exact ih
theorem K8{r:Rl}{x:Int}{l:List Int}:∀k:Nat,∃t,scan r x l k=l++t/\∀y∈t,bI r x y=true
 |0=>⟨[],by simp[scan],az⟩
 |k+1=>by
  obtain⟨t,h1,h2⟩:=K8 (r:=r) (x:=x) (l:=l) k
  unfold scan
  split
  .rename_i hc
   simp only[cH]at hc
   refine⟨t++[(k:Int)],by rw[h1,dg],fun y hy=> ?_⟩
   rcases eP.1 hy with hy|hy
   .exact h2 y hy
   simp at hy;subst hy;exact hc.1
  exact⟨t,h1,h2⟩
theorem Tr{r:Rl}{x:Int}{l:List Int}:∀(k:Nat) (b:Nat),b<k->bI r x b=true->(b:Int)∈scan r x l k
 |0,b,hb,_=>by omega
 |k+1,b,hb,h=>by
  have ih:=Tr (r:=r) (x:=x) (l:=l) k b
  unfold scan
  split
  .rename_i hc
   by_cases e:b=k
   .subst e;simp
   exact dx _ (ih J h)
  rename_i hc
  by_cases e:b=k
  .subst e
   rw[h]at hc;simp at hc;exact hc
  exact ih J h
theorem ZM{r:Rl}(Q:Int->Prop)(hQ:∀x y,Q x->bI r x y=true->Q y):∀(f a:Nat) (l:List Int),(∀x∈l,Q x)->∀x∈Wa r f a l,Q x
 |0,a,l,h=>h
 |f+1,a,l,h=>by
  unfold Wa
  split
  .rename_i ha
   refine ZM Q hQ f (a+1) _ ?_
   obtain⟨t,h1,h2⟩:=K8 (r:=r) (x:=l.getD a 0) (l:=l) (pts r).toNat
   rw[h1]
   intro y hy
   rcases eP.1 hy with hy|hy
   .exact h y hy
   refine hQ _ _ (h (l.getD a 0) ?_) (h2 y hy)
   rw[eE,ef ha];exact p6 _
  exact h
theorem K9{r:Rl}:∀(f a:Nat) (l:List Int),f+a=65->Tq r l->a<=l.length->(∀k,k<a->∀b,bI r (l.getD k 0) b=true->b∈l)->
  Tq r (Wa r f a l)/\(∀x∈l,x∈Wa r f a l)/\∀x∈Wa r f a l,∀b,bI r x b=true->b∈Wa r f a l
 |0,a,l,hf,hok,ha,h=>by have:=hok.len;omega
 |f+1,a,l,hf,hok,ha,h=>by
  have hp:=dB r
  unfold Wa
  split
  .rename_i hlt
   obtain⟨t,h1,h2⟩:=K8 (r:=r) (x:=l.getD a 0) (l:=l) (pts r).toNat
   have Ts:∀k,k<l.length->(l++t).getD k 0=l.getD k 0:=fun k hk=>by
    rw[eE,eE,wP hk]
   have ih:=K9 f (a+1) (scan r (l.getD a 0) l (pts r).toNat) J (ZL hok _ J) (by rw[h1,cV];omega) (fun k hk b hb=>by
    rw[h1,Ts k J]at hb
    by_cases e:k=a
    .subst e
     obtain⟨-,b2,-⟩:=jt hb
     have:=Tr (r:=r) (x:=l.getD k 0) (l:=l) (pts r).toNat b.toNat J (by rw[fN b2.1];exact hb)
     rwa[fN b2.1]at this
    rw[h1];exact dx _ (h k J b hb))
   refine⟨ih.1,fun x hx=>ih.2.1 x (by rw[h1];exact dx _ hx),ih.2.2⟩
  rename_i hge
  refine⟨hok,fun x hx=>hx,fun x hx b hb=> ?_⟩
  obtain⟨k,hk,rfl⟩:=sX hx
  refine h k J b ?_
  rw[eE,ef hk];exact hb
theorem abP(r:Rl)(i j:Int):j∈xk r i↔bI (iQ r) i j=true:=by
 by_cases h:0<=i/\i<pts r
 .rw[xk,aQ (qm.2 h)]
  have hc:=K9 65 0 [i] O (Tq.one h) az (fun k hk=>J)
  constructor
  .intro hj
   exact ZM (fun x=>bI (iQ r) i x=true) (fun x y hx hy=>mC hx (Ff hy)) 65 0 [i] (fun x hx=>by simp at hx;subst hx;exact xO h) j hj
  intro hj
  exact CF hj (fun x=>x∈Wa r 65 0 [i]) (fun x y hx hy=>hc.2.2 x hx y hy) (hc.2.1 i az)
 rw[OA h]
 constructor
 .intro hj;cases hj
 intro hj
 have:=(jt hj).1
 rw[yK]at this;exact absurd this h
theorem afn{r:Rl}{a:Int}{l:List Int}(h0:0<=a)(h:a<l.length)(hl:l.length<=64):Wa r (65-a.toNat) a.toNat l=Wa r (65-(a+1).toNat) (a+1).toNat (scan r (l.getD a.toNat 0) l (pts r).toNat):=by
 rw[show 65-a.toNat=(65-(a+1).toNat)+1 by omega,show(a+1).toNat=a.toNat+1 by omega]
 rw[Wa,aQ J]
theorem ZN{r:Rl}{a:Int}{l:List Int}(h0:0<=a)(h:¬a<l.length):Wa r (65-a.toNat) a.toNat l=l:=by
 cases 65-a.toNat with
 |zero=>rfl
 |succ f=>rw[Wa,aP J]
theorem afo{r:Rl}{x b:Int}{l:List Int}(h0:0<=b)(h:bI r x b=true)(hc:(scan r x l b.toNat).contains b=false):scan r x l b.toNat++[b]=scan r x l (b+1).toNat:=by
 rw[show(b+1).toNat=b.toNat+1 by omega]
 rw[scan,fN h0,h,hc];rfl
theorem afp{r:Rl}{x b:Int}{l:List Int}(h0:0<=b)(h:bI r x b=false):scan r x l b.toNat=scan r x l (b+1).toNat:=by
 rw[show(b+1).toNat=b.toNat+1 by omega]
 rw[scan,fN h0,h];rfl
theorem afq{r:Rl}{x b:Int}{l:List Int}(h0:0<=b)(hc:(scan r x l b.toNat).contains b=true):scan r x l b.toNat=scan r x l (b+1).toNat:=by
 rw[show(b+1).toNat=b.toNat+1 by omega]
 rw[scan,fN h0,hc];simp
theorem abQ(r:Rl){i:Nat}(h:(i:Int)<pts r):kH (xk r i)=(iQ r).up i:=eu fun j hj=>by
 rw[gJ,gB hj,lU,gG,ZK,<-abP]
 simp[DX]
theorem Tt(r:Rl){i:Nat}(h:¬(i:Int)<pts r):(iQ r).up i=0#64:=eu fun j hj=>by
 cases hc:((iQ r).up i).getLsbD j with
 |false=>simp
 |true=>exact absurd ((CE r).Ek i j hc).1 h
theorem alj(r:Rl):Dn (pts r) (fun i=>kH (xk r i)) (pts r)=iQ r:=by
 refine xh fun i=> ?_
 by_cases h:(i:Int)<pts r
 .rw[aQ h];exact abQ r h
 rw[aP h];exact(Tt r h).symm
theorem abR(r:Rl):ew (iQ r)=iQ r:=by
 have hp:=dB r
 unfold ew
 rw[yK]
 refine xh fun i=> ?_
 show(if(i:Int)<pts r then uF (iQ r) i else 0#64)=(iQ r).up i
 by_cases h:(i:Int)<pts r
 .rw[aQ h]
  refine eu fun j hj=> ?_
  rw[tU (iQ r) ⟨J,by rw[yK];exact h⟩,gG,ZK]
 rw[aP h];exact(Tt r h).symm
def afr(n:Int):Rl:=⟨pts ⟨n,fun _=>0#64⟩,fun _=>0#64⟩
def aDj(r:Rl)(p:Int×Int):Rl:=if Ar r p.1&&Ar r p.2 then r.put p.1.toNat (uE (r.up p.1.toNat) p.2)else r
def ofR(n:Int)(l:List (Int×Int)):Rl:=l.foldl aDj (afr n)
def aKi(r:Rl)(i j:Int):Rl:=if Ar r i&&Ar r j then(ew r).put i.toNat (uE ((ew r).up i.toNat) j)else ew r
def CH(r:Rl)(i:Int):BitVec 64:=upR r (kH [i])&&&Dp r (kH [i])
def fT(r:Rl):Bool:=decide ((ew r).eq (iQ r))&&decide (∀i:Nat,i<(pts r).toNat->∀j:Nat,j<i->(bI r i j&&bI r j i)=false)
theorem abS(r:Rl)(i j:Int):bI (ew r) i j=bI r i j:=by
 have hp:=dB r
 by_cases hi:0<=i/\i<pts r
 .by_cases hj:0<=j/\j<pts r
  .rw[bI,Ar,Ar,G5,gB hi,gB hj]
   have e:(ew r).up i.toNat=uF r i:=by
    show(if((i.toNat:Nat):Int)<pts r then uF r (i.toNat:Nat)else 0#64)=uF r i
    rw[fN hi.1,aQ hi.2]
   rw[e,tU r hi,fN hj.1];rfl
  rw[Q6 (by rw[Ar,G5];exact gF hj),Q6 (by rw[Ar];exact gF hj)]
 rw[Jt (by rw[Ar,G5];exact gF hi),Jt (by rw[Ar];exact gF hi)]
theorem has_eq{a b:Rl}(h:a.eq b)(i j:Int):bI a i j=bI b i j:=by
 have hp:pts a=pts b:=by unfold pts;rw[h.1]
 have hb:=dB b
 by_cases hi:0<=i/\i<pts b
 .rw[bI,bI,Ar,Ar,Ar,Ar,hp,h.2 i.toNat J]
 rw[Jt (by rw[Ar,hp];exact gF hi),Jt (by rw[Ar];exact gF hi)]
theorem rz{r:Rl}(h:(ew r).eq (iQ r))(i j:Int):bI r i j=bI (iQ r) i j:=by rw[<-abS,has_eq h]
theorem afs(r:Rl)(s:BitVec 64)(j:Nat):(upR r s).getLsbD j=true↔∃i:Int,hasB s i=true/\bI r i j=true:=by
 rw[upR,G4,DZ]
 constructor
 .rintro⟨i,h1,h2⟩
  rw[fQ,hasB,q9,eY,cH,cH,ep,yP,ep]at h1
  have hi:0<=i/\i<pts r:=J
  refine⟨i,by rw[hasB,h1.2.1,yP,gB J];rfl,?_⟩
  rwa[tU r hi]at h2
 rintro⟨i,h1,h2⟩
 have hi:=(jt h2).1
 have hb:=yT h1
 refine⟨i,?_,by rw[tU r hi];exact h2⟩
 rw[fQ,hasB,q9,eY]
 rw[hasB,cH]at h1
 rw[h1.1,h1.2,gB J];rfl
theorem Tu{s:BitVec 64}:s≠0#64↔∃i:Nat,s.getLsbD i=true:=by
 constructor
 .intro h
  by_cases hc:∃i:Nat,s.getLsbD i=true
  .exact hc
  refine absurd (eu fun i _=> ?_) h
  cases hb:s.getLsbD i with
  |false=>simp
  |true=>exact absurd ⟨i,hb⟩ hc
 rintro⟨i,h⟩ e
 rw[e]at h;simp at h
theorem La(r:Rl)(s:BitVec 64)(j:Nat):(Dp r s).getLsbD j=true↔∃i:Int,hasB s i=true/\bI r j i=true:=by
 have hp:=dB r
 rw[Dp,xj,jY,cH,cH,ep,ep,ep]
 rw[Tu]
 constructor
 .rintro⟨⟨h1,h2⟩,i,h3⟩
  rw[q9,cH,tU r ⟨J,J⟩]at h3
  have hi:=(jt h3.1).2.1
  exact⟨i,by rw[hasB,yP,gB J];simpa using h3.2,h3.1⟩
 rintro⟨i,h1,h2⟩
 obtain⟨a1,a2,-⟩:=jt h2
 refine⟨⟨J,J⟩,i.toNat,?_⟩
 rw[q9,tU r a1,fN a2.1,h2]
 rw[hasB,cH]at h1
 rw[h1.2];rfl
theorem Tv{i j:Int}(h:0<=i/\i<64):hasB (kH [i]) j=true↔j=i:=by grind[fQ,yT,hasB,gJ,yP]
theorem Lc{r:Rl}{i:Int}(h:0<=i/\i<pts r)(j:Nat):(CH r i).getLsbD j=true↔(bI r i j=true/\bI r j i=true):=by grind[Rl,pts,CH,bI,dB,afs,La,Tv]
theorem abT{r:Rl}(h:¬(ew r).eq (iQ r)):fT r=false:=by grind[fT]
theorem Em{r:Rl}:(∀i:Nat,i<(pts r).toNat->∀j:Nat,j<i->(bI r i j&&bI r j i)=false)↔∀i j:Int,bI r i j=true->bI r j i=true->i=j:=by
 constructor
 .intro h i j h1 h2
  obtain⟨a1,a2,-⟩:=jt h1
  by_cases e:i=j
  .exact e
  by_cases hlt:j<i
  .have:=h i.toNat J j.toNat J
   rw[fN a1.1,fN a2.1,h1,h2]at this;cases this
  have:=h j.toNat J i.toNat J
  rw[fN a1.1,fN a2.1,h1,h2]at this;cases this
 intro h i hi j hj
 cases h1:bI r i j with
 |false=>rfl
 |true=>
  cases h2:bI r j i with
  |false=>rfl
  |true=>have:=h i j h1 h2;omega
theorem afu{r:Rl}{k:Int}(hc:(ew r).eq (iQ r))(hk:0<=k/\k<pts r)(h:CH r k≠kH [k]):fT r=false:=by
 rw[fT,Bool.and_eq_false_iff]
 refine .inr (gF fun ha=>h ?_)
 have hp:=dB r
 rw[Em]at ha
 refine eu fun j hj=> ?_
 rw[gG,Lc hk]
 constructor
 .rintro⟨h1,h2⟩
  have:=ha _ _ h1 h2
  rw[gJ];simp[DX];omega
 intro h1
 have:(j:Int)=k:=by rw[gJ]at h1;simp[DX]at h1;omega
 rw[this,rz hc,xO hk];simp
theorem abU{r:Rl}(hc:(ew r).eq (iQ r))(h:∀j:Int,0<=j->j<pts r->CH r j=kH [j]):fT r=true:=by
 rw[fT,gB hc,lU,ep,Em]
 intro i j h1 h2
 obtain⟨a1,a2,-⟩:=jt h1
 have hp:=dB r
 have h3:=(Lc a1 j.toNat).2 (by rw[fN a2.1];exact⟨h1,h2⟩)
 rw[h i a1.1 a1.2,gJ]at h3
 simp[DX]at h3;omega
theorem Ld{r:Rl}{i:Int}(h:0<=i/\i<pts r)(j:Nat):(yS r i).getLsbD j=true↔bI r i j=true/\¬(j:Int)=i:=by
 rw[yS,N2,tU r h];simp
theorem afv{n:Int}(j:Nat)(h:(below n).getLsbD j=true):(j:Int)<n:=by grind[eY]
def wk(r:Rl)(s:BitVec 64):BitVec 64:=wh (yS r) (gf s)&&&s
def Lf(r:Rl):Nat->BitVec 64->Int->Int
 |0,_,n=>n
 |f+1,s,n=>if wk r s=0#64 then n else Lf r f (wk r s) (n+1)
def ZO(r:Rl):Int×Bool:=if fT r then(Lf r 65 (below (pts r)) 0,true)else(0,false)
theorem alk{r:Rl}{s:BitVec 64}(hs:∀j:Nat,s.getLsbD j=true->(j:Int)<pts r)(j:Nat)(h:(wk r s).getLsbD j=true):(j:Int)<pts r:=by grind[wk]
theorem G6:∀(l m:List Int),l.Nodup->(∀x∈l,x∈m)->l.length<=m.length
 |[],m,_,_=>by simp
 |x::l,m,hn,h=>by
  rw[mZ]at hn
  have hx:=h x az
  have:=G6 l (m.erase x) hn.2 fun y hy=>(List.mem_erase_of_ne (show y≠x from fun e=>hn.1 (by rw[<-e];exact hy))).2 (h y (by simp[hy]))
  have h2:=Wo hx
  have:0<m.length:=Qj hx
  simp;omega
theorem G7(s:BitVec 64):(gf s).Nodup:=by
 have:=ry s
 exact this.imp fun h=>by omega
theorem afw{a b:BitVec 64}{j:Int}(h:∀i:Int,hasB a i=true->hasB b i=true)(hb:hasB b j=true)(ha:hasB a j=false):(gf a).length<(gf b).length:=by
 have:=G6 (j::gf a) (gf b) (by
  rw[mZ]
  exact⟨fun hm=>absurd ((fQ _ _).1 hm) (by rw[ha];simp),G7 a⟩) fun x hx=>by
   rcases cZ.1 hx with rfl|hx
   .exact(fQ _ _).2 hb
   exact(fQ _ _).2 (h x ((fQ _ _).1 hx))
 simp at this;omega
theorem Lg(lt:Int->Int->Prop)(hi:∀x,¬lt x x)(ht:∀x y z,lt x y->lt y z->lt x z):∀l:List Int,l≠[]->∃m∈l,∀x∈l,¬lt x m
 |[],h=>absurd O h
 |[a],_=>⟨a,az,fun x hx=>by simp at hx;subst hx;exact hi _⟩
 |a::b::l,_=>by
  obtain⟨m,hm,h⟩:=Lg lt hi ht (b::l) az
  by_cases ha:lt a m
  .refine⟨a,az,fun x hx=> ?_⟩
   rcases cZ.1 hx with rfl|hx
   .exact hi _
   exact fun hxa=>h x hx (ht _ _ _ hxa ha)
  refine⟨m,fw _ hm,fun x hx=> ?_⟩
  rcases cZ.1 hx with rfl|hx
  .exact ha
  exact h x hx
theorem uG{r:Rl}(h:fT r=true):(ew r).eq (iQ r)/\∀i j:Int,bI r i j=true->bI r j i=true->i=j:=by
 rw[fT,cH,ep,ep,Em]at h;exact h
theorem sj{r:Rl}(h:fT r=true){i j k:Int}(h1:bI r i j=true)(h2:bI r j k=true):bI r i k=true:=by grind[uG,rz,mC]
theorem eT(a b:BitVec 64)(i:Int):hasB (a&&&b) i=(hasB a i&&hasB b i):=by grind[hasB,yP]
theorem Jw(a b:BitVec 64)(i:Int):hasB (a|||b) i=(hasB a i||hasB b i):=by grind[hasB,yP]
theorem Tw{s:BitVec 64}{i:Int}(h:hasB s i=true):s.getLsbD i.toNat=true:=by grind[hasB]
theorem alm{s:BitVec 64}{j:Nat}(h:s.getLsbD j=true):hasB s j=true:=by grind[hasB,yP]
theorem aln{r:Rl}{s:BitVec 64}(ho:fT r=true)(hs:∀j:Nat,s.getLsbD j=true->(j:Int)<pts r)(h:¬wk r s=0#64):(gf (wk r s)).length<(gf s).length:=by
 have hne:gf s≠[]:=fun e=>by
  rw[yR]at e;subst e
  exact h (by rw[wk];simp)
 obtain⟨m,hm,hmin⟩:=Lg (fun x y=>bI r x y=true/\x≠y) (fun x hx=>hx.2 O) (fun x y z h1 h2=>⟨sj ho h1.1 h2.1,fun e=>by
  subst e
  exact h1.2 ((uG ho).2 _ _ h1.1 h2.1)⟩) (gf s) hne
 rw[fQ]at hm
 refine afw (j:=m) (fun i hi=>by rw[wk,eT,cH]at hi;exact hi.2) hm ?_
 cases hc:hasB (wk r s) m with
 |false=>rfl
 |true=>
  rw[wk,eT,cH]at hc
  have h1:=Tw hc.1
  rw[G4,DZ]at h1
  obtain⟨x,hx,hb⟩:=h1
  have hxs:=(fQ _ _).1 hx
  have hbd:=yT hxs
  have hxp:=hs _ (Tw hxs)
  have hmb:=yT hm
  rw[Ld ⟨hbd.1,J⟩,fN hmb.1]at hb
  exact absurd ⟨hb.1,fun e=>hb.2 e.symm⟩ (hmin x hx)
def aDk(r:Rl)(i:Int):BitVec 64:=yS r i&&& ~~~wh (yS r) (gf (yS r i))
def afx(r:Rl)(k:Int):List (Int×Int):=(upto k).flatMap fun i=>(gf (aDk r i)).map fun y=>(i,y)
def aCc(r:Rl):List (Int×Int):=if fT r then afx r (pts r)else[]
def aDl:Rl:=⟨3,fun i=>[7#64,6#64,4#64].getD i 0#64⟩
def aKj(p:Int->Bool)(l:List Int)(a:Int):Bool:=(l.take a.toNat).any p
theorem abV{r:Rl}{k:Int}(hk:¬k<pts r)(hf:∀i j:Int,0<=j->j<i->i<k->(bI r i j&&bI r j i)=false):fT r=decide ((ew r).eq (iQ r)):=by grind[fT,pts,bI]
theorem Ty{r:Rl}{i j:Int}(h1:bI r i j=true)(h2:bI r j i=true)(h:j<i):fT r=false:=by grind[fT,uG]
def Tz(r:Rl)(k j:Int):Bool:=(upto j).all fun x=> !(bI r k x&&bI r x k)
def z6(r:Rl)(k:Int):Int:=(((upto k).filter fun i=>Tz (iQ r) i i).length:Nat)
theorem aqW{r:Rl}{k:Int}(h0:0<=k):0<=z6 r k/\z6 r k<=k:=by grind[Tz,iQ,upto,r9,z6]
theorem kI{s:BitVec 64}{j:Int}:hasB s j=true↔(0<=j/\j<64)/\s.getLsbD j.toNat=true:=by grind[hasB,yP]
theorem Lh(f:Int->BitVec 64)(l:List Int)(j:Int):hasB (wh f l) j=true↔∃i∈l,hasB (f i) j=true:=by grind[kI,G4]
theorem kJ{r:Rl}{i j:Int}(h:bI r i j=true):(0<=i/\i<pts r)/\(0<=j/\j<pts r):=by have:=jt h;exact⟨this.1,this.2.1⟩
theorem Li{r:Rl}{i:Int}(h:0<=i/\i<pts r)(j:Int):hasB (yS r i) j=true↔bI r i j=true/\j≠i:=by grind[kI,Ld,kJ,dB]
theorem nY(n j:Int):hasB (below n) j=true↔0<=j/\j<64/\j<n:=by grind[kI,eY]
def yx(r:Rl):Nat->BitVec 64
 |0=>below (pts r)
 |k+1=>wk r (yx r k)
theorem Q7(r:Rl):∀k j:Nat,(yx r k).getLsbD j=true->(j:Int)<pts r
 |0,j,h=>afv j h
 |k+1,j,h=>alk (Q7 r k) j h
theorem afy{r:Rl}{k:Nat}{j:Int}(h:hasB (yx r k) j=true):0<=j/\j<pts r:=by
 have:=kI.1 h
 have h2:=Q7 r k _ this.2
 omega
theorem Jx{r:Rl}(k:Nat)(j:Int):hasB (yx r (k+1)) j=true↔hasB (yx r k) j=true/\∃i:Int,hasB (yx r k) i=true/\bI r i j=true/\j≠i:=by
 rw[yx,wk,eT,cH,Lh,and_comm]
 refine WW fun hj=> ?_
 constructor
 .rintro⟨i,hi,h⟩
  have hi2:=(fQ _ _).1 hi
  exact⟨i,hi2,(Li (afy hi2) j).1 h⟩
 rintro⟨i,hi,h⟩
 exact⟨i,(fQ _ _).2 hi,(Li (afy hi) j).2 h⟩
theorem afz{r:Rl}:∀(k:Nat) {i j:Int},hasB (yx r k) i=true->bI r i j=true->j≠i->hasB (yx r (k+1)) j=true
 |0,i,j,hi,h,hne=>by
  have hb:=kJ h;have hp:=dB r
  exact(Jx 0 j).2 ⟨(nY _ _).2 J,i,hi,h,hne⟩
 |k+1,i,j,hi,h,hne=>by
  have h1:=(Jx k i).1 hi
  exact(Jx (k+1) j).2 ⟨afz k h1.1 h hne,i,hi,h,hne⟩
theorem TA{r:Rl}{j:Int}{a b:Nat}(h:a<=b)(hb:hasB (yx r b) j=true):hasB (yx r a) j=true:=by
 induction b with
 |zero=>rwa[show a=0 by omega]
 |succ b ih=>
  by_cases he:a=b+1
  .rwa[he]
  exact ih J ((Jx b j).1 hb).1
theorem uH(j:Int):hasB 0#64 j=false:=by rw[hasB];simp
theorem aqX{r:Rl}{k:Nat}(h:yx r (k+1)≠0#64):yx r k≠0#64:=by grind[yx,wk]
theorem XD{s:BitVec 64}{n:Int}(h0:0<=n)(h:∀j:Nat,s.getLsbD j=true->(j:Int)<n):(gf s).length<=n.toNat:=
 CG n.toNat (gf s) (G7 s) fun x hx=>by
  have h1:=kI.1 ((fQ _ _).1 hx)
  have:=h _ h1.2
  omega
theorem ZP{s:BitVec 64}(h:s≠0#64):0<(gf s).length:=by grind[yR]
theorem Jy{r:Rl}(ho:fT r=true):∀k:Nat,yx r k≠0#64->(gf (yx r k)).length+k<=(pts r).toNat
 |0,_=>by have:=XD (dB r).1 (Q7 r 0);omega
 |k+1,h=>by
  have h1:=Jy ho k (aqX h)
  have h2:(gf (yx r (k+1))).length<(gf (yx r k)).length:=aln ho (Q7 r k) h
  omega
theorem ZQ{s:BitVec 64}{j:Int}(h:hasB s j=true):s≠0#64:=by grind[uH]
theorem afA{r:Rl}(ho:fT r=true){k:Nat}{j:Int}(h:hasB (yx r k) j=true):(k:Int)<pts r:=by
 have h1:=Jy ho k (ZQ h)
 have h2:=ZP (ZQ h)
 have:=dB r
 omega
theorem G8{r:Rl}(ho:fT r=true):∀f k:Nat,f+k=65->(k=0\/yx r k≠0#64)->∃m:Nat,Lf r f (yx r k) k=(m:Int)/\yx r (m+1)=0#64/\(m=0\/yx r m≠0#64)
 |0,k,h,h2=>by
  have hp:=dB r
  rcases h2 with h2|h2
  .omega
  have:=Jy ho k h2;omega
 |f+1,k,h,h2=>by
  by_cases hs:wk r (yx r k)=0#64
  .exact⟨k,by rw[Lf,aQ hs],hs,h2⟩
  obtain⟨m,h3,h4⟩:=G8 ho f (k+1) J (.inr hs)
  refine⟨m,?_,h4⟩
  rw[Lf,aP hs,<-h3];rfl
def aKk(r:Rl)(F:Nat->Int):Prop:=∀j:Int,0<=j->j<pts r->0<=F j.toNat/\hasB (yx r (F j.toNat).toNat) j=true
def XE(F:Nat->Int)(i:Nat)(x:Int):Nat->Int:=fun j=>if j=i then x else F j
theorem afB{F:Nat->Int}{i:Nat}{x:Int}(h:F i<=x)(k:Nat):F k<=XE F i x k:=by grind[XE]
def rA(r:Rl)(F0 F:Nat->Int)(i k:Int):Prop:=∀j:Int,j<k->bI r i j=true->i≠j->F0 i.toNat+1<=F j.toNat
def yU(r:Rl)(F0 F:Nat->Int)(k:Int):Prop:=∀i:Int,i<k->rA r F0 F i (pts r)
def OG(F0 F:Nat->Int):Prop:=∀k,F0 k<=F k
theorem OG.refl(F:Nat->Int):OG F F:=fun _=>lm _
theorem OG.put{F0 F:Nat->Int}{i:Nat}{x:Int}(h:OG F0 F)(hx:F i<=x):OG F0 (XE F i x):=by grind[OG,XE,afB]
theorem rA.put{r:Rl}{F0 F:Nat->Int}{i k:Int}{j:Nat}{x:Int}(h:rA r F0 F i k)(hx:F j<=x):rA r F0 (XE F j x) i k:=by grind[Rl,rA,XE,afB]
theorem yU.put{r:Rl}{F0 F:Nat->Int}{k:Int}{j:Nat}{x:Int}(h:yU r F0 F k)(hx:F j<=x):yU r F0 (XE F j x) k:=fun i hi=>(h i hi).put hx
theorem rA.next{r:Rl}{F0 F:Nat->Int}{i k:Int}(h:rA r F0 F i k)(hk:bI r i k=true->i≠k->F0 i.toNat+1<=F k.toNat):rA r F0 F i (k+1):=by grind[Rl,rA,bI]
theorem rA.none(r:Rl)(F0 F:Nat->Int)(i:Int):rA r F0 F i 0:=fun j h1 h2 _=>by have:=(kJ h2).2;omega
theorem yU.none(r:Rl)(F0 F:Nat->Int):yU r F0 F 0:=fun i hi j _ h2 _=>by have:=(kJ h2).1;omega
theorem yU.next{r:Rl}{F0 F:Nat->Int}{i k:Int}(h:yU r F0 F i)(hk:¬k<pts r)(h2:rA r F0 F i k):yU r F0 F (i+1):=by grind[Rl,yU,pts,rA]
def aKl(r:Rl)(F:Nat->Int)(k:Int):Prop:=∀(v:Nat) (j:Int),(v:Int)<=k->hasB (yx r v) j=true->(v:Int)<=F j.toNat
def aDm(r:Rl)(i j k:Int):Bool:=(upto k).any fun x=>decide (x≠i)&&decide (x≠j)&&bI r i x&&bI r x j
def aDn(r:Rl)(i j:Int):Bool:=decide (i≠j)&&bI r i j&& !aDm r i j (pts r)
def aDo(r:Rl)(i k:Int):List (Int×Int):=((upto k).filter (aDn r i ·)).map fun y=>(i,y)
theorem wm(k:Int):(upto k).Pairwise (· <·):=by
 rw[upto,Gt]
 exact Ws.imp fun h=>by omega
def Tidy(r:Rl):Prop:=r.n=pts r/\∀i j:Nat,(r.up i).getLsbD j=true->(i:Int)<pts r/\(j:Int)<pts r
theorem Tidy.plain{r:Rl}(h:Tidy r):ew r=r:=by
 obtain⟨n,u⟩:=r
 have hn:n=pts ⟨n,u⟩:=h.1
 show(⟨pts ⟨n,u⟩,_⟩:Rl)=⟨n,u⟩
 rw[<-hn]
 refine xh fun i=>eu fun j hj=> ?_
 rw[gG]
 by_cases hi:(i:Int)<n
 .rw[aQ hi,ZI,cH,ep]
  exact⟨fun h2=>h2.1,fun h2=>⟨h2,J,(h.2 i j h2).2⟩⟩
 rw[aP hi]
 constructor
 .intro h2;simp at h2
 intro h2;exact absurd (by have:=(h.2 i j h2).1;rw[<-hn]at this;exact this) hi
def inQ(n:Int)(q:Int×Int):Bool:=decide (0<=q.1/\0<=q.2/\q.1<pts ⟨n,fun _=>0#64⟩/\q.2<pts ⟨n,fun _=>0#64⟩)
def inR(r:Rl)(q:Int×Int):Bool:=decide (0<=q.1/\0<=q.2/\q.1<pts r/\q.2<pts r)
def aDp(n:Int)(p:Int×Int)(l:List (Int×Int))(k:Int):Bool:=(l.take k.toNat).any fun q=>decide (q=p)&&inQ n q
end Go.Proofs.YtlhjdflgjbkpmaaGreatDoor.M
namespace Go.Proofs.YtlhjdflgjbkpmaaGreatDoor.E
section
open Go Go.RowKit Go.Proofs.YtlhjdflgjbkpmaaGreatDoor.M
section ext
variable{w0 w:World}{L:List a8}{b off:Nat}{c:Array Value}{e:TypeId}{fr:Nat×Nat}{v:Value}{o:Obj}
theorem keep{o:Obj}(hb:Below w0.heap.size w0 w)(h:w0.heap[b]?=some o):w.heap[b]?=some o:=by
 rw[hb.block b (A6.1 h).1];exact h
theorem Hp.ext(h:Hp w0 w L)(hb:w0.heap[b]?=some o):w.heap[b]?=some o:=by
 rw[h.below.block b (A6.1 hb).1];exact hb
theorem Hp.ed(h:Hp w0 w L)(hb:w0.heap[b]?=some (.cells c e fr))(hc:c[off]?=some v):w.cell? ⟨b,off,none⟩=some v:=by
 rw[xa w b off c e fr (h.ext hb)];exact hc
end ext
def aDq(f:Nat->Int):List Value:=(List.range 64).map fun i=>I (f i)
@[irreducible] def aN2(f:Nat->Int):Array Value:=(aDq f).toArray
section runs
variable{P:Program}{σ:Env}{w:World}{dst:Option Tmp}{ty t u:TypeId}{pos:String}{bJ:Array Edge}{g:Option (Nat×Bool)}{x y:Operand}{b:Nat}{e:TypeId}{r:Rl}{fr:Nat×Nat}
theorem Jz{sz:Nat}(hu:P.underlying t=some (.slice e))(hs:∀w,(sizeOf e).run P w= .ok sz w):
  (execOp (ev σ) ⟨dst,.buildSlice t 0 #[],ty,pos,bJ,g⟩).run P w= .ok (.value (.slice (some ⟨w.heap.size,0,none⟩) 0 0)) (w.alloc (.cells #[] e)):=by
 have h:(Instr.buildSlice t 0 #[]).run P w= .ok (.slice (some ⟨w.heap.size,0,none⟩) 0 0) (w.alloc (.cells #[] e)):=by
  simp[Instr.buildSlice,jr hu,hs,Instr.fill,newRow,newObj,Sem.run,show Array.range 0=#[]by decide]
 simp[execOp,h]
def rlL(l:List Rl):List Value:=l.flatMap vG
theorem En{f:FuncId}{cs vs:List Value}{Im:List Operand}{ats:Array TypeId}(hf:∀args w,(callFunc f args).run P w= .ok (.enter f args) w)(hx:ev σ x= .func (.func f) #[] cs.toArray)(h:Im.map (ev σ)=vs):
  (execOp (ev σ) ⟨dst,.call {callee:= .value x,args:=Im.toArray,argTypes:=ats},ty,pos,bJ,g⟩).run P w= .ok (.enter f (vs++cs).toArray) w:=by
 have:=OB (P:=P) (w:=w) (dst:=dst) (ty:=ty) (pos:=pos) (bJ:=bJ) (g:=g) (ats:=ats) hf hx h
 rw[this,List.append_toArray]
theorem Lj{f:FuncId}{cs:List Value}{ats:Array TypeId}(hf:∀args w,(callFunc f args).run P w= .ok (.enter f args) w)(hx:ev σ x= .func (.func f) #[] cs.toArray):
 (execOp (ev σ) ⟨dst,.call {callee:= .value x,args:=#[],argTypes:=ats},ty,pos,bJ,g⟩).run P w= .ok (.enter f cs.toArray) w:=En (Im:=[]) hf hx O
theorem lX{f:FuncId}{cs:List Value}{v1:Value}{x1:Operand}{ats:Array TypeId}(hf:∀args w,(callFunc f args).run P w= .ok (.enter f args) w)(hx:ev σ x= .func (.func f) #[] cs.toArray)(h1:ev σ x1=v1):
 (execOp (ev σ) ⟨dst,.call {callee:= .value x,args:=#[x1],argTypes:=ats},ty,pos,bJ,g⟩).run P w= .ok (.enter f (v1::cs).toArray) w:=En (Im:=[x1]) (vs:=[v1]) hf hx (by simp[h1])
theorem iH{f:FuncId}{cs:List Value}{v1 v2:Value}{x1 x2:Operand}{ats:Array TypeId}(hf:∀args w,(callFunc f args).run P w= .ok (.enter f args) w)(hx:ev σ x= .func (.func f) #[] cs.toArray)(h1:ev σ x1=v1)(h2:ev σ x2=v2):
 (execOp (ev σ) ⟨dst,.call {callee:= .value x,args:=#[x1,x2],argTypes:=ats},ty,pos,bJ,g⟩).run P w= .ok (.enter f (v1::v2::cs).toArray) w:=En (Im:=[x1,x2]) (vs:=[v1,v2]) hf hx (by simp[h1,h2])
end runs
section av3
variable{P:Program}{n:Nat}{l:List Oper}{k:K}{σ:Env}{w w0:World}{L' V9:List a8}{fuel i d:Nat}{listed:Array Bool}{ty:TypeId}{pos:String}{bJ:Array Edge}{g:Option (Nat×Bool)}{x y:Operand}
theorem lA{t e:TypeId}{j:Nat}{ie:TypeInfo}{z:Value}{size bytes:Nat}{v u:Value}{m m':Nat}{xs news:List Value}(hi:l[i]?=some ⟨some d,.call {callee:= .builtin .append,args:=#[x,y],argTypes:=#[t,t]},ty,pos,bJ,g⟩)
  (hg:∀a,Is n σ a->Region.wanted ⟨some d,.call {callee:= .builtin .append,args:=#[x,y],argTypes:=#[t,t]},ty,pos,bJ,g⟩ (yielded l.toArray a.tmps)=true) (hd:Nat.blt d n=true) (hH:Hp w0 w V9) (hL:V9[j]?=some (.row v e size m xs))
  (hs:∀v',L'.Sublist (V9.set j (.row v' e size (m+m') (xs++news)))) (hS:Sl w u size m' news)
  (hx:ev σ x=v) (hy:ev σ y=u) (ht:P.underlying t=some (.slice e)) (hie:P.info? e=some ie) (hz:ie.zero=some z)
  (hsize:ie.size=size) (hby:ie.bytes=bytes) (hzs:z.cells.size=size) (hsz:0<size) (h1:∀u∈news,u.oneCell'=true)
  (hbytes:(m+m')*bytes<=140737488355328) (h63:m+m'<=maxLen)
  (hk:∀v' w',Hp w0 w' (V9.set j (.row v' e size (m+m') (xs++news)))->AN P n l (fun w=>Hp w0 w L') k fuel (listed.setIfInBounds i true) (k7 σ d v') w'):AO P n l (fun w=>Hp w0 w L') k fuel listed σ w i:=by
 obtain⟨v',w',hr,h2,h3,h4⟩:=r7 (P:=P) (ty:=ty) ht hie hz hsize hby hzs hsz (hH.get hL) hS h1 h63 hbytes hH.size
 have hH':=hH.xM hL h2 h3 h4
 exact Bu hi hg hd (rW hx hy hr) (hH'.sub (hs v')) (hk v' w' hH')
end av3
end
end Go.Proofs.YtlhjdflgjbkpmaaGreatDoor.E
namespace Go.Proofs.YtlhjdflgjbkpmaaGreatDoor.M
def uI(P:Int->Bool)(n:Int):Int×Bool:=match(upto n).find? P with
 |some u=>(u,true)
 |none=>(0,false)
theorem abW{n:Int}:∀(k:Nat),(k:Int)<=n->upto n=upto k++((List.range (n.toNat-k)).map fun(i:Nat)=>((k+i:Nat):Int)):=fun k h=>by
 rw[upto,upto,show n.toNat=k+(n.toNat-k)by omega,WZ,gA]
 simp
theorem pH{P:Int->Bool}{n k:Int}(h0:0<=k)(hk:k<n)(hp:P k=true)(hf:∀j:Int,0<=j->j<k->P j=false):uI P n=(k,true):=by
 have h:(upto n).find? P=some k:=by
  rw[abW k.toNat J,List.find?_append]
  have h1:(upto (k.toNat:Int)).find? P=none:=by
   rw[List.find?_eq_none]
   intro x hx
   have:=cM.1 hx
   rw[hf x this.1 J];simp
  rw[h1,show n.toNat-k.toNat=(n.toNat-k.toNat-1)+1 by omega,Wt]
  simp only[Option.none_or,lf,Ks,fN h0,List.find?_cons,hp]
 rw[uI,h]
theorem sq{P:Int->Bool}{n:Int}(hf:∀j:Int,0<=j->j<n->P j=false):uI P n=(0,false):=by grind[upto,cM,uI]
theorem m9(P:Int->Bool)(n:Int):(∃k:Int,0<=k/\k<n/\P k=true/\(∀j:Int,0<=j->j<k->P j=false)/\uI P n=(k,true))\/((∀j:Int,0<=j->j<n->P j=false)/\uI P n=(0,false)):=by
 have key:∀m:Nat,(∃k:Int,0<=k/\k<m/\P k=true/\∀j:Int,0<=j->j<k->P j=false)\/∀j:Int,0<=j->j<m->P j=false:=fun m=>by
  induction m with
  |zero=>exact .inr fun j h1 h2=>by omega
  |succ m ih=>
   rcases ih with⟨k,h1,h2,h3,h4⟩|h
   .exact .inl ⟨k,h1,J,h3,h4⟩
   .cases hm:P m with
    |true=>exact .inl ⟨m,J,J,hm,h⟩
    |false=>
     refine .inr fun j h1 h2=> ?_
     by_cases e:j=m
     .rw[e];exact hm
     exact h j h1 J
 rcases key n.toNat with⟨k,h1,h2,h3,h4⟩|h
 .exact .inl ⟨k,h1,J,h3,h4,pH h1 J h3 h4⟩
 exact .inr ⟨fun j h1 h2=>h j h1 J,sq fun j h1 h2=>h j h1 J⟩
def iz(r:Rl)(i:Int):BitVec 64:=upR r (kH [i])
def bS(r:Rl)(i:Int):BitVec 64:=if Ar r i then Dp r (kH [i])else 0#64
theorem Q8(i j:Int):hasB (kH [i]) j=true↔j=i/\0<=i/\i<64:=by grind[yT,hasB,gJ,Tv]
theorem eK(r:Rl)(i j:Int):hasB (iz r i) j=bI r i j:=by
 have hp:=dB r
 rw[gG,kI,iz,afs]
 constructor
 .rintro⟨h1,x,h2,h3⟩
  rw[fN h1.1]at h3
  rw[<-((Q8 i x).1 h2).1];exact h3
 intro h
 have hb:=kJ h
 refine⟨J,i,(Q8 i i).2 ⟨rfl,J⟩,?_⟩
 rw[fN hb.2.1];exact h
theorem afC(r:Rl)(i j:Int):hasB (Dp r (kH [i])) j=bI r j i:=by
 have hp:=dB r
 rw[gG,kI,La]
 constructor
 .rintro⟨h1,x,h2,h3⟩
  rw[fN h1.1]at h3
  rw[<-((Q8 i x).1 h2).1];exact h3
 intro h
 have hb:=kJ h
 refine⟨J,i,(Q8 i i).2 ⟨rfl,J⟩,?_⟩
 rw[fN hb.1.1];exact h
theorem dH(r:Rl)(i j:Int):hasB (bS r i) j=bI r j i:=by grind[bS,Ar,afC,uH,Q6]
theorem tW{a b:BitVec 64}(h:∀j:Int,hasB a j=hasB b j):a=b:=eu fun j hj=>by
 have:=h j
 rw[hasB,hasB,yP,gB J]at this
 simpa using this
theorem eI{a b:BitVec 64}:dV a b=true↔∀j:Int,hasB a j=true->hasB b j=true:=by
 rw[E9]
 constructor
 .intro h j hj
  have:=kI.1 hj
  exact kI.2 ⟨this.1,h _ J this.2⟩
 intro h i hi hb
 have:=kI.1 (h i (alm hb))
 simpa using this.2
def nc(g:Int->BitVec 64)(i j u:Int):Bool:=hasB (g i&&&g j) u&&dV (g i&&&g j) (g u)
def z7(g:Int->BitVec 64)(n i j:Int):Int×Bool:=uI (nc g i j) n
theorem av5{s:BitVec 64}{a b:Int}(h0:0<=a)(hb:b<(gf s).length)(h:a<b):(gf s).getD a.toNat 0<(gf s).getD b.toNat 0:=by grind[List.pairwise_iff_getElem,ry,List.getElem?_eq_getElem]
theorem ZR{s:BitVec 64}{j:Int}(h:hasB s j=true):∃a:Int,0<=a/\a<(gf s).length/\(gf s).getD a.toNat 0=j:=by
 obtain⟨k,hk,he⟩:=sX ((fQ _ _).2 h)
 refine⟨k,J,J,?_⟩
 rw[eE,dN,ef hk,he];rfl
theorem afD{g:Int->BitVec 64}{n i j a:Int}(hn:∀u,hasB (g i&&&g j) u=true->u<n)(a0:0<=a)(a1:a<(gf (g i&&&g j)).length)(h:dV (g i&&&g j) (g ((gf (g i&&&g j)).getD a.toNat 0))=true)
  (hf:∀b:Int,0<=b->b<a->dV (g i&&&g j) (g ((gf (g i&&&g j)).getD b.toNat 0))=false):z7 g n i j=((gf (g i&&&g j)).getD a.toNat 0,true):=by
 have h1:=XC a0 a1
 have h2:=OF a0 a1
 refine pH h2.1 (hn _ h1) (by rw[nc,h1,h];rfl) fun x x0 x1=> ?_
 rw[nc]
 cases hc:hasB (g i&&&g j) x with
 |false=>rfl
 |true=>
  obtain⟨b,b0,b1,hb⟩:=ZR hc
  have hba:b<a:=by
   rcases WL b a with h3|h3|h3
   .exact h3
   .subst h3;omega
   have:=av5 a0 b1 h3;omega
  rw[<-hb,hf b b0 hba];rfl
theorem alo{g:Int->BitVec 64}{n i j a:Int}(a1:¬a<(gf (g i&&&g j)).length)(hf:∀b:Int,0<=b->b<a->dV (g i&&&g j) (g ((gf (g i&&&g j)).getD b.toNat 0))=false):z7 g n i j=(0,false):=by grind[gf,dV,z7,sq,nc,hasB,ZR]
def iO(r:Rl)(i j:Int):Int×Bool:=z7 (iz r) (pts r) i j
def qh(r:Rl)(i j:Int):Int×Bool:=z7 (bS r) (pts r) i j
theorem afE{r:Rl}{i j u:Int}(h:hasB (iz r i&&&iz r j) u=true):u<pts r:=by
 rw[eT,cH,eK]at h;exact(kJ h.1).2.2
theorem abX{r:Rl}{i j u:Int}(h:hasB (bS r i&&&bS r j) u=true):u<pts r:=by
 rw[eT,cH,dH]at h;exact(kJ h.1).1.2
def Dq(r:Rl)(i j u v:Int):Bool:=bI r i u&&bI r j u&&(upto v).all fun x=> !(bI r i x&&bI r j x&& !bI r u x)
def Dr(r:Rl)(i j u v:Int):Bool:=bI r u i&&bI r u j&&(upto v).all fun x=> !(bI r x i&&bI r x j&& !bI r x u)
theorem Xa{r:Rl}{i j u v:Int}(h0:0<=v):Dq r i j u (v+1)=(Dq r i j u v&& !(bI r i v&&bI r j v&& !bI r u v)):=by grind[Dq,kC]
theorem Xb{r:Rl}{i j u v:Int}(h0:0<=v):Dr r i j u (v+1)=(Dr r i j u v&& !(bI r v i&&bI r v j&& !bI r v u)):=by grind[Dr,kC]
theorem G9(r:Rl)(i j u:Int){v:Int}(hv:v=pts r):nc (iz r) i j u=Dq r i j u v:=by
 subst hv
 rw[nc,Dq,eT,eK,eK,gG,cH,cH (_&&_)]
 refine WW fun _=> ?_
 rw[eI,iC]
 constructor
 .intro h x hx
  have:=h x
  rw[eT,eK,eK,eK,cH]at this
  cases h1:bI r i x with
  |false=>rfl
  |true=>cases h2:bI r j x with
   |false=>rfl
   |true=>rw[this ⟨h1,h2⟩];rfl
 intro h x hx
 rw[eT,eK,eK,cH]at hx
 have h3:=h x (cM.2 (kJ hx.1).2)
 rw[hx.1,hx.2]at h3
 rw[eK];simpa using h3
theorem He(r:Rl)(i j u:Int){v:Int}(hv:v=pts r):nc (bS r) i j u=Dr r i j u v:=by
 subst hv
 rw[nc,Dr,eT,dH,dH,gG,cH,cH (_&&_)]
 refine WW fun _=> ?_
 rw[eI,iC]
 constructor
 .intro h x hx
  have:=h x
  rw[eT,dH,dH,dH,cH]at this
  cases h1:bI r x i with
  |false=>rfl
  |true=>cases h2:bI r x j with
   |false=>rfl
   |true=>rw[this ⟨h1,h2⟩];rfl
 intro h x hx
 rw[eT,dH,dH,cH]at hx
 have h3:=h x (cM.2 (kJ hx.1).1)
 rw[hx.1,hx.2]at h3
 rw[dH];simpa using h3
theorem TB{r:Rl}{i j u v:Int}(u0:0<=u)(u1:u<pts r)(hv:v=pts r)(h:Dq r i j u v=true)(hf:∀x:Int,0<=x->x<u->nc (iz r) i j x=false):iO r i j=(u,true):=
 pH u0 u1 (by rw[G9 r i j u hv];exact h) hf
theorem alp{r:Rl}{i j u:Int}(u1:¬u<pts r)(hf:∀x:Int,0<=x->x<u->nc (iz r) i j x=false):iO r i j=(0,false):=sq fun x h1 h2=>hf x h1 J
theorem TC{r:Rl}{i j u v:Int}(u0:0<=u)(u1:u<pts r)(hv:v=pts r)(h:Dr r i j u v=true)(hf:∀x:Int,0<=x->x<u->nc (bS r) i j x=false):qh r i j=(u,true):=
 pH u0 u1 (by rw[He r i j u hv];exact h) hf
theorem alq{r:Rl}{i j u:Int}(u1:¬u<pts r)(hf:∀x:Int,0<=x->x<u->nc (bS r) i j x=false):qh r i j=(0,false):=sq fun x h1 h2=>hf x h1 J
def tM(r:Rl)(i j:Int):Bool:=(iO r i j).2&&(qh r i j).2
def sr(r:Rl):Bool:=decide (1<=r.n/\r.n<=64)&&fT r&&(upto r.n).all fun i=>(upto i).all fun j=>tM r i j
theorem JA{r:Rl}(h:¬(1<=r.n/\r.n<=64)):sr r=false:=by grind[sr]
theorem ZS{r:Rl}(h:fT r=false):sr r=false:=by rw[sr,h];simp
theorem JC{r:Rl}{i j:Int}(i0:i<r.n)(j0:0<=j)(j1:j<i)(h:tM r i j=false):sr r=false:=by
 cases hc:sr r with
 |false=>rfl
 |true=>
  rw[sr,cH,iC]at hc
  have h1:=hc.2 i (cM.2 ⟨J,i0⟩)
  rw[iC]at h1
  rw[h1 j (cM.2 ⟨j0,j1⟩)]at h;cases h
theorem ZT{r:Rl}{k:Int}(hn:1<=r.n/\r.n<=64)(ho:fT r=true)(hk:¬k<r.n)(hf:∀i j:Int,0<=j->j<i->i<k->tM r i j=true):sr r=true:=by grind[sr,cM]
def eL(r:Rl)(w:BitVec 64):Int×Bool:=uI (fun i=>decide (bS r i=w)) (pts r)
theorem CI{r:Rl}{w:BitVec 64}{k:Int}(h0:0<=k)(hk:k<pts r)(h:bS r k=w)(hf:∀j:Int,0<=j->j<k->bS r j≠w):eL r w=(k,true):=by grind[Rl,pts,bS,eL,pH]
theorem Fg{r:Rl}{w:BitVec 64}{k:Int}(hk:¬k<pts r)(hf:∀j:Int,0<=j->j<k->bS r j≠w):eL r w=(0,false):=by grind[Rl,pts,bS,eL,sq]
def jE(r:Rl)(a b:BitVec 64):BitVec 64:=if((eL r a).2&&(eL r b).2&&(iO r (eL r a).1 (eL r b).1).2)=true then bS r (iO r (eL r a).1 (eL r b).1).1 else a|||b
theorem OH{r:Rl}{a b:BitVec 64}(h1:(eL r a).2=true)(h2:(eL r b).2=true)(h3:(iO r (eL r a).1 (eL r b).1).2=true):jE r a b=bS r (iO r (eL r a).1 (eL r b).1).1:=by grind[jE]
theorem OI{r:Rl}{a b:BitVec 64}(h1:(eL r a).2=false):jE r a b=a|||b:=by rw[jE,h1];rfl
theorem OJ{r:Rl}{a b:BitVec 64}(h1:(eL r b).2=false):jE r a b=a|||b:=by rw[jE,h1];simp
theorem abY{r:Rl}{a b:BitVec 64}(h1:(iO r (eL r a).1 (eL r b).1).2=false):jE r a b=a|||b:=by rw[jE,h1];simp
def Eo(r:Rl)(g:Int->BitVec 64):Int×Bool:=uI (fun i=>decide (g i=below (pts r))) (pts r)
theorem alr{r:Rl}{g:Int->BitVec 64}{k:Int}(h0:0<=k)(hk:k<pts r)(h:g k=below (pts r))(hf:∀j:Int,0<=j->j<k->g j≠below (pts r)):Eo r g=(k,true):=by grind[Rl,pts,below,Eo,pH]
theorem aqY{r:Rl}{g:Int->BitVec 64}{k:Int}(hk:¬k<pts r)(hf:∀j:Int,0<=j->j<k->g j≠below (pts r)):Eo r g=(0,false):=by grind[Rl,pts,below,Eo,sq]
def qp(r:Rl)(i k:Int):List Int:=(upto k).filter (bI r · i)
theorem abZ{r:Rl}{i k:Int}(h0:0<=k)(h:bI r k i=true):qp r i k++[k]=qp r i (k+1):=by grind[qp,kC]
theorem afF{r:Rl}{i k:Int}(h0:0<=k)(h:bI r k i=false):qp r i k=qp r i (k+1):=by grind[qp,kC]
theorem OK{r:Rl}{i k:Int}:(qp r i k).length<=k.toNat:=by grind[qp,r9]
theorem TD(l:List Int)(j:Int):hasB (kH l) j=true↔(0<=j/\j<64)/\j∈l:=by grind[kI,gJ]
theorem ab0{r:Rl}{i k:Int}(hk:k=pts r):kH (qp r i k)=bS r i:=tW fun j=>by
 subst hk
 have hp:=dB r
 rw[gG,TD,dH,qp,wW,cM]
 constructor
 .exact fun h=>h.2.2
 intro h
 have:=(kJ h).1
 exact⟨J,this,h⟩
def als(r:Rl)(t:Bool)(i k:Int):Bool:=(upto k).all fun x=>if t then bI r x i else bI r i x
theorem Lk{r:Rl}{i k:Int}(hk:k=pts r):als r false i k=true↔iz r i=below (pts r):=by
 subst hk
 rw[als,iC]
 constructor
 .intro h
  refine tW fun j=> ?_
  rw[gG,eK,nY]
  constructor
  .intro h1;have:=kJ h1;have:=dB r;omega
  intro h1;simpa using h j (cM.2 J)
 intro h x hx
 have h1:=cM.1 hx
 have hp:=dB r
 have h2:hasB (iz r i) x=true:=by rw[h,nY];omega
 rw[eK]at h2;simpa using h2
def aN3:Rl:=⟨5,fun i=>[31#64,18#64,20#64,24#64,16#64].getD i 0#64⟩
theorem OL(g:Int->BitVec 64)(n i j:Int):z7 g n i j=z7 g n j i:=by
 rw[z7,z7]
 congr 1
 funext u
 rw[nc,nc,BitVec.and_comm]
theorem join_comm(r:Rl)(i j:Int):iO r i j=iO r j i:=OL _ _ _ _
theorem meet_comm(r:Rl)(i j:Int):qh r i j=qh r j i:=OL _ _ _ _
theorem iS{r:Rl}(h:sr r=true):(1<=r.n/\r.n<=64)/\fT r=true/\pts r=r.n/\∀i j:Int,0<=j->j<i->i<r.n->tM r i j=true:=by
 rw[sr,cH,cH,ep,iC]at h
 refine⟨h.1.1,h.1.2,by unfold pts;omega,fun i j h1 h2 h3=> ?_⟩
 have h4:=h.2 i (cM.2 ⟨J,h3⟩)
 rw[iC]at h4
 exact h4 j (cM.2 ⟨h1,h2⟩)
structure IsJ(r:Rl)(i j k:Int):Prop where
 a:bI r i k=true
 b:bI r j k=true
 l:∀v:Int,bI r i v=true->bI r j v=true->bI r k v=true
structure IsM(r:Rl)(i j k:Int):Prop where
 a:bI r k i=true
 b:bI r k j=true
 g:∀v:Int,bI r v i=true->bI r v j=true->bI r v k=true
theorem TE{r:Rl}{i j k:Int}:nc (iz r) i j k=true↔IsJ r i j k:=by
 rw[nc,eT,eK,eK,cH,cH,eI]
 constructor
 .rintro⟨⟨h1,h2⟩,h3⟩
  refine⟨h1,h2,fun v h4 h5=> ?_⟩
  have:=h3 v
  rw[eT,eK,eK,eK,cH]at this
  exact this ⟨h4,h5⟩
 rintro⟨h1,h2,h3⟩
 refine⟨⟨h1,h2⟩,fun v hv=> ?_⟩
 rw[eT,eK,eK,cH]at hv
 rw[eK];exact h3 v hv.1 hv.2
theorem TF{r:Rl}{i j k:Int}:nc (bS r) i j k=true↔IsM r i j k:=by
 rw[nc,eT,dH,dH,cH,cH,eI]
 constructor
 .rintro⟨⟨h1,h2⟩,h3⟩
  refine⟨h1,h2,fun v h4 h5=> ?_⟩
  have:=h3 v
  rw[eT,dH,dH,dH,cH]at this
  exact this ⟨h4,h5⟩
 rintro⟨h1,h2,h3⟩
 refine⟨⟨h1,h2⟩,fun v hv=> ?_⟩
 rw[eT,dH,dH,cH]at hv
 rw[dH];exact h3 v hv.1 hv.2
theorem xP{r:Rl}(h:fT r=true){i:Int}(hi:0<=i/\i<pts r):bI r i i=true:=by grind[rz,uG,xO]
theorem JD{r:Rl}(h:sr r=true){i j:Int}(hi:0<=i/\i<r.n)(hj:0<=j/\j<r.n):(iO r i j).2=true/\IsJ r i j (iO r i j).1:=by
 obtain⟨hn,ho,hp,hb⟩:=iS h
 rcases m9 (nc (iz r) i j) (pts r)with⟨k,k0,k1,k2,-,k3⟩|⟨h1,h2⟩
 .have h3:iO r i j=(k,true):=k3
  rw[h3];exact⟨rfl,TE.1 k2⟩
 have h3:iO r i j=(0,false):=h2
 exfalso
 rcases WL i j with hl|hl|hl
 .have:=hb j i hi.1 hl hj.2
  rw[tM,cH,join_comm,h3]at this;cases this.1
 .subst hl
  have h4:=h1 i hi.1 J
  have h5:=xP ho (show 0<=i/\i<pts r by omega)
  rw[TE.2 ⟨h5,h5,fun v hv _=>hv⟩]at h4;cases h4
 have:=hb i j hj.1 hl hi.2
 rw[tM,cH,h3]at this;cases this.1
theorem JE{r:Rl}(h:sr r=true){i j:Int}(hi:0<=i/\i<r.n)(hj:0<=j/\j<r.n):(qh r i j).2=true/\IsM r i j (qh r i j).1:=by
 obtain⟨hn,ho,hp,hb⟩:=iS h
 rcases m9 (nc (bS r) i j) (pts r)with⟨k,k0,k1,k2,-,k3⟩|⟨h1,h2⟩
 .have h3:qh r i j=(k,true):=k3
  rw[h3];exact⟨rfl,TF.1 k2⟩
 have h3:qh r i j=(0,false):=h2
 exfalso
 rcases WL i j with hl|hl|hl
 .have:=hb j i hi.1 hl hj.2
  rw[tM,cH,meet_comm,h3]at this;cases this.2
 .subst hl
  have h4:=h1 i hi.1 J
  have h5:=xP ho (show 0<=i/\i<pts r by omega)
  rw[TF.2 ⟨h5,h5,fun v hv _=>hv⟩]at h4;cases h4
 have:=hb i j hj.1 hl hi.2
 rw[tM,cH,h3]at this;cases this.2
section aDr
variable{r:Rl}(h:sr r=true){a b c:Int}(ha:0<=a/\a<r.n)(hb:0<=b/\b<r.n)(hc:0<=c/\c<r.n)
include h ha hb
theorem ZU:0<=(iO r a b).1/\(iO r a b).1<r.n:=by
 have:=(kJ (JD h ha hb).2.a).2
 rw[(iS h).2.2.1]at this;exact this
theorem aop:0<=(qh r a b).1/\(qh r a b).1<r.n:=by
 have:=(kJ (JE h ha hb).2.a).1
 rw[(iS h).2.2.1]at this;exact this
theorem ab1:bS r (qh r a b).1=bS r a&&&bS r b:=tW fun j=>by
 have ho:=(iS h).2.1
 have hm:=(JE h ha hb).2
 rw[eT,dH,dH,dH,gG,cH]
 exact⟨fun h1=>⟨sj ho h1 hm.a,sj ho h1 hm.b⟩,fun h1=>hm.g j h1.1 h1.2⟩
include hc
end aDr
theorem alu{r:Rl}(h:sr r=true){a b:Int}(ha:0<=a/\a<r.n)(hb:0<=b/\b<r.n):(bI r a b==dV (bS r a) (bS r b))=true:=by
 have ho:=(iS h).2.1
 rw[xb,gG,eI]
 constructor
 .intro h1 j hj
  rw[dH]at hj⊢;exact sj ho hj h1
 intro h1
 have:=h1 a
 rw[dH,dH]at this
 exact this (xP ho (by rw[(iS h).2.2.1];exact ha))
theorem alv{r:Rl}(h:sr r=true):∃m:Int,(0<=m/\m<r.n)/\∀x:Int,0<=x->x<r.n->bI r m x=true:=by
 have hs:=iS h
 have key:∀k:Nat,(k:Int)<r.n->∃m:Int,(0<=m/\m<r.n)/\∀x:Int,0<=x->x<=k->bI r m x=true:=fun k=>by
  induction k with
  |zero=>exact fun hk=>⟨0,J,fun x h1 h2=>by rw[show x=0 by omega];exact xP hs.2.1 J⟩
  |succ k ih=>
   intro hk
   obtain⟨m,h1,h2⟩:=ih J
   have hm:=(JE h h1 (show 0<=((k+1:Nat):Int)/\((k+1:Nat):Int)<r.n by omega)).2
   refine⟨_,aop h h1 (show 0<=((k+1:Nat):Int)/\((k+1:Nat):Int)<r.n by omega),fun x h3 h4=> ?_⟩
   by_cases he:x=((k+1:Nat):Int)
   .rw[he];exact hm.b
   exact sj hs.2.1 hm.a (h2 x h3 J)
 obtain⟨m,h1,h2⟩:=key (r.n-1).toNat J
 exact⟨m,h1,fun x h3 h4=>h2 x h3 J⟩
theorem alw{r:Rl}(h:sr r=true):(Eo r (iz r)).2=true/\(0<=(Eo r (iz r)).1/\(Eo r (iz r)).1<r.n)/\∀x:Int,0<=x->x<r.n->bI r (Eo r (iz r)).1 x=true:=by
 have hs:=iS h
 rcases m9 (fun i=>decide (iz r i=below (pts r))) (pts r)with⟨k,k0,k1,k2,-,k3⟩|⟨h1,-⟩
 .have h3:Eo r (iz r)=(k,true):=k3
  rw[h3]
  refine⟨rfl,by rw[hs.2.2.1]at k1;exact⟨k0,k1⟩,fun x h4 h5=> ?_⟩
  have:=(Lk (r:=r) (i:=k) O).2 (Kh k2)
  rw[als,iC]at this
  simpa using this x (cM.2 J)
 obtain⟨m,hm,hx⟩:=alv h
 have h4:=h1 m hm.1 J
 rw[wg]at h4
 exact absurd ((Lk (r:=r) (i:=m) O).1 (by
  rw[als,iC]
  intro x hx2
  have:=cM.1 hx2
  simpa using hx x this.1 J)) h4
theorem word_inj{r:Rl}(ho:fT r=true){a b:Int}(ha:0<=a/\a<pts r)(hb:0<=b/\b<pts r)(e:bS r a=bS r b):a=b:=by
 have h1:hasB (bS r b) a=true:=by rw[<-e,dH];exact xP ho ha
 have h2:hasB (bS r a) b=true:=by rw[e,dH];exact xP ho hb
 rw[dH]at h1 h2
 exact(uG ho).2 _ _ h1 h2
theorem uJ{r:Rl}(ho:fT r=true){a:Int}(ha:0<=a/\a<pts r):eL r (bS r a)=(a,true):=by grind[CI,word_inj]
theorem ab2{r:Rl}(h:sr r=true){a b:Int}(ha:0<=a/\a<r.n)(hb:0<=b/\b<r.n):jE r (bS r a) (bS r b)=bS r (iO r a b).1:=by grind[Rl,sr,jE,bS,iO,iS,uJ,pts,OH,JD]
def di(r:Rl):Bool:=decide (1<=r.n/\r.n<=8)&&decide ((ew r).eq (iQ r))
theorem gC{r:Rl}(h:di r=true):(1<=r.n/\r.n<=8)/\pts r=r.n/\(ew r).eq (iQ r):=by grind[di,pts]
theorem Hf{r:Rl}(h:di r=true){i:Int}(hi:0<=i/\i<r.n):bI r i i=true:=by simp_all[gC,rz,xO]
theorem JF{r:Rl}(h:di r=true){i j k:Int}(h1:bI r i j=true)(h2:bI r j k=true):bI r i k=true:=by grind[Rl,di,bI,gC,rz,mC]
theorem Au{r:Rl}(h:di r=true){i j:Int}(h1:bI r i j=true):(0<=i/\i<r.n)/\(0<=j/\j<r.n):=by
 have:=kJ h1
 rw[(gC h).2.1]at this;exact this
theorem OM(r:Rl)(s:BitVec 64)(j:Int):hasB (Dp r s) j=true↔∃i:Int,hasB s i=true/\bI r j i=true:=by
 have hp:=dB r
 rw[kI,La]
 constructor
 .rintro⟨h1,i,h2,h3⟩;rw[fN h1.1]at h3;exact⟨i,h2,h3⟩
 rintro⟨i,h2,h3⟩
 have hb:=kJ h3
 exact⟨J,i,h2,by rw[fN hb.1.1];exact h3⟩
def Iq(r:Rl)(w:BitVec 64)(o:Int):BitVec 64:=(w>>>(BitVec.ofInt 64 (8*o)).toNat)&&&below r.n
theorem TG{r:Rl}{w:BitVec 64}{o:Int}(ho:0<=o/\o<8)(hn:r.n<=8)(x:Int):hasB (Iq r w o) x=true↔(0<=x/\x<r.n)/\hasB w (8*o+x)=true:=by grind[Iq,eT,nY,kI,m7]
def wo(f:Int->BitVec 64)(k:Int):BitVec 64:=(upto k).foldl (fun a o=>a|||(f o<<<(BitVec.ofInt 64 (8*o)).toNat)) 0#64
theorem Hg{f:Int->BitVec 64}{k:Int}(h0:0<=k):wo f k|||(f k<<<(BitVec.ofInt 64 (8*k)).toNat)=wo f (k+1):=by grind[wo,kC]
theorem alx{a:BitVec 64}{o:Int}(ho:0<=o/\o<8)(z:Int):hasB (a<<<(BitVec.ofInt 64 (8*o)).toNat) z=true↔(0<=z/\z<64)/\hasB a (z-8*o)=true:=by grind[kI,m7]
theorem TH{f:Int->BitVec 64}(z:Int):∀k:Nat,k<=8->(hasB (wo f k) z=true↔∃o:Int,(0<=o/\o<k)/\(0<=z/\z<64)/\hasB (f o) (z-8*o)=true)
 |0,_=>by
  rw[show wo f ((0:Nat):Int)=0#64 from O,uH]
  constructor
  .intro h;cases h
  rintro⟨o,h,-⟩;omega
 |k+1,hk=>by
  have e:wo f ((k+1:Nat):Int)=wo f (k:Int)|||(f k<<<(BitVec.ofInt 64 (8*(k:Int))).toNat):=(Hg (k:=(k:Int)) J).symm
  rw[e,Jw,ou,TH z k J,alx J]
  constructor
  .rintro(⟨o,h1,h2⟩|⟨h1,h2⟩)
   .exact⟨o,J,h2⟩
   exact⟨k,J,h1,h2⟩
  rintro⟨o,h1,h2,h3⟩
  by_cases he:o=k
  .subst he;exact .inr ⟨h2,h3⟩
  exact .inl ⟨o,J,h2,h3⟩
theorem TI{f:Int->BitVec 64}{n:Int}(hn:0<=n/\n<=8)(hf:∀o y:Int,0<=o->o<n->hasB (f o) y=true->y<8)(z:Int):hasB (wo f n) z=true↔∃o y:Int,(0<=o/\o<n)/\hasB (f o) y=true/\z=8*o+y:=by
 have h:=TH (f:=f) z n.toNat J
 rw[fN hn.1]at h
 rw[h]
 constructor
 .rintro⟨o,h1,h2,h3⟩;exact⟨o,z-8*o,h1,h3,J⟩
 rintro⟨o,y,h1,h2,h3⟩
 have:=yT h2
 have:=hf o y h1.1 h1.2 h2
 exact⟨o,h1,J,by rw[show z-8*o=y by omega];exact h2⟩
def Hh(r:Rl)(w:BitVec 64)(o:Int):BitVec 64:=wh (fun p=>Dp r (Iq r w p)) (gf (iz r o))
def fI(r:Rl)(w:BitVec 64):BitVec 64:=if di r then wo (Hh r w) r.n else 0#64
theorem Ep{r:Rl}(h:di r=true)(w:BitVec 64)(o x:Int):hasB (Hh r w o) x=true↔∃p y:Int,bI r o p=true/\bI r x y=true/\hasB w (8*p+y)=true:=by
 have hs:=gC h
 rw[Hh,Lh]
 constructor
 .rintro⟨p,hp,h1⟩
  rw[fQ,eK]at hp
  have hb:=Au h hp
  rw[OM]at h1
  obtain⟨y,h2,h3⟩:=h1
  rw[TG J hs.1.2]at h2
  exact⟨p,y,hp,h3,h2.2⟩
 rintro⟨p,y,h1,h2,h3⟩
 have hb:=Au h h1
 refine⟨p,by rw[fQ,eK];exact h1,?_⟩
 rw[OM]
 exact⟨y,(TG J hs.1.2 y).2 ⟨(Au h h2).2,h3⟩,h2⟩
theorem jc{r:Rl}(h:di r=true)(w:BitVec 64)(z:Int):hasB (fI r w) z=true↔∃o x p y:Int,z=8*o+x/\bI r o p=true/\bI r x y=true/\hasB w (8*p+y)=true:=by
 have hs:=gC h
 rw[fI,aQ h,TI J (fun o y _ _ hy=>by
  obtain⟨p,q,-,h2,-⟩:=(Ep h w o y).1 hy
  have:=Au h h2;omega)]
 constructor
 .rintro⟨o,x,h1,h2,h3⟩
  obtain⟨p,y,h4⟩:=(Ep h w o x).1 h2
  exact⟨o,x,p,y,h3,h4⟩
 rintro⟨o,x,p,y,h3,h4⟩
 exact⟨o,x,(Au h h4.1).1,(Ep h w o x).2 ⟨p,y,h4⟩,h3⟩
theorem TJ{r:Rl}{w:BitVec 64}(h:di r=false):fI r w=0#64:=by rw[fI,h];rfl
theorem ab3{r:Rl}{w:BitVec 64}(h:di r=true):wo (Hh r w) r.n=fI r w:=by rw[fI,h];rfl
def Fh(r:Rl)(w:BitVec 64)(o x:Int):Bool:=decide (0<=o/\0<=x/\o<r.n/\x<r.n)&&hasB w (8*o+x)
theorem CJ{r:Rl}{w:BitVec 64}{o x:Int}:Fh r w o x=true↔(0<=o/\0<=x/\o<r.n/\x<r.n)/\hasB w (8*o+x)=true:=by grind[Fh]
def Q9(r:Rl)(w:BitVec 64)(o x:Int):Bool:=(upto r.n).any fun p=>(upto r.n).any fun y=>Fh r w p y&&bI r o p&&bI r x y
theorem JG{r:Rl}{w:BitVec 64}{o x:Int}:Q9 r w o x=true↔∃p y:Int,Fh r w p y=true/\bI r o p=true/\bI r x y=true:=by
 rw[Q9,DZ]
 constructor
 .rintro⟨p,-,h⟩
  rw[DZ]at h
  obtain⟨y,-,h⟩:=h
  rw[cH,cH]at h
  exact⟨p,y,h.1.1,h.1.2,h.2⟩
 rintro⟨p,y,h1,h2,h3⟩
 have hb:=(CJ.1 h1).1
 refine⟨p,cM.2 J,?_⟩
 rw[DZ]
 exact⟨y,cM.2 J,by rw[h1,h2,h3];rfl⟩
theorem afG{r:Rl}{w:BitVec 64}{o x k:Int}(hk:¬k<r.n)(hf:∀p y:Int,0<=p->p<k->¬(Fh r w p y=true/\bI r o p=true/\bI r x y=true)):Q9 r w o x=false:=by grind[Q9,JG,CJ]
def Er(r:Rl)(w:BitVec 64)(o k:Int):List Int:=((upto k).filter (Q9 r w o ·)).map (8*o+·)
def BA(r:Rl)(w:BitVec 64)(k:Int):List Int:=(upto k).flatMap fun o=>Er r w o r.n
theorem afH{r:Rl}{w:BitVec 64}{o k:Int}(h0:0<=k)(h:Q9 r w o k=true):Er r w o k++[8*o+k]=Er r w o (k+1):=by grind[Er,kC]
theorem aly{r:Rl}{w:BitVec 64}{o k:Int}(h0:0<=k)(h:Q9 r w o k=false):Er r w o k=Er r w o (k+1):=by grind[Er,kC]
theorem TK{r:Rl}{w:BitVec 64}{k x:Int}(h0:0<=k)(hx:x=r.n):BA r w k++Er r w k x=BA r w (k+1):=by grind[BA,kC]
theorem Ll{r:Rl}{w:BitVec 64}{o k:Int}:(Er r w o k).length<=k.toNat:=by grind[Er,r9]
theorem ZV{f:Int->List Int}{m:Nat}(h:∀o,(f o).length<=m):∀l:List Int,(l.flatMap f).length<=l.length*m
 |[]=>by simp
 |o::l=>by
  have:=ZV h l
  have:=h o
  rw[tH,cV,eO,kO];omega
theorem Lm{r:Rl}{w:BitVec 64}{k:Int}(hn:r.n<=8)(hk:k<=8):(BA r w k).length<=64:=by
 have h:=ZV (f:=fun o=>Er r w o r.n) (m:=8) (fun o=>jP Ll J) (upto k)
 rw[r9]at h
 have:k.toNat*8<=64:=J
 exact jP h this
theorem TL{r:Rl}{w:BitVec 64}{o k z:Int}:z∈Er r w o k↔∃x:Int,(0<=x/\x<k)/\Q9 r w o x=true/\z=8*o+x:=by
 rw[Er,fU]
 constructor
 .rintro⟨x,hx,rfl⟩
  rw[wW,cM]at hx
  exact⟨x,hx.1,hx.2,rfl⟩
 rintro⟨x,h1,h2,rfl⟩
 exact⟨x,wW.2 ⟨cM.2 h1,h2⟩,rfl⟩
theorem ab4{r:Rl}{w:BitVec 64}{k:Int}(h:di r=true)(hk:k=r.n):kH (BA r w k)=fI r w:=tW fun z=>by
 subst hk
 have hs:=gC h
 rw[gG,TD,jc h,BA,List.mem_flatMap]
 constructor
 .rintro⟨h1,o,ho,hz⟩
  rw[TL]at hz
  obtain⟨x,hx,hf,rfl⟩:=hz
  obtain⟨p,y,h2,h3,h4⟩:=JG.1 hf
  exact⟨o,x,p,y,rfl,h3,h4,(CJ.1 h2).2⟩
 rintro⟨o,x,p,y,rfl,h2,h3,h4⟩
 have b1:=Au h h2;have b2:=Au h h3
 refine⟨J,o,cM.2 b1.1,?_⟩
 rw[TL]
 exact⟨x,b2.1,JG.2 ⟨p,y,CJ.2 ⟨J,h4⟩,h2,h3⟩,rfl⟩
def o5(r:Rl)(w:BitVec 64):Bool:=di r&&decide (fI r w=w)
def aKo(r:Rl)(s:BitVec 64)(x k:Int):Bool:=(upto k).any fun y=>hasB s y&&bI r y x
def aKp(r:Rl)(s:BitVec 64)(o k:Int):List Int:=((upto k).filter fun x=> !hasB (upR r s) x).map (8*o+·)
def aDs(o:Int)(s:BitVec 64):Int->BitVec 64:=fun x=>if x=o then s else 0#64
def aoq(r:Rl)(o:Int):Bool:=di r&&decide (0<=o/\o<r.n)
def av6(r:Rl)(o:Int)(s:BitVec 64):BitVec 64:=if aoq r o then fI r (wo (aDs o (below r.n&&& ~~~upR r s)) r.n)else 0#64
def afI(r:Rl)(w:BitVec 64)(o:Int):BitVec 64:=if aoq r o then below r.n&&& ~~~Iq r w o else 0#64
def aKq(r:Rl)(w:BitVec 64)(o k:Int):List Int:=(upto k).filter fun x=> !Fh r w o x
def aDt(r:Rl)(w:BitVec 64)(k:Int):List Int:=(upto k).filter fun o=>decide (Iq r w o≠0#64)
def Ra(r:Rl)(w:BitVec 64):BitVec 64:=if di r then kH (aDt r w r.n)else 0#64
def XF(r:Rl):BitVec 64:=if di r then wo (fun _=>below r.n) r.n else 0#64
theorem ZW{r:Rl}(h:di r=true)(z:Int):hasB (XF r) z=true↔∃o x:Int,(0<=o/\o<r.n)/\(0<=x/\x<r.n)/\z=8*o+x:=by
 have hs:=gC h
 rw[XF,aQ h,TI J fun o y _ _ hy=>by rw[nY]at hy;omega]
 constructor
 .rintro⟨o,x,h1,h2,h3⟩
  rw[nY]at h2
  exact⟨o,x,h1,J,h3⟩
 rintro⟨o,x,h1,h2,h3⟩
 exact⟨o,x,h1,(nY _ _).2 J,h3⟩
def aN4(r:Rl)(k:Int):List Int:=(upto k).flatMap fun o=>(upto r.n).map (8*o+·)
def JH(r:Rl):Int:=if di r then z6 r (pts r)*z6 r (pts r)else 0
theorem Ln{r:Rl}(h:di r=true):z6 r (pts r)*z6 r (pts r)=JH r:=by rw[JH,h];rfl
theorem afJ{r:Rl}(h:di r=true)(v:BitVec 64):dV (v&&&XF r) (fI r v)=true:=eI.2 fun z hz=>by
 rw[eT,cH,ZW h]at hz
 obtain⟨h1,o,x,h2,h3,rfl⟩:=hz
 exact(jc h v _).2 ⟨o,x,o,x,rfl,Hf h h2,Hf h h3,h1⟩
theorem XG{r:Rl}(h:di r=true)(v:BitVec 64):dV (fI r v) (XF r)=true:=eI.2 fun z hz=>by
 obtain⟨o,x,p,y,rfl,h1,h2,-⟩:=(jc h v z).1 hz
 exact(ZW h _).2 ⟨o,x,(Au h h1).1,(Au h h2).1,rfl⟩
theorem aDu{o x p y:Int}(hx:0<=x/\x<8)(hy:0<=y/\y<8)(h:8*o+x=8*p+y):o=p/\x=y:=J
theorem Rb{r:Rl}(h:di r=true)(v:BitVec 64):fI r (fI r v)=fI r v:=tW fun z=>by
 have hs:=gC h
 rw[gG,jc h,jc h]
 constructor
 .rintro⟨o,x,p,y,rfl,h1,h2,h3⟩
  obtain⟨p',y',q,t,e,h4,h5,h6⟩:=(jc h v _).1 h3
  have b1:=Au h h1;have b2:=Au h h2;have b3:=Au h h4;have b4:=Au h h5
  obtain⟨rfl,rfl⟩:=aDu J J e
  exact⟨o,x,q,t,rfl,JF h h1 h4,JF h h2 h5,h6⟩
 rintro⟨o,x,p,y,rfl,h1,h2,h3⟩
 have b1:=Au h h1;have b2:=Au h h2
 exact⟨o,x,o,x,rfl,Hf h b1.1,Hf h b2.1,(jc h v _).2 ⟨o,x,p,y,rfl,h1,h2,h3⟩⟩
theorem Lo{r:Rl}(h:di r=true){v w:BitVec 64}(hv:dV v w=true):dV (fI r v) (fI r w)=true:=by grind[eI,jc]
theorem Hi{r:Rl}(h:di r=true){w:BitVec 64}(e:fI r w=w):o5 r w=true:=by grind[o5]
theorem av7{r:Rl}(h:di r=true)(v w:BitVec 64):o5 r (fI r v|||fI r w)=true:=Hi h (tW fun z=>by
 rw[gG]
 constructor
 .intro hz
  obtain⟨o,x,p,y,e,h1,h2,h3⟩:=(jc h _ z).1 hz
  rw[Jw,ou]at h3⊢
  rcases h3 with h3|h3
  .left;rw[<-Rb h v];exact(jc h _ z).2 ⟨o,x,p,y,e,h1,h2,h3⟩
  right;rw[<-Rb h w];exact(jc h _ z).2 ⟨o,x,p,y,e,h1,h2,h3⟩
 intro hz
 have h1:hasB (XF r) z=true:=by
  rw[Jw,ou]at hz
  rcases hz with hz|hz
  .exact eI.1 (XG h v) z hz
  exact eI.1 (XG h w) z hz
 exact eI.1 (afJ h _) z (by rw[eT,hz,h1];rfl))
theorem aqZ{r:Rl}(h:di r=true)(v w:BitVec 64):o5 r (fI r v&&&fI r w)=true:=Hi h (tW fun z=>by
 rw[gG]
 constructor
 .intro hz
  have h1:=eI.1 (Lo h (Fb (fI r v) (fI r w))) z hz
  have h2:=eI.1 (Lo h (v:=fI r v&&&fI r w) (w:=fI r w) (by rw[BitVec.and_comm];exact Fb _ _)) z hz
  rw[Rb h]at h1 h2
  rw[eT,h1,h2];rfl
 intro hz
 have h1:hasB (XF r) z=true:=by
  have hz2:=hz
  rw[eT,cH]at hz2
  exact eI.1 (XG h v) z hz2.1
 exact eI.1 (afJ h _) z (by rw[eT (fI r v&&&fI r w),hz,h1];rfl))
def aDv(r:Rl)(i:Int):BitVec 64:=fI r (kH [i])
def Lp(r:Rl)(p:Int):Bool:=decide (0<=p/\p<r.n)&&Tz (iQ r) p p
theorem Lq{r:Rl}(h:di r=true)(p:Int):Lp r p=true↔(0<=p/\p<r.n)/\∀x:Int,0<=x->x<p->¬(bI r p x=true/\bI r x p=true):=by grind[Rl,di,Lp,bI,gC,Tz,cM,rz]
theorem XH{r:Rl}(h:di r=true):∀(n:Nat) (p:Int),p<=n->0<=p->p<r.n->∃q:Int,q<=p/\Lp r q=true/\bI r p q=true/\bI r q p=true
 |n,p,hn,h0,h1=>by
  cases hc:Lp r p with
  |true=>exact⟨p,lm _,hc,Hf h ⟨h0,h1⟩,Hf h ⟨h0,h1⟩⟩
  |false=>
   have hex:∃x:Int,0<=x/\x<p/\bI r p x=true/\bI r x p=true:=Qf fun hno=>by
    have:Lp r p=true:=(Lq h p).2 ⟨⟨h0,h1⟩,fun x x0 x1 hx=>hno ⟨x,x0,x1,hx⟩⟩
    rw[hc]at this;cases this
   obtain⟨x,x0,x1,x2,x3⟩:=hex
   cases n with
   |zero=>omega
   |succ n=>
    obtain⟨q,q1,q2,q3,q4⟩:=XH h n x J x0 J
    exact⟨q,J,q2,JF h x2 q3,JF h q4 x3⟩
def Lr(r:Rl)(i:Int):Bool:=Lp r (i/8)&&Lp r (i%8)
def aq0(r:Rl)(k:Int):List (BitVec 64):=((upto k).filter (Lr r)).map (aDv r)
def aN5(c:BitVec 64)(l:List (BitVec 64))(j:Int):Bool:=decide (c=0#64)||(l.take j.toNat).any fun w=>decide (w=c)
theorem afK{r:Rl}(h:di r=true){o p:Int}(hp:hasB (iz r o) p=true):0<=p/\p<8:=by
 have hs:=gC h
 rw[eK]at hp
 have:=Au h hp;omega
def aDw:Rl:=⟨2,fun i=>[3#64,2#64].getD i 0#64⟩
theorem afL(A:Int->Bool):((upto 64).filter fun i=>A (i/8)&&A (i%8)).length=((upto 8).filter A).length*((upto 8).filter A).length:=by
 have e:upto 64=(upto 8).flatMap fun p=>(upto 8).map (8*p+·):=by decide+kernel
 have key:∀l:List Int,((l.flatMap fun p=>(upto 8).map (8*p+·)).filter fun i=>A (i/8)&&A (i%8)).length=(l.filter A).length*((upto 8).filter A).length:=fun l=>by
  induction l with
  |nil=>simp
  |cons p l ih=>
   rw[tH,Qp,cV,ih]
   have h1:(((upto 8).map (8*p+·)).filter fun i=>A (i/8)&&A (i%8))=((upto 8).filter fun y=>A p&&A y).map (8*p+·):=by
    rw[List.filter_map]
    congr 1
    refine List.filter_congr fun y hy=> ?_
    have:=cM.1 hy
    simp only[Function.comp]
    rw[show(8*p+y)/8=p by omega,show(8*p+y)%8=y by omega]
   rw[h1,gj]
   cases hp:A p with
   |true=>
    rw[wR hp,eO,kO]
    simp only[lU]
    show((upto 8).filter A).length+_=_
    omega
   |false=>simp[hp]
 rw[e,key]
theorem ab5{r:Rl}(h:di r=true){k:Int}(hk:k=64):((aq0 r k).length:Int)=JH r:=by
 subst hk
 have hs:=gC h
 have h1:(upto 8).filter (Lp r)=(upto (pts r)).filter fun i=>Tz (iQ r) i i:=by
  refine yQ ((wm _).filter _) ((wm _).filter _) fun x=> ?_
  rw[wW,wW,cM,cM,Lp,cH,ep,hs.2.1]
  constructor
  .rintro⟨h2,h3,h4⟩;exact⟨h3,h4⟩
  rintro⟨h2,h3⟩;exact⟨J,h2,h3⟩
 rw[<-Ln h,aq0,gj,show Lr r=fun i=>Lp r (i/8)&&Lp r (i%8)from O,afL,h1,z6]
 push_cast;rfl
abbrev Tx:=ByteArray
def rp(s:Tx)(i:Int):Int:=((s.data.toList.getD i.toNat 0).toNat:Int)
def ja(c:Int):Bool:=decide (97<=c/\c<=122)
def tK(c:Int):Bool:=decide ((97<=c/\c<=122)\/(48<=c/\c<=57)\/c=95)
def iw(s:Tx):Bool:=decide (1<=s.size/\s.size<=16)&&ja (rp s 0)&&(upto s.size).all fun i=>tK (rp s i)
theorem CK{s:Tx}(h:¬(1<=s.size/\s.size<=16)):iw s=false:=by grind[iw]
theorem ON{s:Tx}(h:ja (rp s 0)=false):iw s=false:=by rw[iw,h];simp
theorem Hj{s:Tx}{i:Int}(i0:0<=i)(i1:i<s.size)(h:tK (rp s i)=false):iw s=false:=by grind[iw,cM]
theorem OO{s:Tx}{k:Int}(h1:1<=s.size/\s.size<=16)(h2:ja (rp s 0)=true)(hk:¬k<s.size)(hf:∀j:Int,0<=j->j<k->tK (rp s j)=true):iw s=true:=by grind[iw,cM]
theorem BB{c:Int}(h:ja c=true):tK c=true:=by grind[ja,tK]
def sv(P:Int->Bool)(n:Int):Int:=if(uI P n).2 then(uI P n).1 else-1
theorem uK{P:Int->Bool}{n k:Int}(h0:0<=k)(hk:k<n)(hp:P k=true)(hf:∀j:Int,0<=j->j<k->P j=false):sv P n=k:=by
 rw[sv,pH h0 hk hp hf];rfl
theorem Fi{P:Int->Bool}{n:Int}(hf:∀j:Int,0<=j->j<n->P j=false):sv P n= -1:=by
 rw[sv,sq hf];rfl
theorem XI(P:Int->Bool)(n:Int):(∃k:Int,0<=k/\k<n/\P k=true/\(∀j:Int,0<=j->j<k->P j=false)/\sv P n=k)\/((∀j:Int,0<=j->j<n->P j=false)/\sv P n= -1):=by grind[sv,m9,uK,Fi]
abbrev pu:Tx:=⟨#[]⟩
def qq(l:List Tx)(s:Tx):Int:=sv (fun i=>decide (l.getD i.toNat pu=s)) l.length
theorem fB{α:Type}{l:List α}{d:α}{i:Int}(h0:0<=i)(h:i<l.length):l[i.toNat]?=some (l.getD i.toNat d):=by grind
theorem getD_take{α:Type}{l:List α}{d:α}{i k:Int}(h0:0<=i)(h:i<k):(l.take k.toNat).getD i.toNat d=l.getD i.toNat d:=by grind
def xQ(l:List Tx):Int:=sv (fun i=>decide (qq l (l.getD i.toNat pu)<i)) l.length
theorem afM{l:List Tx}{i:Int}(i0:0<=i)(i1:i<l.length):decide (qq (l.take i.toNat) (l.getD i.toNat pu)>=0)=decide (qq l (l.getD i.toNat pu)<i):=by
 rw[gG,ep,ep]
 have hl:((l.take i.toNat).length:Int)=i:=by rw[eo];omega
 rw[qq,hl]
 rcases XI (fun j=>decide ((l.take i.toNat).getD j.toNat pu=l.getD i.toNat pu)) i with⟨k,k0,k1,k2,k3,e⟩|⟨h,e⟩
 .rw[e]
  have h1:qq l (l.getD i.toNat pu)=k:=uK k0 J (by rw[<-k2,getD_take k0 k1]) fun j a b=>by
   rw[<-k3 j a b,getD_take a J]
  rw[h1];omega
 rw[e]
 have h1:qq l (l.getD i.toNat pu)=i:=uK i0 i1 az fun j a b=>by
  rw[<-h j a b,getD_take a b]
 rw[h1];omega
def aKr(a b:List Tx):Bool:=decide (a=b)
end Go.Proofs.YtlhjdflgjbkpmaaGreatDoor.M
namespace Go.Proofs.YtlhjdflgjbkpmaaGreatDoor.E
section
open Go Go.RowKit Go.Proofs.YtlhjdflgjbkpmaaGreatDoor.M
abbrev S(s:Tx):Value:= .string s
abbrev Ir(l:List Tx):List Value:=l.map Value.string
theorem BC{l:List Tx}{k:Int}(h:0<=k/\k<l.length):(Ir l)[k.toNat*1]?=some (S (l.getD k.toNat pu)):=by grind
theorem gN{w:World}{v:Value}{sz n:Nat}{c:List Value}(h:Sl w v sz n c):v.oneCell'=true/\v.cells=#[v]:=by
 obtain⟨a,cap,rfl,-,-⟩:=h.shape;exact⟨rfl,rfl⟩
theorem Sl.aDx{w:World}{v:Value}{l:List Tx}{n:Int}(h:Sl w v 1 l.length (Ir l))(hn:0<=n/\n<=l.length):Sl w (kS v n.toNat) 1 (l.take n.toNat).length (Ir (l.take n.toNat)):=
 (h.cut n.toNat J).conv (by rw[eo];omega) (by rw[kP];exact wY.symm)
theorem aq1{s:Tx}:s=pu↔s.size=0:=by
 constructor
 .intro h;rw[h];rfl
 intro h
 cases s with
 |mk d=>
  have:d.size=0:=h
  have e:d=#[]:=aeb this
  rw[e]
section runs
variable{P:Program}{σ:Env}{w:World}{dst:Option Tmp}{ty t u:TypeId}{pos:String}{bJ:Array Edge}{g:Option (Nat×Bool)}{x y:Operand}{a b:Tx}{k:IntKind}{i:Int}
theorem aq2(a b:Tx):(a.toList==b.toList)=decide (a=b):=by
 rw[ByteArray.toList_eq,ByteArray.toList_eq,gG,xb,ep]
 constructor
 .exact fun h=>WideShapes.bytes_inj h
 exact fun h=>by rw[h]
theorem afN{op:BinOp}{v:Value}(hx:ev σ x=S a)(hy:ev σ y=S b)(h:(binOp op t (S a) (S b)).run P w= .ok v w):
  (execOp (ev σ) ⟨dst,.binOp op t x y u,ty,pos,bJ,g⟩).run P w= .ok (.value v) w:=by
 have he:(eqGuard op t x y (S a) (S b))=pure ():=by cases op<;>rfl
 simp[execOp,hx,hy,he,h]
theorem Ls(hx:ev σ x=S a)(hy:ev σ y=S b):(execOp (ev σ) ⟨dst,.binOp .eql t x y u,ty,pos,bJ,g⟩).run P w= .ok (.value (.bool (decide (a=b)))) w:=
 afN hx hy (by rw[binOp_string_eql,aq2];rfl)
theorem sw(ht:P.underlying t=some .string)(hx:ev σ x=S a)(hy:ev σ y= .int k i)(h:0<=i/\i<a.size):(execOp (ev σ) ⟨dst,.index t x y,ty,pos,bJ,g⟩).run P w= .ok (.value (.int .u8 (rp a i))) w:=by
 have h1:=run_index_string (P:=P) w t a k i ht
 rw[dif_pos h]at h1
 have h2:((a[i.toNat]'J).toNat:Int)=rp a i:=by
  have hl:i.toNat<a.data.toList.length:=by
   have:a.data.toList.length=a.size:=by cases a;rfl
   omega
  rw[rp,eE,ef hl]
  cases a;rfl
 rw[h2]at h1
 simp[execOp,hx,hy,h1]
end runs
abbrev Vu:=Nat->Obj->Prop
def Kw(w:World):Vu:=fun b o=>w.heap[b]?=some o
def Kz(K:Vu)(Z:List a8):Vu:=fun b o=>K b o\/a8.blk b o∈Z
def OP(K:Vu)(b j:Nat)(c:Value):Prop:=∃cs e fr,K b (.cells cs e fr)/\cs[j]?=some c
structure pw(K:Vu)(v:Value)(sz n:Nat)(cells:List Value):Prop where
 shape:∃a cap,v= .slice a n cap/\n<=cap/\(0<n->a=some ⟨sb v,so v,none⟩)
 len:cells.length=n*sz
 cell:∀j c,cells[j]?=some c->OP K (sb v) (so v+j) c
 small:n<=maxLen
def Le(K K':Vu):Prop:=∀b o,K b o->K' b o
theorem Le.refl(K:Vu):Le K K:=fun _ _ h=>h
theorem Le.trans{K K' K'':Vu}(h:Le K K')(h':Le K' K''):Le K K'':=fun b o hb=>h' b o (h b o hb)
theorem Le.z(K:Vu)(Z:List a8):Le K (Kz K Z):=fun _ _ h=> .inl h
theorem Le.zz{K:Vu}{Z Z':List a8}(h:∀x,x∈Z->x∈Z'):Le (Kz K Z) (Kz K Z'):=fun b o hb=>hb.imp id (h _)
theorem Le.kk{K:Vu}{Z Z':List a8}:Le (Kz (Kz K Z) Z') (Kz K (Z'++Z)):=fun b o hb=>by
 rcases hb with(hb|hb)|hb
 .exact .inl hb
 .exact .inr (by simp[hb])
 exact .inr (by simp[hb])
theorem OP.mono{K K':Vu}{b j:Nat}{c:Value}(h:OP K b j c)(hl:Le K K'):OP K' b j c:=by
 obtain⟨cs,e,fr,h1,h2⟩:=h;exact⟨cs,e,fr,hl _ _ h1,h2⟩
theorem pw.mono{K K':Vu}{v:Value}{sz n:Nat}{cells:List Value}(h:pw K v sz n cells)(hl:Le K K'):pw K' v sz n cells:=⟨h.shape,h.len,fun j c hc=>(h.cell j c hc).mono hl,h.small⟩
theorem pw.nil(K:Vu)(sz:Nat):pw K (.slice none 0 0) sz 0 []:=⟨⟨none,0,rfl,eG _,fun h=>J⟩,az,fun j c h=>by simp at h,kQ⟩
section
variable{w0 w w':World}{L L' Z:List a8}{K:Vu}{v:Value}{sz n:Nat}{cells:List Value}
theorem pw.sl(h:pw (Kw w) v sz n cells):Sl w v sz n cells:=⟨h.shape,h.len,fun j c hc=>by
 obtain⟨cs,e,fr,h1,h2⟩:=h.cell j c hc
 rw[xa w _ _ cs e fr h1];exact h2,h.small⟩
theorem ab6{b j:Nat}{c:Value}(h1:w.cell? ⟨b,j,none⟩=some c):OP (Kw w) b j c:=by
 unfold World.cell? at h1
 cases hq:w.heap[b]? with
 |none=>simp[hq]at h1
 |some o=>
  cases o with
  |cells cs e fr=>simp[hq]at h1;exact⟨cs,e,fr,hq,h1⟩
  |_=>simp[hq]at h1
theorem Sl.slv(h:Sl w v sz n cells):pw (Kw w) v sz n cells:=⟨h.shape,h.len,fun j c hc=>ab6 (h.cell j c hc),h.small⟩
theorem Kw.below(hb:Below w.heap.size w w'):Le (Kw w) (Kw w'):=fun b o h=>by
 show w'.heap[b]?=some o
 rw[hb.block b (A6.1 h).1];exact h
theorem Hp.kw(h:Hp w0 w L):Le (Kw w0) (Kw w):=Kw.below h.below
theorem Hp.kz(h:Hp w0 w L)(hK:Le K (Kw w0))(hZ:∀x,x∈Z->x∈L):Le (Kz K Z) (Kw w):=fun b o hb=>by
 rcases hb with hb|hb
 .exact h.kw _ _ (hK _ _ hb)
 exact(h.ok _ (hZ _ hb)).2
theorem Hp.Fj(h:Hp w0 w L)(hz:Hp w w' Z):Hp w0 w' (Z++L):=by
 have h':=h.call hz.below
 refine⟨h'.below,fun x hx=> ?_,DY.2 ⟨hz.KU,h'.KU,fun x hx y hy=> ?_⟩⟩
 .rcases eP.1 hx with hx|hx
  .have h1:=hz.ok x hx
   rcases x with⟨b,o⟩|⟨v,e,sz,n,xs⟩
   .exact⟨jP h.size h1.1,h1.2⟩
   refine⟨h1.1,?_⟩
   rcases h1.2 with hn|⟨gb,cap,cur,rfl,h2,rest⟩
   .exact .inl hn
   exact .inr ⟨gb,cap,cur,rfl,jP h.size h2,rest⟩
  exact h'.ok x hx
 .cases hf:x.rq with
  |none=>exact .inl O
  |some b=>
   refine .inr fun e=> ?_
   have h1:=(a8.Io (hz.ok x hx) b hf).1
   have h2:=(a8.Io (h.ok y hy) b (by rw[<-e])).2
   omega
theorem Hp.JI(h:Hp w0 w (Z++(L++L'))):Hp w0 w (L++(Z++L')):=by grind[Hp]
theorem Hp.XJ{e:TypeId}{xs:List Value}(h:Hp w0 w (.row v e sz n xs::L))(K:Vu):∃Z:List a8,Hp w0 w (Z++L)/\pw (Kz K Z) v sz n xs/\(∀x∈Z,∃b c e,x= .blk b (.cells c e (0,0))):=by
 have h1:=h.ok _ (tG ..)
 obtain⟨hl,h2⟩:=h1
 rcases h2 with⟨rfl,rfl⟩|⟨gb,cap,cur,rfl,hb,hg,hn,hm,hs,ht⟩
 .have:xs=[]:=E3 (by simpa using hl)
  subst this
  exact⟨[],h.tail,pw.nil _ _,fun x hx=>by simp at hx⟩
 refine⟨[.blk gb (.cells cur e (0,0))],⟨h.below,fun x hx=> ?_,?_⟩,⟨⟨_,cap,rfl,hn,fun _=>rfl⟩,hl,fun j c hj=>⟨cur,e,(0,0),.inr (by simp[sb]),?_⟩,jP hn hm⟩,fun x hx=> ?_⟩
 .rcases cZ.1 hx with rfl|hx
  .exact⟨hb,hg⟩
  exact h.ok x (fw _ hx)
 .exact List.Pairwise.cons (fun y hy=>(lQ.1 h.KU).1 y hy) (lQ.1 h.KU).2
 .simp only[so,fg]
  rw[<-ht,uo]at hj
  split at hj
  .simpa using hj
  .cases hj
 simp at hx;exact⟨_,_,_,hx⟩
theorem Fk{b:Nat}{c:List Value}{e:TypeId}(hZ:a8.blk b (.cells c.toArray e (0,0))∈Z)(hl:c.length=n*sz)(hn:n<=maxLen):pw (Kz K Z) (.slice (some ⟨b,0,none⟩) n n) sz n c:=
 ⟨⟨_,n,rfl,eG _,fun _=>rfl⟩,hl,fun j u hu=>⟨c.toArray,e,(0,0),.inr hZ,by simp only[so,fg];simpa using hu⟩,hn⟩
end
def Lt(K:Vu)(p:Vu->Value->Prop)(w:World):Ending->World->Prop:=iA fun u w'=>∃Z:List a8,Hp w w' Z/\p (Kz K Z) u
section calls
variable{P:Program}{n:Nat}{ops:Array Oper}{k:K}{rest:List Oper}{σ:Env}{w0 w:World}{L:List a8}{op:Op}{ty:TypeId}{pos:String}{bJ:Array Edge}{d:Nat}{Kv:Vu}{p:Vu->Value->Prop}
theorem XK{f:FuncId}{args:Array Value}(hd:Nat.blt d n=true)(hH:Hp w0 w L)(hc:Calls P f args w (Lt Kv p w))
  (hr:(execOp (ev σ) ⟨some d,op,ty,pos,bJ,none⟩).run P w= .ok (.enter f args) w)
  (hk:∀v w' Z,Hp w0 w' (Z++L)->p (Kz Kv Z) v->RL P n ops k rest (k7 σ d v) w'):RL P n ops k (⟨some d,op,ty,pos,bJ,none⟩::rest) σ w:=
 GU hd hr hc fun u w' ⟨Z,hz,hp⟩=>hk u w' Z (hH.Fj hz) hp
variable{l:List Oper}{i fuel:Nat}{listed:Array Bool}{g:Option (Nat×Bool)}{L':List a8}
theorem afO{f:FuncId}{args:Array Value}(hi:l[i]?=some ⟨some d,op,ty,pos,bJ,g⟩)(hg:∀a,Is n σ a->Region.wanted ⟨some d,op,ty,pos,bJ,g⟩ (yielded l.toArray a.tmps)=true)(hd:Nat.blt d n=true)
  (hH:Hp w0 w L') (hs:L.Sublist L') (hc:Calls P f args w (Lt Kv p w)) (hr:(execOp (ev σ) ⟨some d,op,ty,pos,bJ,g⟩).run P w= .ok (.enter f args) w)
  (h:∀v w' Z,Hp w0 w' (Z++L')->p (Kz Kv Z) v->AN P n l (fun w=>Hp w0 w L) k fuel (listed.setIfInBounds i true) (k7 σ d v) w'):AO P n l (fun w=>Hp w0 w L) k fuel listed σ w i:=
 Q2 hi hg hd hc hr fun u w' ⟨Z,hz,hp⟩=>⟨(hH.Fj hz).sub (List.Sublist.trans hs (Wm _ _)),h u w' Z (hH.Fj hz) hp⟩
end calls
section flat
variable{α:Type}{cl:α->List Value}{sz:Nat}
theorem flat_get(hsz:∀a,(cl a).length=sz):∀(l:List α) (k:Nat) (a:α),l[k]?=some a->∀j c,(cl a)[j]?=some c->(l.flatMap cl)[k*sz+j]?=some c
 |[],k,a,h=>by simp at h
 |p::l,0,a,h=>fun j c hj=>by
  simp at h;subst h
  rw[tH,wP (by have:=(mh.1 hj).1;omega),QF,fg];exact hj
 |p::l,k+1,a,h=>fun j c hj=>by
  have:=flat_get hsz l k a uz j c hj
  rw[tH,DV (by rw[hsz,kO];omega),hsz,show(k+1)*sz+j-sz=k*sz+j by rw[kO];omega];exact this
theorem fh(hsz:∀a,(cl a).length=sz)(l:List α):(l.flatMap cl).length=l.length*sz:=by
 induction l with
 |nil=>simp
 |cons a l ih=>rw[tH,cV,hsz,ih,eO,kO];omega
variable{P:Program}{σ:Env}{w:World}{dst:Option Tmp}{ty t:TypeId}{pos:String}{bJ:Array Edge}{g:Option (Nat×Bool)}{x:Operand}{v:Value}{l:List α}{k:Int}
theorem dY{d:TypeDesc}{dv:α}(hsz:∀a,(cl a).length=sz)(hS:Sl w v sz l.length (l.flatMap cl))(hu:P.underlying t=some d)(hd:d.isRow=true)(hi:(P.info? t).map (·.size)=some sz)
  (hx:ev σ x= .pointer (some ⟨sb v,so v+k.toNat*sz,none⟩)) (hk:0<=k/\k<l.length):
  (execOp (ev σ) ⟨dst,.load t x,ty,pos,bJ,g⟩).run P w= .ok (.value (.agg (cl (l.getD k.toNat dv)).toArray)) w:=by
 refine cN hu hd (by rw[hsz];exact hi) hx fun j c hj=> ?_
 have:=hS.cell _ _ (flat_get hsz l k.toNat _ (fB hk.1 hk.2) j c hj)
 rw[s0];exact this
theorem gp{d:TypeDesc}{dv:α}{off:Nat}{c:Value}(hsz:∀a,(cl a).length=sz)(hS:Sl w v sz l.length (l.flatMap cl))(hu:P.underlying t=some d)(hd:d.isRow=false)
  (hx:ev σ x= .pointer (some ⟨sb v,so v+k.toNat*sz+off,none⟩)) (hk:0<=k/\k<l.length) (hc:(cl (l.getD k.toNat dv))[off]?=some c):
  (execOp (ev σ) ⟨dst,.load t x,ty,pos,bJ,g⟩).run P w= .ok (.value c) w:=by
 refine au hu hd hx ?_
 have:=hS.cell _ _ (flat_get hsz l k.toNat _ (fB hk.1 hk.2) off c hc)
 rw[s0];exact this
theorem oO{d:TypeDesc}{dv:α}{off:Nat}{cs:List Value}(hsz:∀a,(cl a).length=sz)(hS:Sl w v sz l.length (l.flatMap cl))(hu:P.underlying t=some d)(hd:d.isRow=true)(hi:(P.info? t).map (·.size)=some cs.length)
  (hx:ev σ x= .pointer (some ⟨sb v,so v+k.toNat*sz+off,none⟩)) (hk:0<=k/\k<l.length) (hc:∀j c,cs[j]?=some c->(cl (l.getD k.toNat dv))[off+j]?=some c):
  (execOp (ev σ) ⟨dst,.load t x,ty,pos,bJ,g⟩).run P w= .ok (.value (.agg cs.toArray)) w:=by
 refine cN hu hd hi hx fun j c hj=> ?_
 have:=hS.cell _ _ (flat_get hsz l k.toNat _ (fB hk.1 hk.2) (off+j) c (hc j c hj))
 rw[s0,s0];exact this
end flat
end
end Go.Proofs.YtlhjdflgjbkpmaaGreatDoor.E
namespace Go.Proofs.YtlhjdflgjbkpmaaGreatDoor.M
section
open Go
abbrev El:=Nat->BitVec 64
def qL(a b:El):Prop:=∀i,i<8->a i=b i
instance(a b:El):Decidable (qL a b):=inferInstanceAs (Decidable (∀i,i<8->a i=b i))
def dy:El:=fun _=>0#64
def Av(e:El)(i:Nat)(x:BitVec 64):El:=fun j=>if j=i then x else e j
structure Fc where
 kind:Int
 names:List Tx
 rel:Rl
structure Sh where
 tuple:Bool
 aY:List Fc
def vE:Fc:=⟨0,[],Rl.none⟩
def gO(l:List Tx):Bool:=decide (1<=l.length/\l.length<=64)&&decide (xQ l<0)&&l.all iw
theorem CL{l:List Tx}(h:¬(1<=l.length/\l.length<=64)):gO l=false:=by grind[gO]
theorem OQ{l:List Tx}(h:¬xQ l<0):gO l=false:=by grind[gO]
theorem OR{l:List Tx}{k:Int}(k0:0<=k)(k1:k<l.length)(h:iw (l.getD k.toNat pu)=false):gO l=false:=by
 cases hc:gO l with
 |false=>rfl
 |true=>
  rw[gO,cH,iC]at hc
  rw[hc.2 _ (ld (fB (d:=pu) k0 k1))]at h;cases h
theorem pI{l:List Tx}{k:Int}(h1:1<=l.length/\l.length<=64)(h2:xQ l<0)(hk:¬k<l.length)(hf:∀j:Int,0<=j->j<k->iw (l.getD j.toNat pu)=true):gO l=true:=by
 rw[gO,gB h1,gB h2,lU,lU,iC]
 intro x hx
 obtain⟨i,hi,rfl⟩:=sX hx
 have:=hf i J J
 rw[dN,eE,ef hi]at this
 exact this
def cT(f:Fc):Bool:=gO f.names&&
 (if f.kind=1\/f.kind=2 then decide (pts f.rel=0)else if f.kind=3 then decide (f.rel.n=f.names.length)&&di f.rel else if f.kind=4 then decide (f.rel.n=f.names.length)&&sr f.rel else false)
theorem ab7(r:Rl):(ew r).eq (ew Rl.none)↔pts r=0:=by
 have hp:=dB r
 constructor
 .intro h;exact h.1
 intro h
 refine⟨h,fun i hi=> ?_⟩
 show(if(i:Int)<pts r then uF r i else 0#64)=(if(i:Int)<0 then uF Rl.none i else 0#64)
 rw[aP J,aP J]
def qY(s:Sh):Bool:=decide (1<=s.aY.length/\s.aY.length<=8)&&(s.tuple||decide (s.aY.length=1))&&s.aY.all cT
theorem JJ{s:Sh}(h:¬(1<=s.aY.length/\s.aY.length<=8)):qY s=false:=by grind[qY]
theorem ZX{s:Sh}(h:s.tuple=false)(h2:¬s.aY.length=1):qY s=false:=by grind[qY]
theorem JK{s:Sh}{k:Int}(k0:0<=k)(k1:k<s.aY.length)(h:cT (s.aY.getD k.toNat vE)=false):qY s=false:=by
 cases hc:qY s with
 |false=>rfl
 |true=>
  rw[qY,cH,iC]at hc
  rw[hc.2 _ (ld (fB (d:=vE) k0 k1))]at h;cases h
theorem JL{s:Sh}{k:Int}(h1:1<=s.aY.length/\s.aY.length<=8)(h2:s.tuple=true\/s.aY.length=1)(hk:¬k<s.aY.length)(hf:∀j:Int,0<=j->j<k->cT (s.aY.getD j.toNat vE)=true):qY s=true:=by
 have h3:(s.tuple||decide (s.aY.length=1))=true:=by rcases h2 with h2|h2<;>simp[h2]
 rw[qY,gB h1,h3,lU,lU,iC]
 intro x hx
 obtain⟨i,hi,rfl⟩:=sX hx
 have:=hf i J J
 rw[dN,eE,ef hi]at this
 exact this
theorem yV{s:Sh}(h:qY s=true):(1<=s.aY.length/\s.aY.length<=8)/\(s.tuple=true\/s.aY.length=1)/\∀f∈s.aY,cT f=true:=by grind[qY]
theorem afP{s:Sh}(h:qY s=true){k:Int}(k0:0<=k)(k1:k<s.aY.length):cT (s.aY.getD k.toNat vE)=true:=by simp_all[Sh,qY,cT,vE,yV,fB,k1]
theorem uL{f:Fc}(h:cT f=true):(1<=f.names.length/\f.names.length<=64)/\((f.kind=1/\pts f.rel=0)\/(f.kind=2/\pts f.rel=0)\/(f.kind=3/\f.rel.n=f.names.length/\di f.rel=true)\/(f.kind=4/\f.rel.n=f.names.length/\sr f.rel=true)):=by grind[cT,gO]
def aq4(a b:Fc):Bool:=decide (a.kind=b.kind)&&decide (a.names=b.names)&&decide ((ew a.rel).eq (ew b.rel))
def aKt(a b:Sh):Bool:=decide (a.tuple=b.tuple)&&decide (a.aY.length=b.aY.length)&&(upto a.aY.length).all fun i=>aq4 (a.aY.getD i.toNat vE) (b.aY.getD i.toNat vE)
def jZ(f:Fc)(w:BitVec 64):Bool:=if f.kind=1 then(level f.names.length w).2 else if f.kind=2 then dV w (below f.names.length)else if f.kind=3 then o5 f.rel w else(eL f.rel w).2
def cz(s:Sh)(e:El):Bool:=qY s&&(upto 8).all fun i=>if i<s.aY.length then jZ (s.aY.getD i.toNat vE) (e i.toNat)else decide (e i.toNat=0#64)
theorem TM{s:Sh}{e:El}(h:qY s=false):cz s e=false:=by rw[cz,h];rfl
theorem TN{s:Sh}{e:El}{k:Int}(k0:0<=k)(k1:k<8)(h:k<s.aY.length)(h2:jZ (s.aY.getD k.toNat vE) (e k.toNat)=false):cz s e=false:=by
 cases hc:cz s e with
 |false=>rfl
 |true=>
  rw[cz,cH,iC]at hc
  have:=hc.2 k (cM.2 ⟨k0,k1⟩)
  rw[aQ h,h2]at this;cases this
theorem Lu{s:Sh}{e:El}{k:Int}(k0:0<=k)(k1:k<8)(h:¬k<s.aY.length)(h2:e k.toNat≠0#64):cz s e=false:=by
 cases hc:cz s e with
 |false=>rfl
 |true=>
  rw[cz,cH,iC]at hc
  have:=hc.2 k (cM.2 ⟨k0,k1⟩)
  rw[aP h,ep]at this;exact absurd this h2
def Dt(s:Sh)(e:El)(k:Int):Prop:=∀j:Int,0<=j->j<k->(j<s.aY.length->jZ (s.aY.getD j.toNat vE) (e j.toNat)=true)/\(¬j<s.aY.length->e j.toNat=0#64)
theorem Lv{s:Sh}{e:El}{k:Int}(h:qY s=true)(hk:¬k<8)(hf:Dt s e k):cz s e=true:=by
 rw[cz,h,lU,iC]
 intro i hi
 have h1:=cM.1 hi
 have h2:=hf i h1.1 J
 split
 .rename_i h3;exact h2.1 h3
 rename_i h3;exact gB (h2.2 h3)
theorem Dt.none(s:Sh)(e:El):Dt s e 0:=fun j a b=>absurd b J
theorem Dt.next{s:Sh}{e:El}{k:Int}(h:Dt s e k)(h1:k<s.aY.length->jZ (s.aY.getD k.toNat vE) (e k.toNat)=true)(h2:¬k<s.aY.length->e k.toNat=0#64):Dt s e (k+1):=fun j a b=>by
 by_cases he:j=k
 .subst he;exact⟨h1,h2⟩
 exact h j a J
def cR(a b:El):Bool:=(upto 8).all fun i=>dV (a i.toNat) (b i.toNat)
theorem aq5{a b:El}{k:Int}(k0:0<=k)(k1:k<8)(h:dV (a k.toNat) (b k.toNat)=false):cR a b=false:=by
 cases hc:cR a b with
 |false=>rfl
 |true=>
  rw[cR,iC]at hc
  rw[hc k (cM.2 ⟨k0,k1⟩)]at h;cases h
theorem alz{a b:El}{k:Int}(hk:¬k<8)(hf:∀j:Int,0<=j->j<k->dV (a j.toNat) (b j.toNat)=true):cR a b=true:=by grind[cR,cM]
def TO(s:Sh)(a b:El)(i:Nat):BitVec 64:=if(i:Int)<s.aY.length/\(s.aY.getD i vE).kind=4 then jE (s.aY.getD i vE).rel (a i) (b i)else a i|||b i
def fC(s:Sh)(a b:El):El:=fun i=>TO s a b i
def qZ(a b:El):El:=fun i=>a i&&&b i
def sx(a b:El)(k:Int):El:=fun i=>if(i:Int)<k then a i else b i
theorem Fl(a b:El):sx a b 0=b:=funext fun i=>aP J
theorem CM{a b:El}{k:Int}{x:BitVec 64}(k0:0<=k)(h:x=a k.toNat):Av (sx a b k) k.toNat x=sx a b (k+1):=by grind[Av,sx]
theorem XL{a b:El}{k:Int}(k0:0<=k):sx a b k k.toNat=b k.toNat:=aP J
theorem ak1{a b:El}{k:Int}(hk:¬k<8):qL (sx a b k) a:=fun i hi=>aQ J
def eU(f:Fc):BitVec 64:=if f.kind≠4 then 0#64 else bS f.rel (Eo f.rel (iz f.rel)).1
def aq6(f:Fc):BitVec 64:=if f.kind=1 then aDe f.names.length else if f.kind=2 then below f.names.length else if f.kind=3 then XF f.rel else bS f.rel (Eo f.rel (bS f.rel)).1
def gZ(s:Sh)(f:Fc->BitVec 64):El:=fun i=>if qY s=true/\(i:Int)<s.aY.length then f (s.aY.getD i vE)else 0#64
def xR(f:Fc):Int:=if f.kind=1 then f.names.length-1 else if f.kind=2 then f.names.length else if f.kind=3 then JH f.rel else(ZO f.rel).1
def BD(s:Sh)(k:Int):Int:=((upto k).map fun i=>xR (s.aY.getD i.toNat vE)).sum
theorem afQ{s:Sh}{k:Int}(k0:0<=k):BD s k+xR (s.aY.getD k.toNat vE)=BD s (k+1):=by grind[BD,kC]
def gd(s:Sh):Int:=if qY s then BD s s.aY.length else 0
end
end Go.Proofs.YtlhjdflgjbkpmaaGreatDoor.M
namespace Go.Proofs.YtlhjdflgjbkpmaaGreatDoor.E
section
open Go Go.RowKit Go.Proofs.YtlhjdflgjbkpmaaGreatDoor.M
def sU(e:El):List Value:=(List.range 8).map fun i=>U (e i)
@[irreducible] def jg(e:El):Array Value:=(sU e).toArray
theorem hG(e:El):jg e=(sU e).toArray:=by unfold jg;rfl
theorem fy(e:El):(sU e).length=8:=by simp[sU]
theorem KD(e:El):(jg e).size=8:=by rw[hG];simp[sU]
theorem ng(e:El){i:Nat}(h:i<8):(jg e)[0+i*1]?=some (U (e i)):=by grind[hG,sU]
theorem aq7(e:El){k:Int}(h:0<=k/\k<8):(jg e)[k.toNat]?=some (U (e k.toNat)):=by grind[hG,sU]
theorem yW(e:El)(i:Nat)(x:BitVec 64):(jg e).setIfInBounds (0+i*1) (U x)=jg (Av e i x):=by grind[hG,fy,sU,Av]
theorem rB{a b:El}(h:qL a b):jg a=jg b:=by simp_all[El,qL,jg,hG,sU]
theorem afR:jg dy=Array.replicate 8 (U 0#64):=by rw[hG];rfl
theorem ZY(e:El):∀u∈jg e,u.oneCell'=true:=by
 rw[hG];simp[sU]
 exact fun _ _=>rfl
structure pU where
 kind:Int
 nv:Value
 names:List Tx
 rel:Rl
def pU.fc(f:pU):Fc:=⟨f.kind,f.names,f.rel⟩
def rC(f:pU):List Value:=I f.kind::f.nv::vG f.rel
theorem fJ(f:pU):(rC f).length=67:=by simp[rC,oN]
abbrev tX(f:pU):Array Value:=(rC f).toArray
def kF:pU:=⟨0,.slice none 0 0,[],Rl.none⟩
theorem Lw(f:pU):∀j c,(vG f.rel)[j]?=some c->(rC f)[2+j]?=some c:=by grind[rC]
structure vH(K:Vu)(f:pU):Prop where
 names:pw K f.nv 1 f.names.length (Ir f.names)
theorem vH.mono{K K':Vu}{f:pU}(h:vH K f)(hl:Le K K'):vH K' f:=⟨h.names.mono hl⟩
structure kX where
 tuple:Bool
 fv:Value
 aY:List pU
def kX.sh(s:kX):Sh:=⟨s.tuple,s.aY.map pU.fc⟩
abbrev rD(s:kX):Array Value:=#[B s.tuple,s.fv]
structure lB(K:Vu)(s:kX):Prop where
 aY:pw K s.fv 67 s.aY.length (s.aY.flatMap rC)
 each:∀f∈s.aY,vH K f
theorem lB.mono{K K':Vu}{s:kX}(h:lB K s)(hl:Le K K'):lB K' s:=⟨h.aY.mono hl,fun f hf=>(h.each f hf).mono hl⟩
theorem tg(s:kX):s.sh.aY.length=s.aY.length:=by simp[kX.sh]
theorem mH(s:kX)(k:Int):s.sh.aY.getD k.toNat vE=(s.aY.getD k.toNat kF).fc:=by
 rw[kX.sh,eE,eE,p5]
 cases s.aY[k.toNat]?<;>rfl
theorem lB.at{K:Vu}{s:kX}(h:lB K s){k:Int}(h0:0<=k)(h1:k<s.aY.length):vH K (s.aY.getD k.toNat kF):=h.each _ (ld (fB (d:=kF) h0 h1))
section runs
variable{P:Program}{σ:Env}{w:World}{dst:Option Tmp}{ty t u e:TypeId}{pos:String}{bJ:Array Edge}{g:Option (Nat×Bool)}{x y:Operand}{b:Nat}{fr:Nat×Nat}
structure ElT(P:Program)(t e:TypeId):Prop where
 u:P.underlying t=some (.array 8 e)
 ue:P.underlying e=some (.int .u64)
 se:∀w,(sizeOf e).run P w= .ok 1 w
 ae:∀w,(isAgg e).run P w= .ok false w
 eg:P.eqGuardType P.depth t=false
theorem ElT.eql(T:ElT P t e)(a b:El)(w:World):(Op.equalIn 10000 t (.agg (jg a)) (.agg (jg b))).run P w= .ok (decide (qL a b)) w:=by
 rw[hG,hG]
 exact aom 9998 a b T.u T.ue T.se T.ae
theorem Hl{a b:El}(T:ElT P t e)(hx:ev σ x= .agg (jg a))(hy:ev σ y= .agg (jg b)):
  (execOp (ev σ) ⟨dst,.binOp .eql t x y u,ty,pos,bJ,g⟩).run P w= .ok (.value (.bool (decide (qL a b)))) w:=by
 have h:=run_eql_struct (P:=P) w t (jg a) (jg b)
 rw[T.eql]at h
 simp only[execOp,hx,hy,o9,WV w .eql t x y _ _ T.eg,wT]
 simp[h]
theorem OS{a b:El}(T:ElT P t e)(hx:ev σ x= .agg (jg a))(hy:ev σ y= .agg (jg b)):
  (execOp (ev σ) ⟨dst,.binOp .neq t x y u,ty,pos,bJ,g⟩).run P w= .ok (.value (.bool (!decide (qL a b)))) w:=by
 have h:=run_neq_struct (P:=P) w t (jg a) (jg b)
 rw[T.eql]at h
 simp only[execOp,hx,hy,o9,WV w .neq t x y _ _ T.eg,wT]
 simp[h]
theorem dR{a:El}{d:TypeDesc}(hu:P.underlying t=some d)(hd:d.isRow=true)(hi:(P.info? t).map (·.size)=some 8)(hx:ev σ x= .pointer (some ⟨b,0,none⟩))
 (hg:w.heap[b]?=some (.cells (jg a) e fr)):(execOp (ev σ) ⟨dst,.load t x,ty,pos,bJ,g⟩).run P w= .ok (.value (.agg (jg a))) w:=by grind[hG,cN,fy,bp]
theorem ey{a a0:El}(hi:(P.info? t).map (·.size)=some 8)(hx:ev σ x= .pointer (some ⟨b,0,none⟩))(hy:ev σ y= .agg (jg a))(hg:w.heap[b]?=some (.cells (jg a0) e (0,0))):
 (execOp (ev σ) ⟨dst,.store t x y,ty,pos,bJ,g⟩).run P w= .ok .skip (w.setRow b (jg a)):=by grind[eC,KD,ZY]
theorem xS{f:pU}{d:TypeDesc}(hu:P.underlying t=some d)(hd:d.isRow=true)(hi:(P.info? t).map (·.size)=some 67)(hx:ev σ x= .pointer (some ⟨b,0,none⟩))
 (hg:w.heap[b]?=some (.cells (tX f) e fr)):(execOp (ev σ) ⟨dst,.load t x,ty,pos,bJ,g⟩).run P w= .ok (.value (.agg (tX f))) w:=by grind[cN,fJ,bp]
theorem nZ{K:Vu}{v:Value}{sz n:Nat}{c:List Value}(h:pw K v sz n c):v.oneCell'=true/\v.cells=#[v]:=by
 obtain⟨a,cap,rfl,-,-⟩:=h.shape;exact⟨rfl,rfl⟩
theorem TP{K:Vu}{f:pU}(h:vH K f):∀u∈rC f,u.oneCell'=true:=by
 intro u hu
 rw[rC,cZ,cZ]at hu
 rcases hu with rfl|rfl|hu
 .rfl
 .exact(nZ h.names).1
 exact K7 f.rel u (by rw[iR];simpa using hu)
theorem uh{K:Vu}{f f0:pU}(h:vH K f)(hi:(P.info? t).map (·.size)=some 67)(hx:ev σ x= .pointer (some ⟨b,0,none⟩))(hy:ev σ y= .agg (tX f))(hg:w.heap[b]?=some (.cells (tX f0) e (0,0))):
 (execOp (ev σ) ⟨dst,.store t x y,ty,pos,bJ,g⟩).run P w= .ok .skip (w.setRow b (tX f)):=by grind[eC,fJ,TP]
theorem lC{d:TypeDesc}{v:Value}{l:List El}{k:Int}(hS:Sl w v 8 l.length (l.flatMap sU))(hu:P.underlying t=some d)(hd:d.isRow=true)(hi:(P.info? t).map (·.size)=some 8)
 (hx:ev σ x= .pointer (some ⟨sb v,so v+k.toNat*8,none⟩)) (hk:0<=k/\k<l.length):(execOp (ev σ) ⟨dst,.load t x,ty,pos,bJ,g⟩).run P w= .ok (.value (.agg (jg (l.getD k.toNat dy)))) w:=by grind[hG,dY,fy]
theorem wu{w0:World}{fn:Func}{L:List a8}{i p:Nat}{q:Value->World->Prop}{d:TypeDesc}{c:Array Value}(h:fn.results=#[.cell p ty])(hp:σ p= .pointer (some ⟨b,0,none⟩))(hH:Hp w0 w L)
  (hi:L[i]?=some (.blk b (.cells c e fr))) (hu:P.underlying ty=some d) (hd:d.isRow=true) (hz:(P.info? ty).map (·.size)=some c.size) (hq:q (.agg c) w):Out P fn q σ w:=
 fun n a ha=>⟨_,results_cell_row h _ w b e c fr d (by rw[ha.get,hp]) (hH.blk hi) hu (by cases d<;>simp_all) hz,hq⟩
theorem afS{d:TypeDesc}{v:Value}{l:List pU}{k:Int}(hS:Sl w v 67 l.length (l.flatMap rC))(hu:P.underlying t=some d)(hd:d.isRow=true)(hi:(P.info? t).map (·.size)=some 65)
  (hx:ev σ x= .pointer (some ⟨sb v,so v+k.toNat*67+2,none⟩)) (hk:0<=k/\k<l.length):
  (execOp (ev σ) ⟨dst,.load t x,ty,pos,bJ,g⟩).run P w= .ok (.value (.agg (dM (l.getD k.toNat kF).rel))) w:=by
 rw[iR]
 exact oO fJ hS hu hd (by rw[oN];exact hi) hx hk (Lw _)
theorem j3{d:TypeDesc}{f:pU}(hu:P.underlying t=some d)(hd:d.isRow=true)(hi:(P.info? t).map (·.size)=some 65)(hx:ev σ x= .pointer (some ⟨b,0+2,none⟩))
  (hg:w.heap[b]?=some (.cells (tX f) e fr)):(execOp (ev σ) ⟨dst,.load t x,ty,pos,bJ,g⟩).run P w= .ok (.value (.agg (dM f.rel))) w:=by
 rw[iR]
 refine cN hu hd (by rw[oN];exact hi) hx fun j c hj=> ?_
 rw[xa w b _ _ e fr hg]
 simpa using Lw f j c hj
end runs
end
end Go.Proofs.YtlhjdflgjbkpmaaGreatDoor.E
namespace Go.Proofs.YtlhjdflgjbkpmaaGreatDoor.M
theorem sy(a:BitVec 64):dV a a=true:=eI.2 fun _ h=>h
theorem lD{a b c:BitVec 64}(h:dV a b=true)(h':dV b c=true):dV a c=true:=by grind[eI]
theorem TQ{a b:BitVec 64}(h:dV a b=true)(h':dV b a=true):a=b:=tW fun j=>gG.2 ⟨eI.1 h j,eI.1 h' j⟩
theorem Fm(a b:BitVec 64):dV b (a|||b)=true:=by grind[dV,G2]
theorem afT(a b:BitVec 64):dV (a&&&b) b=true:=by grind[dV,Fb]
theorem XM{a b c:BitVec 64}(h:dV a c=true)(h':dV b c=true):dV (a|||b) c=true:=by grind[eI,Jw]
theorem alA{a b c:BitVec 64}(h:dV c a=true)(h':dV c b=true):dV c (a&&&b)=true:=by grind[eI,eT]
theorem zero_sub(a:BitVec 64):dV 0#64 a=true:=by grind[eI,uH]
theorem BE{n:Int}{w:BitVec 64}(h:(level n w).2=true):(1<=n/\n<=64)/\∃k:Int,(0<=k/\k<n)/\w=below k:=by grind[Eh,K1]
theorem Lx{n k:Int}(hn:1<=n/\n<=64)(hk:0<=k/\k<n):(level n (below k)).2=true:=by
 have:=XA (n:=n) (k:=k) ⟨hn.1,hn.2,hk.1,hk.2⟩
 rw[ug ⟨hn.1,hn.2,hk.1,hk.2⟩]at this
 rw[this]
theorem afU{r:Rl}{w:BitVec 64}(h:(eL r w).2=true):∃k:Int,(0<=k/\k<pts r)/\w=bS r k:=by
 rcases m9 (fun i=>decide (bS r i=w)) (pts r)with⟨k,k0,k1,k2,-,-⟩|⟨-,e⟩
 .exact⟨k,⟨k0,k1⟩,(Kh k2).symm⟩
 have:eL r w=(0,false):=e
 rw[this]at h;cases h
def wv(f:Fc)(a b:BitVec 64):BitVec 64:=if f.kind=4 then jE f.rel a b else a|||b
theorem OT{f:Fc}(h:f.kind=1)(w:BitVec 64):jZ f w=(level f.names.length w).2:=by rw[jZ,aQ h]
theorem OU{f:Fc}(h:f.kind=2)(w:BitVec 64):jZ f w=dV w (below f.names.length):=by grind[jZ]
theorem OV{f:Fc}(h:f.kind=3)(w:BitVec 64):jZ f w=o5 f.rel w:=by grind[jZ]
theorem aor{f:Fc}(h:f.kind=4)(w:BitVec 64):jZ f w=(eL f.rel w).2:=by grind[jZ]
theorem uj{r:Rl}{w:BitVec 64}(h:o5 r w=true):di r=true/\fI r w=w:=by grind[o5]
theorem Fp{f:Fc}(h:f.kind≠4)(a b:BitVec 64):wv f a b=a|||b:=by rw[wv,aP h]
structure aDy(f:Fc):Prop where
 l:sr f.rel=true
 n:pts f.rel=f.rel.n
theorem IW{f:Fc}(h:cT f=true)(h4:f.kind=4):aDy f:=by
 have hs:=(uL h).2
 rcases hs with hs|hs|hs|hs
 .omega
 .omega
 .omega
 exact⟨hs.2.2,(iS hs.2.2).2.2.1⟩
theorem lE{f:Fc}(h:cT f=true)(h4:f.kind=4){w:BitVec 64}(hw:jZ f w=true):∃k:Int,(0<=k/\k<f.rel.n)/\w=bS f.rel k:=by
 rw[aor h4]at hw
 obtain⟨k,hk,e⟩:=afU hw
 rw[(IW h h4).n]at hk
 exact⟨k,hk,e⟩
theorem Lz{f:Fc}(h:cT f=true)(h4:f.kind=4){k:Int}(hk:0<=k/\k<f.rel.n):jZ f (bS f.rel k)=true:=by
 have ht:=IW h h4
 rw[aor h4,uJ (iS ht.l).2.1 (by rw[ht.n];exact hk)]
theorem afV{f:Fc}(h:cT f=true)(h4:f.kind=4){i j:Int}(hi:0<=i/\i<f.rel.n)(hj:0<=j/\j<f.rel.n):wv f (bS f.rel i) (bS f.rel j)=bS f.rel (iO f.rel i j).1:=by
 rw[wv,aQ h4,ab2 (IW h h4).l hi hj]
theorem XN{f:Fc}(h:cT f=true)(h4:f.kind=4){i j:Int}(hi:0<=i/\i<f.rel.n)(hj:0<=j/\j<f.rel.n):dV (bS f.rel i) (bS f.rel j)=bI f.rel i j:=by grind[Fc,cT,dV,bS,bI,alu,IW]
theorem xT{f:Fc}(h:cT f=true):f.kind=1\/f.kind=2\/(f.kind=3/\di f.rel=true)\/f.kind=4:=by grind[Fc,cT,di,uL]
section one
variable{f:Fc}(h:cT f=true){a b c:BitVec 64}(ha:jZ f a=true)(hb:jZ f b=true)(hc:jZ f c=true)
include h ha hb
theorem aq8:jZ f (wv f a b)=true:=by
 rcases xT h with k|k|⟨k,hr⟩|k
 .rw[Fp J]
  rw[OT k]at*
  obtain⟨hn,i,hi,rfl⟩:=BE ha
  obtain⟨-,j,hj,rfl⟩:=BE hb
  rw[ae6];exact Lx hn J
 .rw[Fp J]
  rw[OU k]at*;exact XM ha hb
 .rw[Fp J]
  rw[OV k]at*
  have:=av7 hr a b
  rwa[(uj ha).2,(uj hb).2]at this
 obtain⟨i,hi,rfl⟩:=lE h k ha
 obtain⟨j,hj,rfl⟩:=lE h k hb
 rw[afV h k hi hj];exact Lz h k (ZU (IW h k).l hi hj)
theorem aq9:jZ f (a&&&b)=true:=by
 rcases xT h with k|k|⟨k,hr⟩|k
 .rw[OT k]at*
  obtain⟨hn,i,hi,rfl⟩:=BE ha
  obtain⟨-,j,hj,rfl⟩:=BE hb
  rw[abH];exact Lx hn J
 .rw[OU k]at*;exact lD (Fb a b) ha
 .rw[OV k]at*
  have:=aqZ hr a b
  rwa[(uj ha).2,(uj hb).2]at this
 obtain⟨i,hi,rfl⟩:=lE h k ha
 obtain⟨j,hj,rfl⟩:=lE h k hb
 rw[<-ab1 (IW h k).l hi hj];exact Lz h k (aop (IW h k).l hi hj)
theorem aDz:dV a (wv f a b)=true/\dV b (wv f a b)=true:=by
 by_cases k:f.kind=4
 .obtain⟨i,hi,rfl⟩:=lE h k ha
  obtain⟨j,hj,rfl⟩:=lE h k hb
  have hl:=IW h k
  have hJ:=(JD hl.l hi hj).2
  rw[afV h k hi hj,XN h k hi (ZU hl.l hi hj),XN h k hj (ZU hl.l hi hj)]
  exact⟨hJ.a,hJ.b⟩
 rw[Fp k];exact⟨G2 a b,Fm a b⟩
include hc
theorem av9(h1:dV a c=true)(h2:dV b c=true):dV (wv f a b) c=true:=by
 by_cases k:f.kind=4
 .obtain⟨i,hi,rfl⟩:=lE h k ha
  obtain⟨j,hj,rfl⟩:=lE h k hb
  obtain⟨m,hm,rfl⟩:=lE h k hc
  have hl:=IW h k
  rw[XN h k hi hm]at h1;rw[XN h k hj hm]at h2
  rw[afV h k hi hj,XN h k (ZU hl.l hi hj) hm]
  exact(JD hl.l hi hj).2.l m h1 h2
 rw[Fp k];exact XM h1 h2
end one
theorem alB{f:Fc}(h:cT f=true):jZ f (eU f)=true/\∀a,jZ f a=true->dV (eU f) a=true:=by
 have hn:=(uL h).1
 rcases xT h with k|k|⟨k,hr⟩|k
 .rw[eU,aQ J]
  refine⟨?_,fun a _=>zero_sub a⟩
  rw[OT k,show(0#64)=below 0 from O];exact Lx J J
 .rw[eU,aQ J]
  exact⟨by rw[OU k];exact zero_sub _,fun a _=>zero_sub a⟩
 .rw[eU,aQ J]
  refine⟨?_,fun a _=>zero_sub a⟩
  rw[OV k]
  refine Hi hr (tW fun z=> ?_)
  rw[uH]
  cases hc:hasB (fI f.rel 0#64) z with
  |false=>rfl
  |true=>
   obtain⟨o,x,p,y,-,-,-,h4⟩:=(jc hr _ z).1 hc
   rw[uH]at h4;cases h4
 have ht:=IW h k
 have he:=alw ht.l
 rw[eU,aP J]
 refine⟨Lz h k he.2.1,fun a ha=> ?_⟩
 obtain⟨i,hi,rfl⟩:=lE h k ha
 rw[XN h k he.2.1 hi];exact he.2.2 i hi.1 hi.2
theorem pJ{s:Sh}{e:El}(h:cz s e=true):qY s=true/\∀i:Nat,i<8->(((i:Int)<s.aY.length->jZ (s.aY.getD i vE) (e i)=true)/\(¬(i:Int)<s.aY.length->e i=0#64)):=by
 rw[cz,cH,iC]at h
 refine⟨h.1,fun i hi=> ?_⟩
 have:=h.2 (i:Int) (cM.2 J)
 rw[dN]at this
 split at this
 .rename_i h3;exact⟨fun _=>this,fun h4=>absurd h3 h4⟩
 rename_i h3;exact⟨fun h4=>absurd h4 h3,fun _=>Kh this⟩
theorem Rc{s:Sh}{e:El}(h:qY s=true)(hf:∀i:Nat,i<8->(((i:Int)<s.aY.length->jZ (s.aY.getD i vE) (e i)=true)/\(¬(i:Int)<s.aY.length->e i=0#64))):cz s e=true:=
 Lv h (k:=8) J fun j j0 j1=>by
  have:=hf j.toNat J
  rw[fN j0]at this;exact this
theorem o6{a b:El}:cR a b=true↔∀i:Nat,i<8->dV (a i) (b i)=true:=by grind[cR,List.all_eq_true,cM,Int.toNat_natCast]
theorem LA{s:Sh}{a b:El}{i:Nat}(h:(i:Int)<s.aY.length):fC s a b i=wv (s.aY.getD i vE) (a i) (b i):=by simp_all[Sh,El,fC,wv,vE,TO]
theorem Ho{s:Sh}{a b:El}{i:Nat}(h:¬(i:Int)<s.aY.length):fC s a b i=a i|||b i:=by
 show TO s a b i=_
 rw[TO,aP (fun hc=>h hc.1)]
theorem BF{s:Sh}(h:qY s=true){i:Nat}(hi:(i:Int)<s.aY.length):cT (s.aY.getD i vE)=true:=by grind[afP,Int.toNat_natCast]
section elems
variable{s:Sh}{a b c:El}(ha:cz s a=true)(hb:cz s b=true)(hc:cz s c=true)
include ha hb
theorem Hq:cz s (fC s a b)=true:=by grind[pJ,Rc,LA,aq8,BF,Ho]
theorem ara:cz s (qZ a b)=true:=by grind[cz,qZ,pJ,Rc,aq9,BF]
theorem XO:cR a (fC s a b)=true/\cR b (fC s a b)=true:=by grind[pJ,o6,LA,aDz,BF,Ho,G2,Fm]
include hc
theorem ZZ(h1:cR a c=true)(h2:cR b c=true):cR (fC s a b) c=true:=by grind[pJ,o6,LA,av9,BF,Ho,XM]
end elems
theorem arb(a b:El):cR (qZ a b) a=true/\cR (qZ a b) b=true:=by simp_all[El,cR,qZ,o6,Fb,afT]
theorem awa{a b c:El}(h1:cR c a=true)(h2:cR c b=true):cR c (qZ a b)=true:=by simp_all[El,cR,qZ,o6,alA]
theorem XP{a b:El}(h1:cR a b=true)(h2:cR b a=true):qL a b:=fun i hi=>TQ (o6.1 h1 i hi) (o6.1 h2 i hi)
theorem Z0{s:Sh}{f:Fc->BitVec 64}{i:Nat}(h:qY s=true)(hi:(i:Int)<s.aY.length):gZ s f i=f (s.aY.getD i vE):=aQ ⟨h,hi⟩
theorem TR{s:Sh}{f:Fc->BitVec 64}{i:Nat}(hi:¬(i:Int)<s.aY.length):gZ s f i=0#64:=aP fun h=>hi h.2
theorem OW{s:Sh}(h:qY s=true):cz s (gZ s eU)=true/\∀a,cz s a=true->cR (gZ s eU) a=true:=by grind[Rc,TR,o6,Z0,alB,BF,pJ,zero_sub]
def LB(r:Rl)(k:Int):Nat:=((List.range 65).filter fun v=>decide (1<=v)&&hasB (yx r v) k).length
theorem ab8{r:Rl}(ho:fT r=true){k:Int}(hk:0<=k/\k<pts r):∀m:Nat,hasB (yx r m) k=true->(∀v,m<v->hasB (yx r v) k=false)->LB r k=m:=fun m hm hno=>by
 have hp:=dB r
 have hlt:=afA ho hm
 have e:((List.range 65).filter fun v=>decide (1<=v)&&hasB (yx r v) k)=(List.range m).map (· +1):=by
  have h1:List.range 65=0::((List.range m).map (· +1)++(List.range (64-m)).map (· +(m+1))):=by
   rw[show 65=(m+(64-m))+1 by omega,Wt,WZ,gA,QG]
   simp only[Km,true_and]
   congr 1
   refine Gs fun x _=> ?_
   simp only[Function.comp];omega
  rw[h1,yy az,Qp]
  have h2:((List.range m).map (· +1)).filter (fun v=>decide (1<=v)&&hasB (yx r v) k)=(List.range m).map (· +1):=by
   rw[List.filter_eq_self]
   intro v hv
   rw[fU]at hv
   obtain⟨x,hx,rfl⟩:=hv
   rw[oL]at hx
   rw[TA (show x+1<=m by omega) hm];simp
  have h3:((List.range (64-m)).map (· +(m+1))).filter (fun v=>decide (1<=v)&&hasB (yx r v) k)=[]:=by
   rw[List.filter_eq_nil_iff]
   intro v hv
   rw[fU]at hv
   obtain⟨x,-,rfl⟩:=hv
   rw[hno _ J];simp
  rw[h2,h3,kV]
 rw[LB,e,gj,Qr]
theorem Re{r:Rl}(ho:fT r=true){k:Int}(hk:0<=k/\k<pts r):∃m:Nat,hasB (yx r m) k=true/\(∀v,m<v->hasB (yx r v) k=false)/\LB r k=m:=by
 have hp:=dB r
 have h0:hasB (yx r 0) k=true:=(nY _ _).2 J
 have key:∀n:Nat,(∃m,m<=n/\hasB (yx r m) k=true/\∀v,m<v->v<=n->hasB (yx r v) k=false):=fun n=>by
  induction n with
  |zero=>exact⟨0,eG _,h0,fun v h1 h2=>J⟩
  |succ n ih=>
   obtain⟨m,h1,h2,h3⟩:=ih
   cases hc:hasB (yx r (n+1)) k with
   |true=>exact⟨n+1,eG _,hc,fun v h4 h5=>J⟩
   |false=>
    refine⟨m,J,h2,fun v h4 h5=> ?_⟩
    by_cases he:v=n+1
    .rw[he];exact hc
    exact h3 v h4 J
 obtain⟨m,h1,h2,h3⟩:=key 64
 have hno:∀v,m<v->hasB (yx r v) k=false:=fun v hv=>by
  by_cases hv2:v<=64
  .exact h3 v hv hv2
  .cases hc:hasB (yx r v) k with
   |false=>rfl
   |true=>have:=afA ho hc;omega
 exact⟨m,h2,hno,ab8 ho hk m h2 hno⟩
theorem alC{r:Rl}(ho:fT r=true){i j:Int}(h:bI r i j=true)(hne:j≠i):LB r i<LB r j:=by
 have hb:=kJ h
 obtain⟨m,h1,h2,h3⟩:=Re ho hb.1
 obtain⟨m',h4,h5,h6⟩:=Re ho hb.2
 rw[h3,h6]
 have h7:=afz m h1 h hne
 by_cases hle:m'<=m
 .rw[h5 (m+1) J]at h7;cases h7
 omega
theorem ab9{r:Rl}(ho:fT r=true){k:Int}(hk:0<=k/\k<pts r):(LB r k:Int)<=(ZO r).1:=by
 obtain⟨m,h1,h2,h3⟩:=Re ho hk
 obtain⟨t,h4,h5,h6⟩:=G8 ho 65 0 O (.inl O)
 have h4':Lf r 65 (below (pts r)) 0=(t:Int):=h4
 rw[ZO,aQ ho,h4',h3]
 by_cases hle:m<=t
 .show(m:Int)<=t;omega
 have:=TA (show t+1<=m by omega) h1
 rw[h5,uH]at this;cases this
def uM(f:Fc)(w:BitVec 64):Nat:=if f.kind=3 then((upto 64).filter fun i=>Lr f.rel i&&hasB w i).length else if f.kind=4 then LB f.rel (eL f.rel w).1 else(gf w).length
theorem filter_lt{A B:Int->Bool}:∀l:List Int,(∀x∈l,A x=true->B x=true)->(∃x∈l,B x=true/\A x=false)->(l.filter A).length<(l.filter B).length
 |[],_,h=>by obtain⟨x,hx,_⟩:=h;simp at hx
 |y::l,h1,h2=>by
  have hle:∀m:List Int,(∀x∈m,A x=true->B x=true)->(m.filter A).length<=(m.filter B).length:=fun m hm=>by
   induction m with
   |nil=>simp
   |cons z m ih=>
    have:=ih fun x hx=>hm x qg
    have hz:=hm z az
    cases ha:A z with
    |true=>rw[wR ha,wR (hz ha)];simp;omega
    |false=>
     rw[yy (by simp[ha])]
     cases hb:B z with
     |true=>rw[wR hb];simp;omega
     |false=>rw[yy (by simp[hb])];exact this
  have hl:=hle l fun x hx=>h1 x qg
  have hy:=h1 y az
  obtain⟨x,hx,hbx,hax⟩:=h2
  rcases cZ.1 hx with rfl|hx
  .rw[yy (by simp[hax]),wR hbx];simp;omega
  have ih:=filter_lt l (fun z hz=>h1 z (by simp[hz])) ⟨x,hx,hbx,hax⟩
  cases ha:A y with
  |true=>rw[wR ha,wR (hy ha)];simp;omega
  |false=>
   rw[yy (by simp[ha])]
   cases hb:B y with
   |true=>rw[wR hb];simp;omega
   |false=>rw[yy (by simp[hb])];exact ih
theorem ard{a b:BitVec 64}(h:dV a b=true)(hne:a≠b):∃j:Int,hasB b j=true/\hasB a j=false:=by grind[TQ,eI,hasB]
theorem LC{r:Rl}(h:di r=true){w:BitVec 64}(hw:fI r w=w){o x p y:Int}(h1:bI r o p=true)(h2:bI r x y=true)(h3:hasB w (8*p+y)=true):hasB w (8*o+x)=true:=by grind[jc]
theorem TS{f:Fc}(h:cT f=true){a b:BitVec 64}(ha:jZ f a=true)(hb:jZ f b=true)(hs:dV a b=true)(hne:a≠b):uM f a<uM f b:=by
 obtain⟨j,hj1,hj2⟩:=ard hs hne
 by_cases k3:f.kind=3
 .have hr:di f.rel=true:=by
   rcases xT h with k|k|⟨-,hr⟩|k
   .omega
   .omega
   .exact hr
   omega
  rw[OV k3]at ha hb
  have ca:=(uj ha).2;have cb:=(uj hb).2
  rw[uM,uM,aQ k3,aQ k3]
  refine filter_lt _ (fun x _ hx=> ?_) ?_
  .rw[cH]at hx⊢;exact⟨hx.1,eI.1 hs x hx.2⟩
  have hsp:=gC hr
  have awb:=hj1
  rw[<-cb]at awb
  obtain⟨o,x,p,y,rfl,h1,h2,-⟩:=(jc hr b j).1 awb
  have b1:=Au hr h1;have b2:=Au hr h2
  obtain⟨q,q1,q2,q3,q4⟩:=XH hr o.toNat o J b1.1.1 b1.1.2
  obtain⟨t,t1,t2,t3,t4⟩:=XH hr x.toNat x J b2.1.1 b2.1.2
  have nq:=(Lq hr q).1 q2;have nt:=(Lq hr t).1 t2
  refine⟨8*q+t,cM.2 J,?_,?_⟩
  .rw[Lr,show(8*q+t)/8=q by omega,show(8*q+t)%8=t by omega,q2,t2,LC hr cb q4 t4 hj1];rfl
  .cases hc:hasB a (8*q+t)with
   |false=>simp
   |true=>rw[LC hr ca q3 t3 hc]at hj2;cases hj2
 by_cases k4:f.kind=4
 .obtain⟨i,hi,rfl⟩:=lE h k4 ha
  obtain⟨m,hm,rfl⟩:=lE h k4 hb
  have ht:=IW h k4
  have ho:=(iS ht.l).2.1
  rw[XN h k4 hi hm]at hs
  rw[uM,uM,aP k3,aP k3,aQ k4,aQ k4,uJ ho (by rw[ht.n];exact hi),uJ ho (by rw[ht.n];exact hm)]
  exact alC ho hs fun e=>hne (by have e2:m=i:=e;rw[e2])
 rw[uM,uM,aP k3,aP k3,aP k4,aP k4]
 exact afw (eI.1 hs) hj1 hj2
theorem OX{k:Int}(h0:0<=k)(h:k<=64):(gf (below k)).length=k.toNat:=by
 have e:gf (below k)=upto k:=yQ (ry _) (wm _) fun x=>by rw[fQ,nY,cM];omega
 rw[e,r9]
theorem afW{f:Fc}(h:cT f=true){a:BitVec 64}(ha:jZ f a=true):(uM f a:Int)<=xR f:=by
 have hn:=(uL h).1
 rcases xT h with k|k|⟨k,hr⟩|k
 .rw[OT k]at ha
  obtain⟨-,i,hi,rfl⟩:=BE ha
  rw[uM,aP J,aP J,xR,aQ k,OX hi.1 J];omega
 .rw[OU k]at ha
  rw[uM,aP J,aP J,xR,aP J,aQ k]
  have:=G6 (gf a) (gf (below f.names.length)) (G7 a) fun x hx=>(fQ _ _).2 (eI.1 ha x ((fQ _ _).1 hx))
  rw[OX J J]at this;omega
 .rw[uM,aQ k,xR,aP J,aP J,aQ k,<-ab5 hr O,aq0,gj]
  have:∀l:List Int,(l.filter fun i=>Lr f.rel i&&hasB a i).length<=(l.filter (Lr f.rel)).length:=fun l=>by
   induction l with
   |nil=>simp
   |cons z l ih=>
    cases hg:Lr f.rel z with
    |true=>
     rw[wR hg]
     cases hz:hasB a z with
     |true=>rw[wR (by simp[hg,hz])];simp;omega
     |false=>rw[yy (by simp[hz])];simp;omega
    |false=>rw[yy (by simp[hg]),yy (by simp[hg])];exact ih
  have:=this (upto 64)
  omega
 obtain⟨i,hi,rfl⟩:=lE h k ha
 have ht:=IW h k
 have ho:=(iS ht.l).2.1
 rw[uM,aP J,aQ k,xR,aP J,aP J,aP J,uJ ho (by rw[ht.n];exact hi)]
 exact ab9 ho (by rw[ht.n];exact hi)
def Es(s:Sh)(e:El)(k:Int):Int:=((upto k).map fun i=>(uM (s.aY.getD i.toNat vE) (e i.toNat):Int)).sum
def mv(s:Sh)(e:El):Int:=Es s e s.aY.length
theorem Rf{F G:Int->Int}:∀l:List Int,(∀x∈l,F x<=G x)->(l.map F).sum<=(l.map G).sum
 |[],_=>by simp
 |y::l,h=>by
  have:=Rf l fun x hx=>h x qg
  have:=h y az
  simp;omega
theorem afX{F G:Int->Int}:∀l:List Int,(∀x∈l,F x<=G x)->(∃x∈l,F x<G x)->(l.map F).sum<(l.map G).sum
 |[],_,h=>by obtain⟨x,hx,_⟩:=h;simp at hx
 |y::l,h,h2=>by
  have hle:=Rf l fun x hx=>h x qg
  have hy:=h y az
  obtain⟨x,hx,XQ⟩:=h2
  rcases cZ.1 hx with rfl|hx
  .simp;omega
  have:=afX l (fun z hz=>h z (by simp[hz])) ⟨x,hx,XQ⟩
  simp;omega
theorem afY(s:Sh)(e:El):0<=mv s e:=by
 have:=Rf (F:=fun _=>0) (G:=fun i=>(uM (s.aY.getD i.toNat vE) (e i.toNat):Int)) (upto s.aY.length) fun x _=>by omega
 rw[mv,Es]
 refine Kt ?_ this
 have hz:∀l:List Int,(l.map fun _=>(0:Int)).sum=0:=fun l=>by
  induction l with
  |nil=>rfl
  |cons y l ih=>rw[lf,D4,ih];rfl
 rw[hz];exact lm _
theorem afZ{s:Sh}{e:El}(h:cz s e=true):mv s e<=gd s:=by
 have hf:=pJ h
 have hs:=yV hf.1
 rw[gd,aQ hf.1,mv,Es,BD]
 refine Rf _ fun x hx=> ?_
 have:=cM.1 hx
 have h2:=(hf.2 x.toNat J).1 J
 exact afW (BF hf.1 J) h2
theorem af0{s:Sh}{a b:El}(ha:cz s a=true)(hb:cz s b=true)(hl:cR a b=true)(hne:¬qL b a):mv s a<mv s b:=by
 have fa:=pJ ha;have fb:=pJ hb
 have hs:=yV fa.1
 rw[o6]at hl
 have hex:∃i:Nat,i<8/\b i≠a i:=Qf fun hno=>hne fun i hi=>Qf fun h=>hno ⟨i,hi,h⟩
 obtain⟨i,hi,hd⟩:=hex
 have hin:(i:Int)<s.aY.length:=Qf fun h=>hd (by rw[(fb.2 i hi).2 h,(fa.2 i hi).2 h])
 rw[mv,mv,Es,Es]
 refine afX _ (fun x hx=> ?_) ⟨i,cM.2 J,?_⟩
 .have:=cM.1 hx
  have hx8:x.toNat<8:=J
  have XQ:((x.toNat:Nat):Int)<s.aY.length:=J
  by_cases he:a x.toNat=b x.toNat
  .rw[he];exact lm _
  have:=TS (BF fa.1 XQ) ((fa.2 _ hx8).1 XQ) ((fb.2 _ hx8).1 XQ) (hl _ hx8) he
  omega
 rw[dN]
 have:=TS (BF fa.1 hin) ((fa.2 i hi).1 hin) ((fb.2 i hi).1 hin) (hl i hi) (fun e=>hd e.symm)
 omega
theorem LD{f:Fc}(h:gO f.names=false):cT f=false:=by rw[cT,h];rfl
theorem XR{f:Fc}(h:gO f.names=true)(hk:f.kind=1\/f.kind=2):cT f=decide (pts f.rel=0):=by grind[cT]
theorem Z4{f:Fc}(h:gO f.names=true)(hk:f.kind=1\/f.kind=2):cT f=decide ((ew f.rel).eq (ew Rl.none)):=by grind[XR,ab7]
theorem awc{f:Fc}(h:gO f.names=true)(hk:f.kind=3):cT f=(decide (f.rel.n=f.names.length)&&di f.rel):=by grind[cT]
theorem awd{f:Fc}(h:gO f.names=true)(hk:f.kind=4):cT f=(decide (f.rel.n=f.names.length)&&sr f.rel):=by grind[cT]
theorem aos{f:Fc}(h1:¬f.kind=1)(h2:¬f.kind=2)(h3:¬f.kind=3)(h4:¬f.kind=4):cT f=false:=by grind[cT]
theorem af1{f:Fc}(hk:f.kind=3)(h:¬f.rel.n=f.names.length):cT f=false:=by grind[cT]
theorem af2{f:Fc}(hk:f.kind=4)(h:¬f.rel.n=f.names.length):cT f=false:=by grind[cT]
theorem af3{f:Fc}(h:gO f.names=true)(hk:f.kind=3)(hn:f.rel.n=f.names.length):cT f=di f.rel:=by grind[awc]
theorem af4{f:Fc}(h:gO f.names=true)(hk:f.kind=4)(hn:f.rel.n=f.names.length):cT f=sr f.rel:=by grind[awd]
theorem aot{f:Fc}(h1:¬f.kind=1)(h2:¬f.kind=2)(h3:¬f.kind=3)(w:BitVec 64):jZ f w=(eL f.rel w).2:=by grind[jZ]
theorem are{f:Fc}(h:cT f=true)(hk:f.kind=3)(w:BitVec 64):jZ f w=decide (fI f.rel w=w):=by grind[OV,o5,xT]
theorem alD{f:Fc}(h:cT f=true):0<=xR f/\xR f<=64:=by
 have hn:=(uL h).1
 rcases(uL h).2 with k|k|⟨k,k2,k3⟩|⟨k,k2,k3⟩
 .rw[xR,aQ k.1];omega
 .rw[xR,aP J,aQ k.1];omega
 .rw[xR,aP J,aP J,aQ k,<-Ln k3]
  have hs:=gC k3
  have hb:= @aqW f.rel (pts f.rel) J
  have h1:0<=z6 f.rel (pts f.rel)*z6 f.rel (pts f.rel):=Int.mul_nonneg hb.1 hb.1
  have h2:z6 f.rel (pts f.rel)*z6 f.rel (pts f.rel)<=8*8:=Int.mul_le_mul J J hb.1 J
  omega
 rw[xR,aP J,aP J,aP J]
 obtain⟨m,h1,-,h3⟩:=G8 (iS k3).2.1 65 0 O (.inl O)
 have h1':Lf f.rel 65 (below (pts f.rel)) 0=(m:Int):=h1
 rw[ZO,aQ (iS k3).2.1,h1']
 have hp:=dB f.rel
 rcases h3 with h3|h3
 .subst h3;exact⟨lm _,J⟩
 have:=Jy (iS k3).2.1 m h3
 have:=ZP h3
 show 0<=(m:Int)/\(m:Int)<=64
 omega
theorem Rg{s:Sh}(h:qY s=true):∀k:Nat,(k:Int)<=s.aY.length->0<=BD s k/\BD s k<=64*k
 |0,_=>⟨lm _,lm _⟩
 |k+1,hk=>by
  have ih:=Rg h k J
  have h1:=afQ (s:=s) (k:=(k:Int)) J
  have h2:=alD (afP h (k:=(k:Int)) J J)
  have h3:BD s ((k+1:Nat):Int)=BD s ((k:Int)+1):=rfl
  rw[h3,<-h1];omega
theorem alE{s:Sh}(h:qY s=true){k:Int}(k0:0<=k)(hk:k<=s.aY.length):0<=BD s k/\BD s k<=512:=by
 have h1:=Rg h k.toNat J
 have h2:=(yV h).1
 rw[fN k0]at h1;omega
theorem af5{s:Sh}{f:Fc->BitVec 64}{k:Int}(hk:k=s.aY.length):qL (sx (gZ s f) dy k) (gZ s f):=fun i hi=>by
 unfold sx
 by_cases h:(i:Int)<k
 .rw[aQ h]
 rw[aP h,TR J];rfl
theorem alF{s:Sh}{f:Fc->BitVec 64}(h:qY s=false):qL dy (gZ s f):=fun i hi=>by
 rw[gZ,aP (by rw[h];simp)];rfl
theorem af6{s:Sh}{f:Fc->BitVec 64}{e:El}{k:Int}(h:qY s=true)(he:e=sx (gZ s f) dy k)(k0:0<=k)(k1:k<s.aY.length):Av e k.toNat (f (s.aY.getD k.toNat vE))=sx (gZ s f) dy (k+1):=by grind[CM,Z0]
theorem af7{a b e:El}{k:Int}(he:e=sx (qZ a b) a k)(k0:0<=k):Av e k.toNat (e k.toNat&&&b k.toNat)=sx (qZ a b) a (k+1):=by
 subst he
 exact CM k0 (by rw[XL k0];rfl)
theorem alG{s:Sh}{a b:El}{k:Int}(k0:0<=k)(k1:k<s.aY.length)(h4:(s.aY.getD k.toNat vE).kind=4):fC s a b k.toNat=jE (s.aY.getD k.toNat vE).rel (a k.toNat) (b k.toNat):=aQ ⟨J,h4⟩
theorem alH{s:Sh}{a b:El}{k:Int}(k0:0<=k)(h:¬(k<s.aY.length/\(s.aY.getD k.toNat vE).kind=4)):fC s a b k.toNat=a k.toNat|||b k.toNat:=aP fun hc=>h ⟨J,hc.2⟩
def aN7(t:Bool):Fc->BitVec 64:=if t=true then aq6 else eU
def N3(l:List Tx):Bool:=decide (70<l.length)||l.any fun t=>decide (40<t.size)
def TU(s:Sh):Bool:=decide (12<s.aY.length)||s.aY.any fun f=>N3 f.names
theorem awe{s:Sh}(h:12<s.aY.length):TU s=true:=by grind[TU]
theorem aou{s:Sh}{k:Int}(k0:0<=k)(k1:k<s.aY.length)(h:N3 (s.aY.getD k.toNat vE).names=true):TU s=true:=by
 rw[TU,ou,DZ]
 exact .inr ⟨_,ld (fB (d:=vE) k0 k1),h⟩
theorem arf{l:List Tx}(h:70<l.length):N3 l=true:=by grind[N3]
theorem arh{l:List Tx}{k:Int}(k0:0<=k)(k1:k<l.length)(h:40<(l.getD k.toNat pu).size):N3 l=true:=by
 rw[N3,ou,DZ]
 exact .inr ⟨_,ld (fB (d:=pu) k0 k1),gB h⟩
theorem alI{l:List Tx}{k:Int}(h:¬70<l.length)(hk:¬k<l.length)(hf:∀j:Int,0<=j->j<k->¬40<(l.getD j.toNat pu).size):N3 l=false:=by
 rw[N3,gF h,Bool.false_or,WM]
 intro x hx
 obtain⟨i,hi,rfl⟩:=sX hx
 have:=hf i J J
 rw[dN,eE,ef hi]at this
 simpa using this
theorem ari{s:Sh}{k:Int}(h:¬12<s.aY.length)(hk:¬k<s.aY.length)(hf:∀j:Int,0<=j->j<k->N3 (s.aY.getD j.toNat vE).names=false):TU s=false:=by
 rw[TU,gF h,Bool.false_or,WM]
 intro x hx
 obtain⟨i,hi,rfl⟩:=sX hx
 have:=hf i J J
 rw[dN,eE,ef hi]at this
 simpa using this
end Go.Proofs.YtlhjdflgjbkpmaaGreatDoor.M
namespace Go.Proofs.YtlhjdflgjbkpmaaGreatDoor.E
section
open Go Go.RowKit Go.Proofs.YtlhjdflgjbkpmaaGreatDoor.M
theorem acd{s:kX}{a b e:El}{k:Int}(he:e=sx (fC s.sh a b) a k)(k0:0<=k)(k1:k<s.aY.length)(h4:(s.aY.getD k.toNat kF).kind=4):Av e k.toNat (jE (s.aY.getD k.toNat kF).rel (e k.toNat) (b k.toNat))=sx (fC s.sh a b) a (k+1):=by
 subst he
 exact CM k0 (by rw[XL k0,alG k0 (by rw[tg];exact k1) (by rw[mH];exact h4),mH];rfl)
theorem OY{s:kX}{a b e:El}{k:Int}(he:e=sx (fC s.sh a b) a k)(k0:0<=k)(h:¬(k<s.aY.length/\(s.aY.getD k.toNat kF).kind=4)):Av e k.toNat (e k.toNat|||b k.toNat)=sx (fC s.sh a b) a (k+1):=by
 subst he
 exact CM k0 (by rw[XL k0,alH k0 (by rw[tg,mH];exact h)])
def Aw(s:kX):List Value:=[B s.tuple,s.fv]
theorem LF(s:kX):(Aw s).length=2:=rfl
def C1:kX:=⟨false,.slice none 0 0,[]⟩
structure OZ(K:Vu)(l:List kX):Prop where
 each:∀s∈l,lB K s
theorem OZ.at{K:Vu}{l:List kX}(h:OZ K l){k:Int}(h0:0<=k)(h1:k<l.length):lB K (l.getD k.toNat C1):=h.each _ (ld (fB (d:=C1) h0 h1))
theorem OZ.mono{K K':Vu}{l:List kX}(h:OZ K l)(hl:Le K K'):OZ K' l:=⟨fun s hs=>(h.each s hs).mono hl⟩
structure sB(K:Vu)(l:List pU):Prop where
 each:∀f∈l,vH K f
theorem sB.mono{K K':Vu}{l:List pU}(h:sB K l)(hl:Le K K'):sB K' l:=⟨fun s hs=>(h.each s hs).mono hl⟩
theorem sB.nil(K:Vu):sB K []:=⟨fun f hf=>by simp at hf⟩
theorem sB.snoc{K:Vu}{l:List pU}{f:pU}(h:sB K l)(hf:vH K f):sB K (l++[f]):=⟨fun x hx=>by
 rcases eP.1 hx with hx|hx
 .exact h.each x hx
 simp at hx;subst hx;exact hf⟩
theorem sB.app{K:Vu}{l m:List pU}(h:sB K l)(hf:sB K m):sB K (l++m):=⟨fun x hx=>by
 rcases eP.1 hx with hx|hx
 .exact h.each x hx
 exact hf.each x hx⟩
theorem sB.at{K:Vu}{l:List pU}(h:sB K l){k:Int}(h0:0<=k)(h1:k<l.length):vH K (l.getD k.toNat kF):=h.each _ (ld (fB (d:=kF) h0 h1))
def z8(l:List kX):List Fc:=l.flatMap fun s=>s.sh.aY
theorem ace{l:List kX}{k:Int}(h0:0<=k)(h1:k<l.length):z8 (l.take (k+1).toNat)=z8 (l.take k.toNat)++(l.getD k.toNat C1).sh.aY:=by
 have h2:k.toNat<l.length:=J
 rw[show(k+1).toNat=k.toNat+1 by omega,yB,z8,DT,eE,ef h2]
 simp[z8]
theorem af8{l:List kX}{k:Int}(h:¬k<l.length):z8 (l.take k.toNat)=z8 l:=by grind[List.take_of_length_le]
theorem Hr{l:List pU}{k:Int}(h0:0<=k)(h1:k<l.length):(l.take (k+1).toNat).map pU.fc=(l.take k.toNat).map pU.fc++[(l.getD k.toNat kF).fc]:=by
 have h2:k.toNat<l.length:=J
 rw[show(k+1).toNat=k.toNat+1 by omega,yB,gA,eE,ef h2]
 simp
theorem alJ{b:Bool}{v:Value}(h:v.oneCell'=true):∀u∈(#[B b,v]:Array Value),u.oneCell'=true:=fun u hu=>by
 simp only[Kk,cZ,List.not_mem_nil,Bg]at hu
 rcases hu with rfl|rfl
 .rfl
 exact h
theorem alK{Z L:List a8}{i:Nat}{x:a8}(h:L[i]?=some x):(Z++L)[Z.length+i]?=some x:=by grind
theorem LG{K:Vu}{f:pU}(h:vH K f):∀u∈[f].flatMap rC,u.oneCell'=true:=by simpa using TP h
theorem acf{K:Vu}{f:pU}{v:Value}(h:vH K f)(hv:v.oneCell'=true):∀u∈rC {f with nv:=v},u.oneCell'=true:=by
 intro u hu
 rw[rC,cZ,cZ]at hu
 rcases hu with rfl|rfl|hu
 .rfl
 .exact hv
 exact K7 f.rel u (by rw[iR];simpa using hu)
section runs
variable{P:Program}{σ:Env}{w:World}{dst:Option Tmp}{ty t u e:TypeId}{pos:String}{bJ:Array Edge}{g:Option (Nat×Bool)}{x y:Operand}{b:Nat}{fr:Nat×Nat}
theorem XS{f f0:pU}(h:∀u∈rC f,u.oneCell'=true)(hi:(P.info? t).map (·.size)=some 67)(hx:ev σ x= .pointer (some ⟨b,0,none⟩))(hy:ev σ y= .agg (tX f))(hg:w.heap[b]?=some (.cells (tX f0) e (0,0))):
 (execOp (ev σ) ⟨dst,.store t x y,ty,pos,bJ,g⟩).run P w= .ok .skip (w.setRow b (tX f)):=by grind[eC,fJ]
theorem XT{f:pU}{v:Value}(hi:(P.info? t).map (·.size)=some 1)(hx:ev σ x= .pointer (some ⟨b,0+1,none⟩))(hy:ev σ y=v)(hv:v.cells=#[v])(h1:v.oneCell'=true)(hg:w.heap[b]?=some (.cells (tX f) e (0,0))):
  (execOp (ev σ) ⟨dst,.store t x y,ty,pos,bJ,g⟩).run P w= .ok .skip (w.setRow b (tX {f with nv:=v})):=by
 have h:=bL (P:=P) (dst:=dst) (ty:=ty) (pos:=pos) (bJ:=bJ) (g:=g) hi hx hy hv h1 hg (by simp[fJ])
 rw[h];congr 2
theorem af9{K:Vu}{s:kX}(h:lB K s):∀u∈rD s,u.oneCell'=true:=by
 intro u hu
 have h1:=nZ h.aY
 simp at hu
 rcases hu with rfl|rfl
 .rfl
 exact h1.1
theorem Ht{K:Vu}{s:kX}{c:Array Value}(h:lB K s)(hi:(P.info? t).map (·.size)=some 2)(hx:ev σ x= .pointer (some ⟨b,0,none⟩))(hy:ev σ y= .agg (rD s))(hg:w.heap[b]?=some (.cells c e (0,0)))(hc:c.size=2):
 (execOp (ev σ) ⟨dst,.store t x y,ty,pos,bJ,g⟩).run P w= .ok .skip (w.setRow b (rD s)):=by grind[eC,af9]
theorem yX{len:Nat}{ps:List (Nat×Operand)}{l:List pU}{ie:TypeInfo}{z:Value}
  (hu:P.underlying t=some (.slice e)) (hie:P.info? e=some ie) (hz:ie.zero=some z) (hsz:ie.size=67) (hl:l.length=len) (hsmall:¬len*67>2^24) (hpos:¬len*67=0)
  (h:ps.map (fun p=>(p.1,ev σ p.2))=((l.map fun f=>Value.agg (tX f)).zipIdx.map fun p=>(p.2,p.1))):
  (execOp (ev σ) ⟨dst,.buildSlice t len ps.toArray,ty,pos,bJ,g⟩).run P w= .ok (.value (.slice (some ⟨w.heap.size,0,none⟩) len len)) (w.alloc (.cells (l.flatMap rC).toArray e)):=by
 have h2:=ct (P:=P) (σ:=σ) (w:=w) (dst:=dst) (ty:=ty) (pos:=pos) (bJ:=bJ) (g:=g) (vs:=l.map fun f=>Value.agg (tX f)) (sz:=67) hu hie hz hsz (by rw[gj];exact hl) hsmall hpos h (by
  rw[iC];intro v hv
  rw[fU]at hv
  obtain⟨r,_,rfl⟩:=hv
  simp[Value.cells,fJ])
 have h3:(l.map fun f=>Value.agg (tX f)).flatMap (·.cells.toList)=l.flatMap rC:=by
  rw[WS];rfl
 rw[h3]at h2;exact h2
theorem LH{len:Nat}{ps:List (Nat×Operand)}{l:List kX}{ie:TypeInfo}{z:Value}
  (hu:P.underlying t=some (.slice e)) (hie:P.info? e=some ie) (hz:ie.zero=some z) (hsz:ie.size=2) (hl:l.length=len) (hsmall:¬len*2>2^24) (hpos:¬len*2=0)
  (h:ps.map (fun p=>(p.1,ev σ p.2))=((l.map fun f=>Value.agg (rD f)).zipIdx.map fun p=>(p.2,p.1))):
  (execOp (ev σ) ⟨dst,.buildSlice t len ps.toArray,ty,pos,bJ,g⟩).run P w= .ok (.value (.slice (some ⟨w.heap.size,0,none⟩) len len)) (w.alloc (.cells (l.flatMap Aw).toArray e)):=by
 have h2:=ct (P:=P) (σ:=σ) (w:=w) (dst:=dst) (ty:=ty) (pos:=pos) (bJ:=bJ) (g:=g) (vs:=l.map fun f=>Value.agg (rD f)) (sz:=2) hu hie hz hsz (by rw[gj];exact hl) hsmall hpos h (by
  rw[iC];intro v hv
  rw[fU]at hv
  obtain⟨r,_,rfl⟩:=hv
  simp[Value.cells])
 have h3:(l.map fun f=>Value.agg (rD f)).flatMap (·.cells.toList)=l.flatMap Aw:=by
  rw[WS];rfl
 rw[h3]at h2;exact h2
theorem Hp.oy{w0 w:World}{L:List a8}{i b:Nat}{α:Type}{cl:α->List Value}{sz:Nat}{l:List α}{e:TypeId}(hsz:∀a,(cl a).length=sz)(h:Hp w0 w L)(hi:L[i]?=some (.blk b (.cells (l.flatMap cl).toArray e (0,0))))(hs:l.length<=maxLen):
  Sl w (.slice (some ⟨b,0,none⟩) l.length l.length) sz l.length (l.flatMap cl):=by
 have h2:=h.dQ (n:=l.length) (sz:=sz) hi (by rw[ur,fh hsz]) hs
 exact h2
def aDC(v:Value)(sz i j:Nat):Value:=
 match v with
 | .slice (some a) _ c=> .slice (some ⟨a.block,a.off+i*sz,none⟩) (j-i) (c-i)
 |v=>v
theorem Sl.part{v:Value}{sz n:Nat}{cells:List Value}(h:Sl w v sz n cells){i j:Nat}(hij:i<j)(hj:j<=n):Sl w (aDC v sz i j) sz (j-i) ((cells.drop (i*sz)).take ((j-i)*sz)):=by
 obtain⟨a,cap,hv,hnc,ha⟩:=h.shape
 have ha':=ha J
 subst ha'
 rw[hv]at ha⊢
 have V8:sb v=sb (.slice (some ⟨sb v,so v,none⟩) n cap):=rfl
 refine⟨⟨_,cap-i,rfl,J,fun _=>rfl⟩,?_,fun k c hc=> ?_,by have:=h.small;omega⟩
 .have h1:i*sz+(j-i)*sz<=n*sz:=by
   rw[<-kO];exact qV _ J
  rw[eo,xJ,h.len];omega
 rw[uo]at hc
 split at hc
 .rw[A7]at hc
  have:=h.cell _ _ hc
  show w.cell? ⟨sb v,so v+i*sz+k,none⟩=some c
  rw[s0];exact this
 .cases hc
end runs
theorem Hp.aDD{w0 w:World}{Z L:List a8}(h:Hp w0 w (Z++L)):Hp w0 w (L++Z):=h.perm sW
theorem TV{s:Sh}{a b:El}(hs:s.aY.length<=8)(h:qL a b):mv s a=mv s b:=by
 rw[mv,mv,Es,Es]
 congr 1
 refine Gs fun x hx=> ?_
 have:=cM.1 hx
 rw[h x.toNat J]
def aDE:List Tx:=[⟨#[97]⟩,⟨#[98]⟩,⟨#[99]⟩]
def aDF:List Tx:=[⟨#[120]⟩,⟨#[121]⟩]
def aN8:Sh:=⟨true,[⟨1,aDE,Rl.none⟩,⟨2,aDF,Rl.none⟩]⟩
theorem aDG{P:Program}{n:Nat}{k:K}{xs:List (Nat×K)}{r:K}{σ:Env}{w:World}{x y:Code}(ws:List Nat)(R:K)(h:CW P n x (fun s w=>Fr ws σ s/\R s w) xs r σ w)(h':∀s w,Fr ws σ s->R s w->CW P n y k xs r s w):CW P n (.seq x y) k xs r σ w:=by grind[aeO]
section runs
variable{P:Program}{σ:Env}{w:World}{dst:Option Tmp}{ty t u e:TypeId}{pos:String}{bJ:Array Edge}{g:Option (Nat×Bool)}{x y:Operand}{b:Nat}{fr:Nat×Nat}
theorem iI{d:TypeDesc}{o:Nat}{cs:Array Value}{sub:List Value}(hu:P.underlying t=some d)(hd:d.isRow=true)(hi:(P.info? t).map (·.size)=some sub.length)(hx:ev σ x= .pointer (some ⟨b,o,none⟩))
  (hg:w.heap[b]?=some (.cells cs e fr)) (hc:(cs.toList.drop o).take sub.length=sub):(execOp (ev σ) ⟨dst,.load t x,ty,pos,bJ,g⟩).run P w= .ok (.value (.agg sub.toArray)) w:=by
 refine cN hu hd hi hx fun j c hj=> ?_
 rw[xa w _ _ _ _ _ hg]
 have hl:=(mh.1 hj).1
 rw[<-hc,uo,aQ hl,A7]at hj
 simpa using hj
theorem O0{o:Nat}{c:Array Value}{sub c':List Value}(hi:(P.info? t).map (·.size)=some sub.length)(hx:ev σ x= .pointer (some ⟨b,o,none⟩))(hy:ev σ y= .agg sub.toArray)(h1:∀u∈sub,u.oneCell'=true)
  (hg:w.heap[b]?=some (.cells c e (0,0))) (ho:o+sub.length<=c.size) (hc:c.toList.take o++sub++c.toList.drop (o+sub.length)=c'):
  (execOp (ev σ) ⟨dst,.store t x y,ty,pos,bJ,g⟩).run P w= .ok .skip (w.setRow b c'.toArray):=by
 have hs:=yN (P:=P) (off:=o) hg sub ho h1
 have hz:(sizeOf t).run P w= .ok sub.length w:=by
  cases hq:P.info? t with
  |none=>simp[hq]at hi
  |some i=>simp[hq]at hi;simp[sizeOf,typeInfo,hq,hi]
 rw[hc]at hs
 simp[execOp,hx,hy,Instr.storeAt,Instr.sureAddr,storeVar,Value.cells,hz,hs]
variable{α:Type}{cl:α->List Value}{sz:Nat}
theorem nh{len:Nat}{ps:List (Nat×Operand)}{l:List α}{ie:TypeInfo}{z:Value}(ni:∀a,(cl a).length=sz)
  (hu:P.underlying t=some (.slice e)) (hie:P.info? e=some ie) (hz:ie.zero=some z) (hsz:ie.size=sz) (hl:l.length=len) (hsmall:¬len*sz>2^24) (hpos:¬len*sz=0)
  (h:ps.map (fun p=>(p.1,ev σ p.2))=((l.map fun f=>Value.agg (cl f).toArray).zipIdx.map fun p=>(p.2,p.1))):
  (execOp (ev σ) ⟨dst,.buildSlice t len ps.toArray,ty,pos,bJ,g⟩).run P w= .ok (.value (.slice (some ⟨w.heap.size,0,none⟩) len len)) (w.alloc (.cells (l.flatMap cl).toArray e)):=by
 have h2:=ct (P:=P) (σ:=σ) (w:=w) (dst:=dst) (ty:=ty) (pos:=pos) (bJ:=bJ) (g:=g) (vs:=l.map fun f=>Value.agg (cl f).toArray) (sz:=sz) hu hie hz hsz (by rw[gj];exact hl) hsmall hpos h (by
  rw[iC];intro v hv
  rw[fU]at hv
  obtain⟨r,_,rfl⟩:=hv
  simp[Value.cells,ni])
 have h3:(l.map fun f=>Value.agg (cl f).toArray).flatMap (·.cells.toList)=l.flatMap cl:=by
  rw[WS]
  show(l.flatMap fun f=>(cl f).toArray.toList)=_
  simp
 rw[h3]at h2;exact h2
theorem bZ{w1:World}{v:Value}{n1 n2:Nat}{cells:List Value}{d:TypeDesc}{o:Nat}(_hS:Sl w1 v n1 n2 cells)(hu:P.underlying t=some d)(hd:d.isRow=false)(hx:ev σ x= .pointer (some ⟨b,o,none⟩))(hc:w.cell? ⟨b,o,none⟩=some v):
 (execOp (ev σ) ⟨dst,.load t x,ty,pos,bJ,g⟩).run P w= .ok (.value v) w:=au hu hd hx hc
theorem aga{a cs:List Value}{o:Nat}(h:(a.drop o).take cs.length=cs):∀(j:Nat) (c:Value),cs[j]?=some c->a[o+j]?=some c:=by grind
end runs
structure aDH(P:Program)(d:Nat)(xs ys:Array Value)(f:Field)(b:Bool):Prop where
 nm:f.name≠ "_"
 run:∃u v,(∀w,(part f.type xs f.offset).run P w= .ok u w)/\(∀w,(part f.type ys f.offset).run P w= .ok v w)/\∀w,(Op.equalIn d f.type u v).run P w= .ok b w
inductive TW(P:Program)(d:Nat)(xs ys:Array Value):List Field->List Bool->Prop
 |nil:TW P d xs ys [] []
 |cons {f:Field} {fs:List Field} {b:Bool} {bs:List Bool} (h:aDH P d xs ys f b) (hs:TW P d xs ys fs bs):TW P d xs ys (f::fs) (b::bs)
theorem TW.eq{P:Program}{d:Nat}{xs ys:Array Value}{fs:List Field}{bs:List Bool}(h:TW P d xs ys fs bs)(w:World):(Op.eqFields d xs ys fs).run P w= .ok (bs.all id) w:=by
 induction h with
 |nil=>rfl
 |cons h _ ih=>
  obtain⟨u,v,h1,h2,h3⟩:=h.run
  rename_i b bs _
  simp only[Op.eqFields,h.nm,ne_eq,WK,s5,o9,h1,h2,h3,wT]
  cases b with
  |true=>simpa using ih
  |false=>simp
structure EqT(P:Program)(t:TypeId)(xs ys:Array Value)(c:Bool):Prop where
 eg:P.eqGuardType P.depth t=false
 eq:∀w,(Op.equalIn 10000 t (.agg xs) (.agg ys)).run P w= .ok c w
theorem EqT.conv{P:Program}{t:TypeId}{xs ys:Array Value}{c c':Bool}(h:EqT P t xs ys c)(e:c=c'):EqT P t xs ys c':=e▸h
section
variable{P:Program}{d:Nat}{xs ys:Array Value}{f:Field}
end
section
variable{P:Program}{σ:Env}{w:World}{dst:Option Tmp}{ty t u:TypeId}{pos:String}{bJ:Array Edge}{g:Option (Nat×Bool)}{x y:Operand}{xs ys:Array Value}{c:Bool}
end
theorem Et{P:Program}{n:Nat}{k:K}{xs:List (Nat×K)}{r:K}{σ:Env}{w0 w:World}{x y:Code}{L:List a8}{G:Type}(_hH:Hp w0 w L)(ws:List Nat)(up:List a8->G->List a8)(Q:G->Env->Prop)
 (h:CW P n x (fun s w'=>Fr ws σ s/\∃g,Hp w0 w' (up L g)/\Q g s) xs r σ w) (h':∀g s w',Fr ws σ s->Hp w0 w' (up L g)->Q g s->CW P n y k xs r s w'):CW P n (.seq x y) k xs r σ w:=by grind[aeO]
theorem Le.JI{K:Vu}{Z Y:List a8}:Le (Kz K Z) (Kz K (Y++Z)):=by grind[Le.zz]
def aN9(q:Value->World->Prop)(e:Ending)(w:World):Prop:=iA q e w
section calls
variable{P:Program}{n:Nat}{ops:Array Oper}{k:K}{rest:List Oper}{σ:Env}{w0 w:World}{L:List a8}{op:Op}{ty:TypeId}{pos:String}{bJ:Array Edge}{d:Nat}{q:Value->World->Prop}
theorem bV{f:FuncId}{args:Array Value}(hd:Nat.blt d n=true)(hc:Calls P f args w (iA q))
  (hr:(execOp (ev σ) ⟨some d,op,ty,pos,bJ,none⟩).run P w= .ok (.enter f args) w)
  (hk:∀v w',q v w'->RL P n ops k rest (k7 σ d v) w'):RL P n ops k (⟨some d,op,ty,pos,bJ,none⟩::rest) σ w:=
 GU hd hr hc hk
variable{l:List Oper}{i fuel:Nat}{listed:Array Bool}{g:Option (Nat×Bool)}{L':List a8}
theorem th{f:FuncId}{args:Array Value}(hi:l[i]?=some ⟨some d,op,ty,pos,bJ,g⟩)(hg:∀a,Is n σ a->Region.wanted ⟨some d,op,ty,pos,bJ,g⟩ (yielded l.toArray a.tmps)=true)(hd:Nat.blt d n=true)
 (hc:Calls P f args w (iA q)) (hr:(execOp (ev σ) ⟨some d,op,ty,pos,bJ,g⟩).run P w= .ok (.enter f args) w)
 (hs:∀v w',q v w'->Hp w0 w' L)
 (h:∀v w',q v w'->AN P n l (fun w=>Hp w0 w L) k fuel (listed.setIfInBounds i true) (k7 σ d v) w'):AO P n l (fun w=>Hp w0 w L) k fuel listed σ w i:=by grind[Q2]
end calls
section
variable{P:Program}{fn:Func}{w0 w:World}{L:List a8}{i j p p2 t:Nat}{q:Value->World->Prop}{d d2:TypeDesc}{c c2:Array Value}{ty ty2 e e2:TypeId}{b b2:Nat}{fr TY:Nat×Nat}{σ:Env}{v:Value}
theorem O1(h:fn.results=#[.cell p ty,.tmp t])(hp:σ p= .pointer (some ⟨b,0,none⟩))(ht:σ t=v)(hH:Hp w0 w L)
  (hi:L[i]?=some (.blk b (.cells c e fr))) (hu:P.underlying ty=some d) (hd:d.isRow=true) (hz:(P.info? ty).map (·.size)=some c.size) (hq:q (.tuple #[.agg c,v]) w):Out P fn q σ w:=
 fun n a ha=>⟨_,by
  have h1:a.tmps[p]?.getD undef= .pointer (some ⟨b,0,none⟩):=by have:=ha.get p;rw[hp]at this;simpa using this
  have h2:a.tmps[t]?.getD undef=v:=by have:=ha.get t;rw[ht]at this;simpa using this
  simp[results,h,h1,h2,asAddr,run_loadVar_row (P:=P) w b e ty c fr d (hH.blk hi) hu (by cases d<;>simp_all) hz],hq⟩
end
end
end Go.Proofs.YtlhjdflgjbkpmaaGreatDoor.E
namespace Go.Proofs.YtlhjdflgjbkpmaaGreatDoor.M
section
open Go
structure vI where
 name:Tx
 kind:Int
 aT:Int
deriving DecidableEq
structure Wd where
 text:Tx
 place:Int
structure Flt where
 cls:Int
 place:Int
deriving DecidableEq
def awf:Flt:=⟨0,0⟩
def wd0:Wd:=⟨pu,0⟩
def gD:vI:=⟨pu,0,0⟩
def awg(b f:Flt):Flt:=if f.cls≠0/\(b.cls=0\/f.cls<b.cls\/(f.cls=b.cls/\f.place<b.place))then f else b
def aCf(l:List Flt)(k:Int):Flt:=(l.take k.toNat).foldl awg awf
def aDJ(l:List Wd):List Tx:=l.map Wd.text
end
end Go.Proofs.YtlhjdflgjbkpmaaGreatDoor.M
namespace Go.Proofs.YtlhjdflgjbkpmaaGreatDoor.E
section
open Go Go.RowKit Go.Proofs.YtlhjdflgjbkpmaaGreatDoor.M
structure C2 where
 name:Tx
 Aa:kX
def nj:C2:=⟨pu,C1⟩
def LI(l:C2):List Value:=[S l.name,B l.Aa.tuple,l.Aa.fv]
theorem sC(l:C2):(LI l).length=3:=rfl
def Tc(v:vI):List Value:=[S v.name,I v.kind,I v.aT]
theorem xU(v:vI):(Tc v).length=3:=rfl
def wdL(x:Wd):List Value:=[S x.text,I x.place]
def aOa(f:Flt):List Value:=[I f.cls,I f.place]
structure lM where
 lv:Value
 an:List C2
 vv:Value
 vars:List vI
abbrev TZ(s:lM):Array Value:=#[s.lv,s.vv]
structure Eu(K:Vu)(s:lM):Prop where
 an:pw K s.lv 3 s.an.length (s.an.flatMap LI)
 vars:pw K s.vv 3 s.vars.length (s.vars.flatMap Tc)
 each:∀l∈s.an,lB K l.Aa
theorem Eu.mono{K K':Vu}{s:lM}(h:Eu K s)(hl:Le K K'):Eu K' s:=⟨h.an.mono hl,h.vars.mono hl,fun l hm=>(h.each l hm).mono hl⟩
theorem Eu.at{K:Vu}{s:lM}(h:Eu K s){k:Int}(h0:0<=k)(h1:k<s.an.length):lB K (s.an.getD k.toNat nj).Aa:=h.each _ (ld (fB (d:=nj) h0 h1))
theorem T0{K:Vu}{l:C2}(h:lB K l.Aa):∀u∈(LI l).toArray,u.oneCell'=true:=by
 intro u hu
 have h1:=nZ h.aY
 simp[LI]at hu
 rcases hu with rfl|rfl|rfl
 .rfl
 .rfl
 exact h1.1
section
variable{P:Program}{σ:Env}{w:World}{dst:Option Tmp}{ty t e:TypeId}{pos:String}{bJ:Array Edge}{g:Option (Nat×Bool)}{x:Operand}{b:Nat}{fr:Nat×Nat}
end
theorem Fq{α:Type}{l:List α}{d:α}{P:α->Bool}{k:Int}(h0:0<=k)(h1:k<l.length)(h:P (l.getD k.toNat d)=true):l.any P=true:=by grind
theorem Rh{α:Type}{l:List α}{d:α}{P:α->Bool}{k:Int}(hk:¬k<l.length)(h:∀j:Int,0<=j->j<k->P (l.getD j.toNat d)=false):l.any P=false:=by grind[List.any_eq_false,List.getElem_of_mem,Int.toNat_natCast,List.getElem?_eq_getElem]
def T1(l:C2):Bool:=TU l.Aa.sh||decide (40<l.name.size)
def ark(v:vI):Bool:=decide (40<v.name.size)
def uN(s:lM):Bool:=decide (20<s.an.length\/80<s.vars.length)||s.an.any T1||s.vars.any ark
def Z6(s:lM)(t:Tx):Int:=sv (fun i=>decide ((s.an.getD i.toNat nj).name=t)) s.an.length
def aCg(s:lM)(t:Tx):Int:=sv (fun i=>decide ((s.vars.getD i.toNat gD).name=t)) s.vars.length
def aKy(s:lM)(l:List Wd):List kX:=l.filterMap fun x=>if 0<=Z6 s x.text then some (s.an.getD (Z6 s x.text).toNat nj).Aa else none
inductive eV where
 |mk (kind place:Int) (text:Tx) (nv:Value) (names:List Wd) (kv:Value) (kids:List eV)
def eV.kind:eV->Int
 | .mk k _ _ _ _ _ _=>k
def eV.place:eV->Int
 | .mk _ p _ _ _ _ _=>p
def eV.text:eV->Tx
 | .mk _ _ t _ _ _ _=>t
def eV.nv:eV->Value
 | .mk _ _ _ v _ _ _=>v
def eV.names:eV->List Wd
 | .mk _ _ _ _ l _ _=>l
def eV.kv:eV->Value
 | .mk _ _ _ _ _ v _=>v
def eV.kids:eV->List eV
 | .mk _ _ _ _ _ _ k=>k
def agb(n:eV):List Value:=[I n.kind,I n.place,S n.text,n.nv,n.kv]
inductive qt(K:Vu):eV->Prop
 |mk {kind place:Int} {text:Tx} {nv:Value} {names:List Wd} {kv:Value} {kids:List eV} (hn:pw K nv 2 names.length (names.flatMap wdL)) (hk:pw K kv 5 kids.length (kids.flatMap agb)) (each:∀x∈kids,qt K x):qt K (.mk kind place text nv names kv kids)
abbrev Pw:=Wd×Wd
def pwL(p:Pw):List Value:=[S p.1.text,I p.1.place,S p.2.text,I p.2.place]
structure alM where
 op:Int
 place:Int
 name:Wd
 nv:Value
 names:List Wd
 pv:Value
 pairs:List Pw
 pat:Int
 left:eV
 right:eV
def aOc(c:alM):List Value:=[I c.op,I c.place,S c.name.text,I c.name.place,c.nv,c.pv,I c.pat]++agb c.left++agb c.right
structure arl(K:Vu)(c:alM):Prop where
 names:pw K c.nv 2 c.names.length (c.names.flatMap wdL)
 pairs:pw K c.pv 4 c.pairs.length (c.pairs.flatMap pwL)
 left:qt K c.left
 right:qt K c.right
theorem JM(l:C2):∀(j:Nat) (c:Value),(Aw l.Aa)[j]?=some c->(LI l)[1+j]?=some c:=by grind[C2,Aw,LI]
def pw0:Pw:=(wd0,wd0)
def C3(s:lM):List Value:=[s.lv,s.vv]
def aOd:lM:=⟨.slice none 0 0,[],.slice none 0 0,[]⟩
theorem Ri{K:Vu}{v:Value}{sz n:Nat}{c:List Value}(h:pw K v sz n c):v.oneCell'=true/\v.cells=#[v]:=nZ h
def LJ:eV:= .mk 0 0 pu (.slice none 0 0) [] (.slice none 0 0) []
theorem qt.each{K:Vu}{n:eV}(h:qt K n):∀x∈n.kids,qt K x:=by cases h;assumption
theorem qt.at{K:Vu}{n:eV}(h:qt K n){k:Int}(h0:0<=k)(h1:k<n.kids.length):qt K (n.kids.getD k.toNat LJ):=h.each _ (ld (fB (d:=LJ) h0 h1))
theorem qt.mono{K K':Vu}(hl:Le K K'){n:eV}(h:qt K n):qt K' n:=by
 induction h with
 |mk hn hk _ ih=>exact .mk (hn.mono hl) (hk.mono hl) ih
def aOe:alM:=⟨0,0,wd0,.slice none 0 0,[],.slice none 0 0,[],0,LJ,LJ⟩
theorem arl.mono{K K':Vu}{c:alM}(h:arl K c)(hl:Le K K'):arl K' c:=⟨h.names.mono hl,h.pairs.mono hl,qt.mono hl h.left,qt.mono hl h.right⟩
structure xl(K:Vu)(l:List eV):Prop where
 each:∀x∈l,qt K x
theorem xl.mono{K K':Vu}{l:List eV}(h:xl K l)(hl:Le K K'):xl K' l:=⟨fun x hx=>qt.mono hl (h.each x hx)⟩
theorem xl.at{K:Vu}{l:List eV}(h:xl K l){k:Int}(h0:0<=k)(h1:k<l.length):qt K (l.getD k.toNat LJ):=h.each _ (ld (fB (d:=LJ) h0 h1))
def agc(l:List Wd):Bool:=l.all fun x=>iw x.text
abbrev byL(s:Tx):List Value:=Go.Lib.strCells s
theorem pK(a b:Tx):(a++b).size=a.size+b.size:=ByteArray.size_append
def tc(c:UInt8):Tx:=⟨#[c]⟩
section
variable{P:Program}{w0 w:World}{L:List a8}
variable{n:Nat}{ops:Array Oper}{k:K}{rest l:List Oper}{σ:Env}{op:Op}{ty:TypeId}{pos:String}{bJ:Array Edge}{d:Nat}{x y:Operand}{dst:Option Tmp}{g:Option (Nat×Bool)}
variable{fuel i:Nat}{listed:Array Bool}{L':List a8}
end
inductive Nd where
 |mk (kind place:Int) (text:Tx) (names:List Wd) (kids:List Nd)
def Nd.kind:Nd->Int
 | .mk k _ _ _ _=>k
def Nd.place:Nd->Int
 | .mk _ p _ _ _=>p
def Nd.text:Nd->Tx
 | .mk _ _ t _ _=>t
def Nd.names:Nd->List Wd
 | .mk _ _ _ n _=>n
def Nd.kids:Nd->List Nd
 | .mk _ _ _ _ k=>k
def nd0:Nd:= .mk 0 0 pu [] []
theorem agd{C:Nd->Prop}(h:∀n,(∀x∈n.kids,C x)->C n)(n:Nd):C n:=h n fun x hx=>agd h x
termination_by SizeOf.sizeOf n
decreasing_by
 cases n
 simp only[Nd.kids]at hx
 have:=Ka hx
 simp only[Nd.mk.sizeOf_spec]
 omega
def eV.nd:eV->Nd
 | .mk k p t _ n _ ks=> .mk k p t n (ks.attach.map fun x=>x.1.nd)
termination_by n=>SizeOf.sizeOf n
decreasing_by
 have:=Ka x.2
 simp only[eV.mk.sizeOf_spec]
 omega
def aov(k:Nd):Bool:=decide (k.kind=6)&&iw k.text&&agc k.names&&decide (k.kids.length=0)
def XU:Nd->Bool
 | .mk kind _ text names kids=>
  if kind=2 then iw text&&decide (names.length=0/\kids.length=0)
  else if kind=3 then decide (text=pu)&&agc names&&decide (kids.length=0)
  else if kind=4 then decide (text=pu)&&decide (names.length=0)&&decide (0<kids.length)&&kids.attach.all fun x=>XU x.1
  else if kind=5 then decide (text=pu)&&decide (names.length=0)&&kids.all aov
  else false
termination_by n=>SizeOf.sizeOf n
decreasing_by
 have:=Ka x.2
 simp only[Nd.mk.sizeOf_spec]
 omega
def ww:List Tx->Tx
 |[]=>pu
 |x::l=>l.foldl (fun a y=>a++tc 44++y) x
def LK(l:List Wd):Tx:=ww (l.map Wd.text)
def tN:Nd->Tx
 | .mk kind _ text names kids=>
  if kind=1\/kind=2 then text
  else if kind=3 then tc 123++LK names++tc 125
  else if kind=4 then tc 40++ww (kids.attach.map fun x=>tN x.1)++tc 41
  else if kind=5 then tc 91++ww (kids.attach.map fun x=>tN x.1)++tc 93
  else if kind=6 then text++⟨#[58,123]⟩++LK names++tc 125
  else pu
termination_by n=>SizeOf.sizeOf n
decreasing_by
 all_goals
  have:=Ka x.2
  simp only[Nd.mk.sizeOf_spec]
  omega
theorem alN(n:Nd):tN n=if n.kind=1\/n.kind=2 then n.text
  else if n.kind=3 then tc 123++LK n.names++tc 125
  else if n.kind=4 then tc 40++ww (n.kids.map tN)++tc 41
  else if n.kind=5 then tc 91++ww (n.kids.map tN)++tc 93
  else if n.kind=6 then n.text++⟨#[58,123]⟩++LK n.names++tc 125
  else pu:=by
 cases n with
 |mk k p t names kids=>
 have h:(kids.attach.map fun x=>tN x.1)=kids.map tN:=az
 rw[tN,h];rfl
section
variable{n:eV}
end
theorem LL{α:Type}{l:List α}{d:α}{P:α->Bool}{k:Int}(h0:0<=k)(h1:k<l.length)(h:P (l.getD k.toNat d)=false):l.all P=false:=by grind
theorem Fs{α:Type}{l:List α}{d:α}{P:α->Bool}{k:Int}(hk:¬k<l.length)(h:∀j:Int,0<=j->j<k->P (l.getD j.toNat d)=true):l.all P=true:=by grind[List.all_eq_true,List.getElem_of_mem,Int.toNat_natCast,List.getElem?_eq_getElem]
abbrev Ex(α:Type):=Except Int α
def awh(l:List Tx):List Wd->BitVec 64->Ex (BitVec 64)
 |[],s=> .ok s
 |x::w,s=>if qq l x.text<0 then .error x.place else awh l w (uE s (qq l x.text))
def Z7(l:List Tx)(w:List Wd):Ex (BitVec 64):=awh l w 0#64
def Ev(f:Fc):List Nd->BitVec 64->Ex (BitVec 64)
 |[],w=> .ok w
 |k::ks,w=>if qq f.names k.text<0 then .error k.place else
  match Z7 f.names k.names with
  | .error a=> .error a
  | .ok s=>Ev f ks (w|||av6 f.rel (qq f.names k.text) s)
def awi(f:Fc):Int:=if f.kind=2 then 3 else if f.kind=3 then 5 else 2
def XV(f:Fc)(n:Nd):Ex (BitVec 64):=
 if qq f.names n.text<0 then .error n.place
 else if f.kind=4 then .ok (bS f.rel (qq f.names n.text))
 else .ok (uD f.names.length (qq f.names n.text)).1
def awj(f:Fc)(n:Nd):Ex (BitVec 64):=
 if n.kind≠awi f then .error n.place
 else if f.kind=2 then Z7 f.names n.names
 else if f.kind=3 then Ev f n.kids 0#64
 else XV f n
def LM:List (Fc×Nd)->Nat->El->Ex El
 |[],_,e=> .ok e
 |(f,n)::r,i,e=>match awj f n with
  | .error a=> .error a
  | .ok w=>LM r (i+1) (Av e i w)
def age(s:Sh)(n:Nd):List Nd:=if s.tuple then n.kids else[n]
def aDK(s:Sh)(n:Nd):Bool:=qY s&&XU n&&(!s.tuple||decide (n.kind=4/\n.kids.length=s.aY.length))
def aKA(s:Sh)(n:Nd):Ex El:=if aDK s n then LM (s.aY.zip (age s n)) 0 dy else .error n.place
def aOf:Ex El->El×Flt
 | .ok e=>(e,awf)
 | .error a=>(dy,⟨4,a⟩)
abbrev RS:=Bool×Int
def aow(s:RS)(a:Int):RS:=if s.1 then s else(true,a)
def okR(x:Ex (BitVec 64))(s:RS)(y:BitVec 64)(s':RS):Prop:=match x with
 | .ok z=>y=z/\s'=s
 | .error a=>s'=aow s a
theorem Fg{f:Fc}{n:Nd}(h:qq f.names n.text<0):XV f n= .error n.place:=by rw[XV,aQ h]
def aOg(f:Fc)(ks:List Nd)(k:Int)(m:BitVec 64)(s s1:RS):Prop:=
 (s1=s/\Ev f ks 0#64=Ev f (ks.drop k.toNat) m)\/∃a,Ev f ks 0#64= .error a/\s1=aow s a
structure arm where
 word:BitVec 64
 bad:Bool
 at_:Int
def aOh(g:arm):List Value:=[U g.word,B g.bad,I g.at_]
def aOi:arm:=⟨0#64,false,0⟩
def aOj:Ex (BitVec 64)->arm
 | .ok x=>⟨x,false,0⟩
 | .error a=>⟨0#64,true,a⟩
section agf
variable{f:pU}{n:eV}{k:Int}{m:BitVec 64}(h0:0<=k)(h1:k<n.kids.length)(hm:Ev f.fc n.nd.kids 0#64=Ev f.fc (n.nd.kids.drop k.toNat) m)
include h0 h1 hm
end agf
section alO
variable{f:pU}{n:eV}
end alO
def aOk(l:List (Fc×Nd))(k:Int)(e:El)(s:RS):Prop:=
 (s=(false,0)/\LM l 0 dy=LM (l.drop k.toNat) k.toNat e)\/∃a,LM l 0 dy= .error a/\s=(true,a)
def Z9(l:List Tx)(w:BitVec 64):List Wd:=(gf w).map fun i=>⟨l.getD i.toNat pu,0⟩
def agh(f:Fc)(w:BitVec 64)(o:Int):Nd:= .mk 6 0 (f.names.getD o.toNat pu) (Z9 f.names (afI f.rel w o)) []
def XW(f:Fc)(w:BitVec 64):Nd:=
 if f.kind=2 then .mk 3 0 pu (Z9 f.names w) []
 else if f.kind=3 then .mk 5 0 pu [] ((gf (Ra f.rel w)).map (agh f w))
 else if f.kind=4 then .mk 2 0 (f.names.getD (eL f.rel w).1.toNat pu) [] []
 else .mk 2 0 (f.names.getD (level f.names.length w).1.toNat pu) [] []
def agi(s:Sh)(e:El)(k:Int):List Nd:=(upto k).map fun i=>XW (s.aY.getD i.toNat vE) (e i.toNat)
def awk(s:Sh)(e:El):Nd:=
 if cz s e then(if s.tuple then .mk 4 0 pu [] (agi s e s.aY.length)else XW (s.aY.getD 0 vE) (e 0))else nd0
def agj(s:Sh)(e:El):Tx:=tc 35++tN (awk s e)
abbrev By:=List UInt8
def bl(t:Tx):By:=t.data.toList
def goU(b:UInt8):Bool:=tK (b.toNat:Int)
def Ds(x:By):Prop:=∀b r,x=b::r->goU b=false
theorem Ds.nil:Ds []:=fun b r h=>by cases h
theorem Ds.cons{d:UInt8}(h:goU d=false)(x:By):Ds (d::x):=fun b r e=>by cases e;exact h
def aDM(l:List By):By:=l.flatMap fun y=>44::y
def aOl:List By->By
 |[]=>[]
 |x::l=>x++aDM l
section
variable{Q:By->Prop}(hQ:∀u v,Q u->Q v->∀x y,Ds x->Ds y->u++x=v++y->u=v/\x=y){d:UInt8}(hd:goU d=false)(h44:d≠44)
include hQ hd h44
end
def wd_(t:Tx):Wd:=⟨t,0⟩
def Rn(n:Nd):Prop:=∃(t:Tx) (ws:List Tx),n= .mk 6 0 t (ws.map wd_) []/\iw t=true/\∀u∈ws,iw u=true
def wtx(a:El):List Fc->Nat->List By
 |[],_=>[]
 |f::r,i=>bl (tN (XW f (a i)))::wtx a r (i+1)
inductive LN:eV->Prop
 |mk {kind place:Int} {text:Tx} {nv:Value} {names:List Wd} {kv:Value} {kids:List eV} (hl:names.length<=5864062014634) (each:∀x∈kids,LN x):LN (.mk kind place text nv names kv kids)
theorem LN.len{n:eV}(h:LN n):n.names.length<=5864062014634:=by cases h;assumption
theorem LN.each{n:eV}(h:LN n):∀x∈n.kids,LN x:=by cases h;assumption
def aDN(s:kX)(n:eV):List eV:=if s.tuple then n.kids else[n]
def aKB(s:kX)(n:eV):Bool:= !s.tuple||decide (n.kind=4/\n.kids.length=s.aY.length)
def aOo(s:kX)(n:eV):List (Fc×Nd):=s.sh.aY.zip (age s.sh n.nd)
section
variable{s:kX}{n:eV}
end
section ref
variable{l:List (Fc×Nd)}{k:Int}{e:El}{f:Fc}{m:Nd}(h0:0<=k)(h1:k<l.length)(hm:LM l 0 dy=LM (l.drop k.toNat) k.toNat e)(hw:l.getD k.toNat (vE,nd0)=(f,m))
include h0 h1 hm hw
end ref
def aOp(q:Int)(x:eV):Bool:=if q=1 then XU x.nd else aov x.nd
section
variable{n:eV}
end
theorem xl.nil(K:Vu):xl K []:=⟨fun x hx=>by simp at hx⟩
theorem xl.snoc{K:Vu}{l:List eV}{n:eV}(h:xl K l)(hn:qt K n):xl K (l++[n]):=⟨fun x hx=>by
 rcases eP.1 hx with hx|hx
 .exact h.each x hx
 rw[fZ.1 hx];exact hn⟩
def wdN(l:List Tx)(i:Int):Wd:=⟨l.getD i.toNat pu,0⟩
def aCi(l:List Tx)(w:BitVec 64)(k:Int):List Wd:=((upto k).filter (hasB w)).map (wdN l)
theorem wm(k:Int):(upto k).Pairwise (· <·):=by
 rw[upto,Gt]
 exact Ws.imp fun h=>by omega
def aOr:Value:= .slice none 0 0
def aKC(k:Int)(t:Tx)(nv:Value)(names:List Wd):eV:= .mk k 0 t nv names (.slice none 0 0) []
def aKD(k:Int)(kv:Value)(kids:List eV):eV:= .mk k 0 pu (.slice none 0 0) [] kv kids
def aCj(f:Fc)(w:BitVec 64)(k:Int):List Nd:=((gf (Ra f.rel w)).take k.toNat).map (agh f w)
def aCk(f:Fc)(w:BitVec 64)(k:Int):List Nd:=((upto k).filter (hasB (Ra f.rel w))).map (agh f w)
def kr:Nd->Nat
 | .mk kind _ text names kids=>(if 0<=kind/\kind<=6 then 4 else 10000000000)+text.size+(names.map fun x=>x.text.size+1).sum+(kids.attach.map fun x=>kr x.1+1).sum
termination_by n=>SizeOf.sizeOf n
decreasing_by
 have:=Ka x.2
 simp only[Nd.mk.sizeOf_spec]
 omega
theorem aox(n:Nd):kr n=(if 0<=n.kind/\n.kind<=6 then 4 else 10000000000)+n.text.size+(n.names.map fun x=>x.text.size+1).sum+(n.kids.map fun x=>kr x+1).sum:=by
 cases n with
 |mk k p t names kids=>
 have h:(kids.attach.map fun x=>kr x.1+1)=kids.map fun x=>kr x+1:=az
 rw[kr,h];rfl
theorem T2{α:Type}{F G:α->Nat}:∀(l:List α),(∀x∈l,F x<=G x)->(l.map F).sum<=(l.map G).sum
 |[],_=>by simp
 |y::l,h=>by
  have h1:=h y (tG ..)
  have h2:=T2 l fun x hx=>h x (fw _ hx)
  simp only[lf,D4];omega
structure TxN(n:Nd):Prop where
 sz:kr n<=1000000000
theorem TxN.kind{n:Nd}(h:TxN n):0<=n.kind/\n.kind<=6:=by grind[Nd,TxN,aox]
theorem LO:∀(l:List Tx) (a:Tx),(l.foldl (fun a y=>a++tc 44++y) a).size=a.size+(l.map fun x=>x.size+1).sum
 |[],a=>by simp
 |y::l,a=>by
  rw[r5,LO l,pK,pK,lf,D4,show(tc 44).size=1 from O];omega
theorem O2(l:List Tx):(ww l).size<=(l.map fun x=>x.size+1).sum:=by
 cases l with
 |nil=>exact eG _
 |cons x l=>
  show(l.foldl (fun a y=>a++tc 44++y) x).size<=_
  rw[LO]
  simp only[lf,D4];omega
theorem alP(n:Nd):(tN n).size<=kr n:=agd (C:=fun n=>(tN n).size<=kr n) (fun n ih=>by
 rw[aox,alN]
 have h1:(LK n.names).size<=(n.names.map fun x=>x.text.size+1).sum:=by
  have:=O2 (n.names.map Wd.text)
  rw[QG]at this;exact this
 have h2:(ww (n.kids.map tN)).size<=(n.kids.map fun x=>kr x+1).sum:=by
  have h3:=O2 (n.kids.map tN)
  rw[QG]at h3
  exact jP h3 (T2 n.kids fun x hx=>by have:=ih x hx;simp only[Function.comp];omega)
 have h4:∀c:UInt8,(tc c).size=1:=fun _=>rfl
 have h5:((⟨#[58,123]⟩:Tx)).size=2:=rfl
 have h6:pu.size=0:=rfl
 have h7:4<=(if 0<=n.kind/\n.kind<=6 then 4 else 10000000000):=by split<;>omega
 split
 .omega
 split
 .simp only[pK,h4];omega
 split
 .simp only[pK,h4];omega
 split
 .simp only[pK,h4];omega
 split
 .simp only[pK,h4,h5];omega
 omega) n
theorem TxN.text{n:Nd}(h:TxN n):(tN n).size<=1000000000:=jP (alP n) h.sz
theorem Rg{α:Type}{F:α->Nat}{m:Nat}:∀(l:List α),(∀x∈l,F x<=m)->(l.map F).sum<=m*l.length
 |[],_=>by simp
 |y::l,h=>by
  have h1:=h y (tG ..)
  have h2:=Rg l fun x hx=>h x (fw _ hx)
  simp only[lf,D4,eO]
  rw[Nat.mul_add];omega
def awn(T:Int->Tx)(k:Int):Tx:=ww ((upto k).map T)
def aOs(l:List eV)(i:Int):Tx:=tN (l.getD i.toNat LJ).nd
def wdT(l:List Wd)(i:Int):Tx:=(l.getD i.toNat wd0).text
instance:DecidableEq Wd:=fun a b=>if h:a.text=b.text/\a.place=b.place then .isTrue (by cases a;cases b;cases h.1;cases h.2;rfl)else .isFalse (fun e=>h (by rw[e];exact⟨rfl,rfl⟩))
def aDO:List Tx:=[⟨#[112]⟩,⟨#[113]⟩]
def exG:Sh:=⟨false,[⟨3,aDO,aDw⟩]⟩
def exR:Nd:= .mk 6 0 ⟨#[112]⟩ [⟨⟨#[113]⟩,0⟩] []
def aOu:Nd:= .mk 5 0 pu [] [exR]
def aOv(x:Ex El):Bool:=match x with
 | .ok e=>decide (qL e (Av dy 0 1#64))
 | .error _=>false
theorem agk{α:Type}{cl:α->List Value}{sz:Nat}(hsz:∀a,(cl a).length=sz)(hpos:0<sz)(z0:α)(n:Nat):madeCells (cl z0).toArray (n*sz)=((List.replicate n z0).flatMap cl).toArray:=by
 refine QJ (sY fun j=> ?_)
 have hl:((List.replicate n z0).flatMap cl).length=n*sz:=by rw[fh hsz,Ql]
 by_cases hj:j<n*sz
 .have h1:j/sz<n:=Nat.div_lt_of_lt_mul (by rw[Nat.mul_comm];exact hj)
  have h2:j%sz<(cl z0).length:=by rw[hsz];exact Nat.mod_lt _ hpos
  have h3:=flat_get hsz (List.replicate n z0) (j/sz) z0 (by rw[Wq,aQ h1]) (j%sz) (cl z0)[j%sz] (ef h2)
  rw[show j/sz*sz+j%sz=j by rw[Nat.mul_comm];exact WU j sz]at h3
  show(madeCells (cl z0).toArray (n*sz)).toList[j]?=((List.replicate n z0).flatMap cl)[j]?
  rw[h3,madeCells,Array.toList_map,p5,Array.toList_range,yA hj]
  simp only[p7,ur,hsz]
  congr 1
  rw[getElem!_def]
  simp only[Gp,ef h2]
 rw[mX (by rw[show(madeCells (cl z0).toArray (n*sz)).toList.length=n*sz by simp[madeCells]];omega),mX (by rw[show((List.replicate n z0).flatMap cl).toArray.toList.length=n*sz from hl];omega)]
section
variable{P:Program}{σ:Env}{w:World}{dst:Option Tmp}{ty t e:TypeId}{pos:String}{bJ:Array Edge}{g:Option (Nat×Bool)}{x y:Operand}{α:Type}{cl:α->List Value}{sz:Nat}
theorem O3{ie:TypeInfo}{z:Value}{z0:α}{n:Nat}(hsz:∀a,(cl a).length=sz)(hpos:0<sz)(hu:P.underlying t=some (.slice e))(hie:P.info? e=some ie)(hz:ie.zero=some z)(hzc:z.cells=(cl z0).toArray)(hs:ie.size=sz)
  (hx:ev σ x= .int .i64 n) (hy:ev σ y= .int .i64 n) (hb:ie.bytes*n<=281474976710656) (hn:n<=maxLen):
  (execOp (ev σ) ⟨dst,.makeSlice t x y,ty,pos,bJ,g⟩).run P w= .ok (.value (.slice (some ⟨w.heap.size,0,none⟩) n n)) (w.alloc (.cells ((List.replicate n z0).flatMap cl).toArray e)):=by
 have hb':(ie.bytes:Int)*n<=281474976710656:=by
  have h:((ie.bytes*n:Nat):Int)<=281474976710656:=J
  rwa[Int.natCast_mul]at h
 have hr:=run_make (P:=P) w t e ie z hu hie hz .i64 .i64 n n J (lm _) hb' (by unfold maxLen at hn;omega)
 rw[hzc,hs,dN,agk hsz hpos]at hr
 simp[execOp,hx,hy,hr]
end
theorem BG(b o n:Nat):(⟨b,o,none⟩:Addr).add n=⟨b,o+n,none⟩:=by unfold Addr.add;split<;>simp_all
theorem Hp.JO{w0 w:World}{L:List a8}{i:Nat}{v:Value}{e:TypeId}{sz n:Nat}{xs:List Value}(h:Hp w0 w L)(hi:L[i]?=some (.row v e sz n xs))(hn:0<n):
  ∃gb cap,v= .slice (some ⟨gb,0,none⟩) n cap/\n<=cap/\∃cur:Array Value,w.heap[gb]?=some (.cells cur e (0,0))/\cur.size=cap*sz/\cur.toList.take (n*sz)=xs/\
   ∀IX:Array Value,IX.size=cur.size->Hp w0 (w.setRow gb IX) (L.set i (.row v e sz n (IX.toList.take (n*sz)))):=by
 obtain⟨hl,h2⟩:=h.get hi
 rcases h2 with⟨rfl,rfl⟩|⟨gb,cap,cur,rfl,hb,hg,hnc,hm,hs,ht⟩
 .exact absurd hn (Nat.lt_irrefl 0)
 refine⟨gb,cap,rfl,hnc,cur,hg,hs,ht,fun IX hc'=> ?_⟩
 have hil:=(mh.1 hi).1
 have h1:Hp w0 w (L.set i (.blk gb (.cells cur e (0,0)))):=⟨h.below,fun y hy=>by
   obtain⟨j,hj,Eg⟩:=yz.1 hy
   rw[yC]at Eg
   split at Eg
   .subst Eg;exact⟨hb,hg⟩
   exact h.ok y (Eg▸p6 _),Bs hi O h.KU⟩
 have hi1:(L.set i (.blk gb (.cells cur e (0,0))))[i]?=some (.blk gb (.cells cur e (0,0))):=by rw[List.getElem?_set_self hil]
 have h3:=h1.set (c':=IX) hi1
 rw[List.set_set]at h3
 have hi3:(L.set i (.blk gb (.cells IX e (0,0))))[i]?=some (.blk gb (.cells IX e (0,0))):=by rw[List.getElem?_set_self hil]
 have h4:Hp w0 (w.setRow gb IX) ((L.set i (.blk gb (.cells IX e (0,0)))).set i (.row (.slice (some ⟨gb,0,none⟩) n cap) e sz n (IX.toList.take (n*sz)))):=⟨h3.below,fun y hy=>by
   obtain⟨j,hj,Eg⟩:=yz.1 hy
   rw[yC]at Eg
   split at Eg
   .subst Eg
    have hb3:=h3.get hi3
    refine⟨?_,.inr ⟨gb,cap,IX,rfl,hb3.1,hb3.2,hnc,hm,by rw[hc',hs],rfl⟩⟩
    rw[eo,qW]
    have:IX.toList.length=cap*sz:=by rw[DU,hc',hs]
    rw[this];exact qV _ hnc
   exact h3.ok y (Eg▸p6 _),Bs hi3 O h3.KU⟩
 rw[List.set_set]at h4;exact h4
def rE(xs:List Value)(o:Nat)(new:List Value):List Value:=xs.take o++new++xs.drop (o+new.length)
theorem Ft{cur new:List Value}{o m:Nat}(h:o+new.length<=m)(hm:m<=cur.length):(cur.take o++new++cur.drop (o+new.length)).take m=rE (cur.take m) o new:=by
 rw[rE,List.take_append,List.take_append,iP (l:=new) (by simp only[eo];omega),Ba,Ba,WR J,qW J]
 congr 1
 simp only[cV,eo]
 rw[List.drop_take,show min o cur.length+new.length=o+new.length by omega]
section
variable{P:Program}{n:Nat}{ops:Array Oper}{k:K}{rest l:List Oper}{σ:Env}{w0 w:World}{L:List a8}{op:Op}{ty t e et:TypeId}{pos:String}{bJ:Array Edge}{d:Nat}{x y:Operand}{g:Option (Nat×Bool)}{v:Value}{sz m i:Nat}{xs:List Value}{dst:Option Tmp}
theorem arn{o:Nat}{new:List Value}(hH:Hp w0 w L)(hi:L[i]?=some (.row v e sz m xs))(hm:0<m)(hx:ev σ x= .pointer (some ⟨sb v,so v+o,none⟩))(hy:ev σ y= .agg new.toArray)(h1:∀u∈new,u.oneCell'=true)(hs:(P.info? t).map (·.size)=some new.length)(ho:o+new.length<=m*sz):
  ∃w',(execOp (ev σ) ⟨dst,.store t x y,ty,pos,bJ,g⟩).run P w= .ok .skip w'/\Hp w0 w' (L.set i (.row v e sz m (rE xs o new))):=by
 obtain⟨gb,cap,rfl,hnc,cur,hg,hc,ht,hk⟩:=hH.JO hi hm
 have hcm:m*sz<=cap*sz:=qV _ hnc
 have hx':ev σ x= .pointer (some ⟨gb,o,none⟩):=by rw[hx];simp only[sb,so,fg]
 have hr:=O0 (P:=P) (dst:=dst) (ty:=ty) (pos:=pos) (bJ:=bJ) (g:=g) (c':=cur.toList.take o++new++cur.toList.drop (o+new.length)) hs hx' hy h1 hg J O
 have hl:(cur.toList.take o++new++cur.toList.drop (o+new.length)).length=cur.size:=by
  simp only[cV,eo,xJ,DU];omega
 have h2:=hk (cur.toList.take o++new++cur.toList.drop (o+new.length)).toArray (by rw[ur,hl])
 rw[show(cur.toList.take o++new++cur.toList.drop (o+new.length)).toArray.toList=cur.toList.take o++new++cur.toList.drop (o+new.length)from O,Ft ho QY,ht]at h2
 exact⟨_,hr,h2⟩
variable{fuel j:Nat}{listed:Array Bool}{L':List a8}
theorem T3{sT:TypeId}{u:Value}{c dLen dCap o m':Nat}{cells:List Value}(hH:Hp w0 w L)(hi:L[i]?=some (.row v e sz m xs))(hm:0<m)(hu:P.underlying t=some (.slice et))(hs:(P.info? et).map (·.size)=some sz)
  (hx:ev σ x= .slice (some ⟨sb v,so v+o*sz,none⟩) dLen dCap) (hy:ev σ y=u) (hS:Sl w u sz m' cells) (hc:Nat.min m' dLen=c) (ho:o+c<=m) (h1:∀q∈cells,q.oneCell'=true):
  ∃w',(execOp (ev σ) ⟨dst,.call {callee:= .builtin .copy,args:=#[x,y],argTypes:=#[t,sT]},ty,pos,bJ,g⟩).run P w= .ok (.value (goInt c)) w'/\Hp w0 w' (L.set i (.row v e sz m (rE xs (o*sz) (cells.take (c*sz))))):=by
 obtain⟨gb,cap,rfl,hnc,cur,hg,hcs,ht,hk⟩:=hH.JO hi hm
 obtain⟨ua,T4,rfl,huc,hua⟩:=hS.shape
 have ni:=hS.len
 have hcm:m*sz<=cap*sz:=qV _ hnc
 have XX:c<=m':=by rw[<-hc];exact Nat.min_le_left _ _
 have hlt:(cells.take (c*sz)).length=c*sz:=by rw[eo,ni,qW (qV _ XX)]
 have hoc:o*sz+c*sz<=m*sz:=by rw[<-kO];exact qV _ ho
 have hx':ev σ x= .slice (some ⟨gb,o*sz,none⟩) dLen dCap:=by rw[hx];simp only[sb,so,fg]
 have hst:=WI P gb (o*sz) e (cells.take (c*sz)) 0 cur w hg (by rw[hlt];omega) (fun q hq=>h1 q (uu hq))
 have awo:(Builtin.firstCells sz c (.slice ua m' T4)).run P w= .ok (cells.take (c*sz)).toArray w:=by
  by_cases hz:c*sz=0
  .rw[hz,wS]
   cases ua with
   |none=>simp[Builtin.firstCells,hz]
   |some a=>have:=run_loadCells_list (P:=P) w a [] (fun j v hv=>by simp at hv);simpa[Builtin.firstCells,hz]using this
  have hm0:0<m':=by
   rcases Qq m' with h|h
   .rw[show c=0 by omega]at hz;simp at hz
   exact h
  have hl:=run_loadCells_list (P:=P) w ⟨sb (.slice ua m' T4),so (.slice ua m' T4),none⟩ (cells.take (c*sz)) (fun j q hq=>by
   rw[BG]
   rw[uo]at hq
   split at hq
   .exact hS.cell j q hq
   .cases hq)
  rw[hlt]at hl
  rw[hua hm0]
  simpa[Builtin.firstCells]using hl
 refine⟨w.setRow gb (cur.toList.take (o*sz)++cells.take (c*sz)++cur.toList.drop (o*sz+(cells.take (c*sz)).length)).toArray,?_,?_⟩
 rotate_left
 .have h2:=hk (cur.toList.take (o*sz)++cells.take (c*sz)++cur.toList.drop (o*sz+(cells.take (c*sz)).length)).toArray (by
   simp only[ur,cV,eo,xJ,DU];rw[ni]
   have:min (c*sz) (m'*sz)=c*sz:=qW (qV _ XX)
   omega)
  rw[show(cur.toList.take (o*sz)++cells.take (c*sz)++cur.toList.drop (o*sz+(cells.take (c*sz)).length)).toArray.toList=cur.toList.take (o*sz)++cells.take (c*sz)++cur.toList.drop (o*sz+(cells.take (c*sz)).length)from O,Ft (by rw[hlt];omega) QY,ht]at h2
  exact h2
 have hq:∃ii,P.info? et=some ii/\ii.size=sz:=by
  cases hq:P.info? et with
  |none=>simp[hq]at hs
  |some ii=>exact⟨ii,rfl,by simpa[hq]using hs⟩
 obtain⟨ii,hii,his⟩:=hq
 rw[Ks]at hst
 have hcp:(Builtin.copy_ #[t,sT] ty #[.slice (some ⟨gb,o*sz,none⟩) dLen dCap,.slice ua m' T4]).run P w= .ok (goInt c) (w.setRow gb (cur.toList.take (o*sz)++cells.take (c*sz)++cur.toList.drop (o*sz+(cells.take (c*sz)).length)).toArray):=by
  have hc2:min m' dLen=c:=hc
  simp[Builtin.copy_,jr hu,Builtin.lenOf,sizeOf,typeInfo,hii,his,hc,hc2,awo]
  have awp:=hst
  simp at awp
  rw[awp];rfl
 simp[execOp,resolve,invoke,builtin,hx',hy,hcp]
theorem BH{j fuel:Nat}{listed:Array Bool}{L':List a8}{Q:World->Prop}{vv:Value}(hj:l[j]?=some ⟨some d,op,ty,pos,bJ,g⟩)(hg:∀a,Is n σ a->Region.wanted ⟨some d,op,ty,pos,bJ,g⟩ (yielded l.toArray a.tmps)=true)(hd:Nat.blt d n=true)(h:∃w',(execOp (ev σ) ⟨some d,op,ty,pos,bJ,g⟩).run P w= .ok (.value vv) w'/\Q w')(hQ:∀w',Q w'->Hp w0 w' L')
 (hk:∀w',Q w'->AN P n l (fun w=>Hp w0 w L') k fuel (listed.setIfInBounds j true) (k7 σ d vv) w'):AO P n l (fun w=>Hp w0 w L') k fuel listed σ w j:=by grind[Bu]
def om(v:Value)(sz i:Nat):Value:=
 match v with
 | .slice a n cap=> .slice (if cap=i then a else a.map (·.add (i*sz))) (n-i) (cap-i)
 |v=>v
theorem agm(hH:Hp w0 w L)(hi:L[i]?=some (.row v e sz m xs))(hm:0<m):∃gb cap,v= .slice (some ⟨gb,0,none⟩) m cap/\m<=cap:=by
 obtain⟨gb,cap,h,h2,-⟩:=hH.JO hi hm;exact⟨gb,cap,h,h2⟩
theorem agn(xs:List Value)(o:Nat):rE xs o []=xs:=by simp[rE]
theorem pL{sT:TypeId}{u:Value}{c o m':Nat}{cells:List Value}(hH:Hp w0 w L)(hi:L[i]?=some (.row v e sz m xs))(hm:0<m)(hu:P.underlying t=some (.slice et))(hs:(P.info? et).map (·.size)=some sz)
  (hx:ev σ x=om v sz o) (hy:ev σ y=u) (hS:Sl w u sz m' cells) (hc:Nat.min m' (m-o)=c) (ho:o<=m) (h1:∀q∈cells,q.oneCell'=true):
  ∃w',(execOp (ev σ) ⟨dst,.call {callee:= .builtin .copy,args:=#[x,y],argTypes:=#[t,sT]},ty,pos,bJ,g⟩).run P w= .ok (.value (goInt c)) w'/\Hp w0 w' (L.set i (.row v e sz m (rE xs (o*sz) (cells.take (c*sz))))):=by
 obtain⟨gb,cap,rfl,hcap⟩:=agm hH hi hm
 have hcm:c<=m-o:=by have h:=Nat.min_le_right m' (m-o);rwa[show min m' (m-o)=c from hc]at h
 by_cases hco:cap=o
 .have h0:c=0:=J
  subst h0
  have hx':ev σ x= .slice (some ⟨sb (.slice (some ⟨gb,0,none⟩) m cap),so (.slice (some ⟨gb,0,none⟩) m cap)+0*sz,none⟩) (m-o) (cap-o):=by rw[hx];simp[om,hco,sb,so]
  obtain⟨w',hr,h2⟩:=T3 (sT:=sT) (dst:=dst) (ty:=ty) (pos:=pos) (bJ:=bJ) (g:=g) (o:=0) hH hi hm hu hs hx' hy hS hc J h1
  refine⟨w',hr,?_⟩
  simp only[QF,wS,agn]at h2⊢
  exact h2
 refine T3 (dLen:=m-o) (dCap:=cap-o) hH hi hm hu hs ?_ hy hS hc J h1
 rw[hx]
 simp only[om,aP hco,p7,BG,sb,so]
theorem aDR{Q:World->Prop}{vv:Value}(hd:Nat.blt d n=true)(h:∃w',(execOp (ev σ) ⟨some d,op,ty,pos,bJ,none⟩).run P w= .ok (.value vv) w'/\Q w')
 (hk:∀w',Q w'->RL P n ops k rest (k7 σ d vv) w'):RL P n ops k (⟨some d,op,ty,pos,bJ,none⟩::rest) σ w:=by grind[ox]
theorem Sl.fr{cells:List Value}(h:Sl w v sz m cells)(o:Nat)(ho:o<=m):Sl w (om v sz o) sz (m-o) (cells.drop (o*sz)):=by
 obtain⟨a,cap,rfl,hcap,ha⟩:=h.shape
 have hl:=h.len
 refine⟨?_,by rw[xJ,hl,Nat.sub_mul],fun j c hj=> ?_,by have:=h.small;omega⟩
 .by_cases h0:0<m-o
  .have h1:=ha J
   have hco:¬cap=o:=J
   refine⟨_,cap-o,rfl,J,fun _=> ?_⟩
   rw[h1];simp only[om,aP hco,p7,BG,sb,so]
  exact⟨_,cap-o,rfl,J,fun h=>absurd h h0⟩
 have h0:0<m-o:=by
  rcases Qq (m-o)with h0|h0
  .rw[List.drop_eq_nil_of_le (by rw[hl];exact qV _ J)]at hj;cases hj
  exact h0
 rw[A7]at hj
 have h1:=ha J
 have h2:=h.cell _ _ hj
 have hco:¬cap=o:=J
 have e1:sb (om (.slice a m cap) sz o)=sb (.slice a m cap):=by rw[h1];simp only[om,aP hco,p7,BG,sb,so]
 have e2:so (om (.slice a m cap) sz o)=so (.slice a m cap)+o*sz:=by rw[h1];simp only[om,aP hco,p7,BG,sb,so]
 rw[e1,e2,s0];exact h2
theorem fW{lo:Operand}{q:Int}{cells:List Value}(hS:Sl w v sz m cells)(hu:P.underlying t=some (.slice et))(hs:∀w,(sizeOf et).run P w= .ok sz w)(hx:ev σ x=v)(hlo:ev σ lo=I q)(h:0<=q/\q<=m):
  (execOp (ev σ) ⟨dst,.slice t x (some lo) none none,ty,pos,bJ,g⟩).run P w= .ok (.value (om v sz q.toNat)) w:=by
 obtain⟨a,cap,rfl,hcap,ha⟩:=hS.shape
 have h1:0<=q/\q<=(m:Int):=h
 have h2:(Instr.slice t (.slice a m cap) (some (I q)) none none).run P w= .ok (om (.slice a m cap) sz q.toNat) w:=by
  simp[Instr.slice,Instr.sliceBounds,Instr.sliceBound,jr hu,asIntOf,h1,hs,om]
 have h3:(Instr.sliceAt t (.slice a m cap) (some (I q)) none none).run P w= .ok (om (.slice a m cap) sz q.toNat) w:=by
  simp[Instr.sliceAt,jr hu,h2]
 simp[execOp,hx,hlo,h3]
end
def T5(a b:Tx):Bool:=Op.bytesLess a.toList b.toList
section
variable{P:Program}{σ:Env}{w:World}{dst:Option Tmp}{ty t u:TypeId}{pos:String}{bJ:Array Edge}{g:Option (Nat×Bool)}{x y:Operand}{a b:Tx}
end
structure ju where
 name:Tx
 el:El
def Rj:ju:=⟨pu,dy⟩
def ago(v:ju):List Value:=S v.name::sU v.el
def O4(l:List ju)(f:Tx):Int:=sv (fun i=>decide ((l.getD i.toNat Rj).name=f)) l.length
def acg(l:List ju)(f:Tx):El×Bool:=if O4 l f<0 then(dy,false)else((l.getD (O4 l f).toNat Rj).el,true)
def spot(l:List ju)(f:Tx):Nat:=if 0<=sv (fun i=>T5 f (l.getD i.toNat Rj).name) l.length then(sv (fun i=>T5 f (l.getD i.toNat Rj).name) l.length).toNat else l.length
def aoz(l:List ju)(f:Tx)(e:El):List ju:=if O4 l f<0 then l.take (spot l f)++⟨f,e⟩::l.drop (spot l f)else l.set (O4 l f).toNat ⟨f,e⟩
def awq(a b:ju):Bool:=decide (a.name=b.name)&&decide (qL a.el b.el)
def aoA(l m:List ju):Bool:=decide (l.length=m.length)&&(upto l.length).all fun i=>awq (l.getD i.toNat Rj) (m.getD i.toNat Rj)
structure As where
 labels:List El
 rows:List (List ju)
def aDS(a:As)(i:Nat):El:=a.labels.getD i dy
def aOA(a:As)(i:Nat):List ju:=a.rows.getD i []
def aKF(a b:As):Bool:=decide (a.labels.length=b.labels.length/\a.rows.length=b.rows.length)&&((upto a.labels.length).all fun i=>decide (qL (a.labels.getD i.toNat dy) (b.labels.getD i.toNat dy)))&&(upto a.rows.length).all fun i=>aoA (a.rows.getD i.toNat []) (b.rows.getD i.toNat [])
def arp(l m:List ju):Bool:=l.all fun v=>(acg m v.name).2&&cR v.el (acg m v.name).1
def aOB(a b:As):Bool:=((upto a.labels.length).all fun i=>cR (a.labels.getD i.toNat dy) (b.labels.getD i.toNat dy))&&(upto a.rows.length).all fun i=>arp (a.rows.getD i.toNat []) (b.rows.getD i.toNat [])
def O5(l m:List ju):List ju:=l.filterMap fun v=>if(acg m v.name).2 then some ⟨v.name,qZ v.el (acg m v.name).1⟩else none
def awr(a b:As):As:=⟨(a.labels.zip b.labels).map fun p=>qZ p.1 p.2,(a.rows.zip b.rows).map fun p=>O5 p.1 p.2⟩
theorem agp{α β γ:Type}{F:α×β->γ}{l:List α}{m:List β}{k:Int}{da:α}{db:β}(h0:0<=k)(h1:k<l.length)(h2:k<m.length):
  ((l.zip m).take (k+1).toNat).map F=((l.zip m).take k.toNat).map F++[F (l.getD k.toNat da,m.getD k.toNat db)]:=by
 have h3:(l.zip m)[k.toNat]?=some (l.getD k.toNat da,m.getD k.toNat db):=by
  rw[List.getElem?_zip_eq_some];exact⟨fB (d:=da) h0 h1,fB (d:=db) h0 h2⟩
 rw[show(k+1).toNat=k.toNat+1 by omega,yB,h3,gA];rfl
theorem aab{α β γ:Type}{F:α×β->γ}{l:List α}{m:List β}{k:Int}(h:¬(k<l.length/\k<m.length)):((l.zip m).take k.toNat).map F=(l.zip m).map F:=by
 rw[iP];rw[List.length_zip];omega
section
variable{l m:List ju}{k:Int}
end
section
variable{a b:As}{k:Int}
end
def agq(l:List ju):Bool:=(upto l.length).all fun i=>iw (l.getD i.toNat Rj).name&&(decide (i<=0)||T5 (l.getD (i-1).toNat Rj).name (l.getD i.toNat Rj).name)
def aws(s:Sh)(l:List ju):Bool:=l.all fun v=>cz s v.el
structure Sc where
 an:List Sh
 vars:List vI
def okV(s:Sc)(v:vI)(e:El)(l:List ju):Bool:=decide (0<=v.aT/\v.aT<s.an.length)&&
 (if v.kind=1 then decide (l.length=0)&&cz (s.an.getD v.aT.toNat ⟨false,[]⟩) e
  else if v.kind=2 then decide (qL e dy)&&agq l&&aws (s.an.getD v.aT.toNat ⟨false,[]⟩) l else false)
def Rk(s:Sc)(a:As):Bool:=decide (a.labels.length=s.vars.length/\a.rows.length=s.vars.length)&&(upto s.vars.length).all fun i=>okV s (s.vars.getD i.toNat gD) (a.labels.getD i.toNat dy) (a.rows.getD i.toNat [])
def ach(s:Sc)(v:vI):El:=if v.kind=1/\0<=v.aT/\v.aT<s.an.length then gZ (s.an.getD v.aT.toNat ⟨false,[]⟩) eU else dy
def arq(s:Sc):As:=⟨s.vars.map (ach s),s.vars.map fun _=>[]⟩
def aDT(l:List ju):Prop:=l.Pairwise fun a b=>T5 a.name b.name=true
theorem jJ(e:El):cR e e=true:=o6.2 fun i _=>sy _
theorem LP{a b c:El}(h:cR a b=true)(h':cR b c=true):cR a c=true:=by grind[o6,lD]
def awt(s:Sc)(v:vI):Sh:=s.an.getD v.aT.toNat ⟨false,[]⟩
section
variable{s:Sc}{a b c:As}(ha:Rk s a=true)(hb:Rk s b=true)
include ha hb
end
def wv(b:Tx):List Tx->Tx
 |[]=>pu
 |x::l=>l.foldl (fun a y=>a++b++y) x
def ars(s:Sh)(v:ju):Tx:=v.name++tc 61++agj s v.el
def aDU(s:Sh)(l:List ju):Tx:=tc 91++wv (tc 44) (l.map (ars s))++tc 93
def awu(s:Sc)(v:vI)(e:El)(l:List ju):Tx:=v.name++tc 61++(if v.kind=1 then agj (awt s v) e else aDU (awt s v) l)
def aoB(s:Sc)(a:As)(k:Int):List Tx:=(upto k).map fun i=>awu s (s.vars.getD i.toNat gD) (a.labels.getD i.toNat dy) (a.rows.getD i.toNat [])
def aKH(s:Sc)(a:As):Tx:=if Rk s a then wv (tc 32) (aoB s a s.vars.length)else pu
def aOC(l:List By):By:=l.flatMap fun y=>32::y
def PT(s:Sc)(p:vI×El×List ju):By:=bl (awu s p.1 p.2.1 p.2.2)
def aOD(s:Sc)(a:As):List (vI×El×List ju):=(upto s.vars.length).map fun i=>(s.vars.getD i.toNat gD,a.labels.getD i.toNat dy,a.rows.getD i.toNat [])
theorem wx(e:El):∀u∈sU e,u.oneCell'=true:=fun u hu=>ZY e u (by rw[hG];simpa using hu)
theorem aac(l:List El):∀u∈l.flatMap sU,u.oneCell'=true:=by grind[wx]
structure Wb where
 v:Value
 l:List ju
def vr0:Wb:=⟨.slice none 0 0,[]⟩
abbrev awv(l:List Wb):List Value:=l.map Wb.v
structure uO(K:Vu)(l:List Wb):Prop where
 each:∀r∈l,pw K r.v 9 r.l.length (r.l.flatMap ago)
theorem uO.mono{K K':Vu}{l:List Wb}(h:uO K l)(hl:Le K K'):uO K' l:=⟨fun r hr=>(h.each r hr).mono hl⟩
theorem uO.at{K:Vu}{l:List Wb}(h:uO K l){k:Int}(h0:0<=k)(h1:k<l.length):pw K (l.getD k.toNat vr0).v 9 (l.getD k.toNat vr0).l.length ((l.getD k.toNat vr0).l.flatMap ago):=h.each _ (ld (fB (d:=vr0) h0 h1))
theorem uO.nil(K:Vu):uO K []:=⟨fun r hr=>by simp at hr⟩
theorem uO.snoc{K:Vu}{l:List Wb}{r:Wb}(h:uO K l)(hr:pw K r.v 9 r.l.length (r.l.flatMap ago)):uO K (l++[r]):=⟨fun x hx=>by
 rcases eP.1 hx with hx|hx
 .exact h.each x hx
 rw[fZ.1 hx];exact hr⟩
structure NS where
 lv:Value
 labels:List El
 rv:Value
 rows:List Wb
def aOE(a:NS):List Value:=[a.lv,a.rv]
def art:NS:=⟨.slice none 0 0,[],.slice none 0 0,[]⟩
def NS.Im(a:NS):As:=⟨a.labels,a.rows.map Wb.l⟩
structure T6(K:Vu)(a:NS):Prop where
 labels:pw K a.lv 8 a.labels.length (a.labels.flatMap sU)
 rows:pw K a.rv 1 a.rows.length (awv a.rows)
 each:uO K a.rows
theorem T6.mono{K K':Vu}{a:NS}(h:T6 K a)(hl:Le K K'):T6 K' a:=⟨h.labels.mono hl,h.rows.mono hl,h.each.mono hl⟩
theorem T6.at{K:Vu}{a:NS}(h:T6 K a){k:Int}(h0:0<=k)(h1:k<a.rows.length):pw K (a.rows.getD k.toNat vr0).v 9 (a.rows.getD k.toNat vr0).l.length ((a.rows.getD k.toNat vr0).l.flatMap ago):=h.each.at h0 h1
structure alQ where
 a:NS
 b:NS
 c:NS
def aOF(x:alQ):List Value:=[x.a.lv,x.a.rv,x.b.lv,x.b.rv,x.c.lv,x.c.rv]
def aOG:alQ:=⟨art,art,art⟩
structure agr(K:Vu)(x:alQ):Prop where
 a:T6 K x.a
 b:T6 K x.b
 c:T6 K x.c
theorem agr.mono{K K':Vu}{x:alQ}(h:agr K x)(hl:Le K K'):agr K' x:=⟨h.a.mono hl,h.b.mono hl,h.c.mono hl⟩
theorem It(a:NS):a.Im.rows.length=a.rows.length:=gj ..
def lM.sc(s:lM):Sc:=⟨s.an.map fun l=>l.Aa.sh,s.vars⟩
section
variable{P:Program}{σ:Env}{w:World}{dst:Option Tmp}{ty t u e:TypeId}{pos:String}{bJ:Array Edge}{g:Option (Nat×Bool)}{x y:Operand}{b:Nat}{fr:Nat×Nat}
end
end
end Go.Proofs.YtlhjdflgjbkpmaaGreatDoor.E

/- Part 1 of the proof of FlowBound: its plain laws and the walks of its functions. -/
import Derived.WalkKit
import Derived.ProofKit
import Derived.Deep.Quiet
import Derived.Laws.AppendOwn
import Derived.Laws.CopyRow
import Derived.Laws.Tables
import Derived.Deep.MidRow
import Derived.Great.BuildSlice
import Derived.OrdersHeld
import Derived.Laws.CopyOwn
import Derived.WalkLawsBesides
import Derived.Laws.StructEq
import Derived.Laws.Rows
import Derived.Laws.Strings
import Derived.Laws.Concat
import Derived.Lib.AppendStr
import Derived.Laws.BytesArg
import Derived.Laws.MakeOwn
import Derived.MapKept
import Derived.Laws.IdiomRangeMap
import Derived.Scope
import Derived.ArgAppend
import Derived.OpenShut
import Derived.ChangeSlices
import Derived.WideShapes
import Derived.Carry
import Derived.Deep.Strs
import Derived.Test.YtlhjdflgjbkpmaaGreatDoorProg
import Derived.Tactics
import Derived.Tactics2
import Derived.Defers
import Derived.Laws.Pointers
import Derived.Laws.LoneSync
import Derived.RegionTactic
import Derived.RegionCalls
import Derived.ChangeAlike
import Derived.Ground.NamesProg
import Derived.Shelf.Slices.In.SortNone
import Derived.Sort.EveryDepth
import Derived.Sort.OwnSortedInts
import Derived.Test.YtlhjdflgjbkpmaaGreatDoorCards
import Derived.Test.YtlhjdflgjbkpmaaGreatDoorTie
import Derived.Deep.DeepHandedRow
import Derived.Lib.LaidTab
set_option linter.all false
namespace Go.Proofs.YtlhjdflgjbkpmaaGreatDoor
section
open Go Go.RowKit Go.Proofs.Tryz
def bG:=@List.mem_append_right
def aJ:=@congrArg
def bf:=@underlying3
def bz:=@underlying99
def bL:=@underlying86
def aR:=@if_neg
def aS:=@if_pos
def eS:=@List.getD_eq_getElem?_getD
def a8:=@sizeOf3
def dG:=@List.append_assoc
def cZ:=@List.length_append
def cG:=@Bool.and_eq_true
def dy:=@List.mem_append_left
def ep:=@List.getElem?_eq_getElem
def cw:=@underlying111
def cH:=@underlying37
def cQ:=@List.mem_cons
def dY:=@List.mem_singleton
def c8:=@underlying100
def fC:=@List.mem_cons_of_mem
def ef:=@Int.toNat_natCast
def eo:=@decide_eq_true_eq
def cV:=@underlying88
def gB:=@List.length_map
def eP:=@List.length_take
def eR:=@List.length_cons
def dc:=@underlying31
def fW:=@Int.toNat_of_nonneg
def gN:=@List.length_singleton
def eC:=@List.nil_append
def dA:=@underlying54
def eI:=@List.mem_append
def dL:=@underlying56
def iV:=@List.take_of_length_le
def gf:=@List.cons_append
def dO:=@underlying83
def dR:=@underlying46
def gz:=@List.map_append
def dZ:=@underlying35
def gO:=@decide_eq_false
def iM:=@List.set_cons_zero
def eD:=@underlying90
def fD:=@underlying222
def m7:=@List.setIfInBounds_toArray
def gP:=@Bool.eq_iff_iff
def er:=@Nat.le_refl
def m8:=@List.getElem?_eq_some_iff
def iN:=@List.all_eq_true
def dg:=@sizeOf35
def gQ:=@decide_eq_true
def fX:=@List.mem_map
def dB:=@sizeOf99
def lz:=@List.mem_of_getElem?
def gR:=@underlying103
def kL:=@List.set_cons_succ
def hG:=@underlying109
def gI:=@underlying34
def ia:=@Nat.zero_add
def lA:=@List.pairwise_cons
def ny:=@List.getElem?_eq_none
def ig:=@underlying25
def iE:=@underlying44
def iW:=@underlying128
def ic:=@underlying9
def kr:=@run_underlying
def lY:=@List.append_nil
def wo:=@Array.getD_eq_getD_getElem?
def wu:=@List.perm_append_comm_assoc
def m9:=@List.length_set
def nM:=@List.getElem_mem
def wv:=@decide_eq_false_iff_not
def ry:=@Nat.mul_le_mul_right
def ku:=@underlying22
def lB:=@List.map_cons
def kM:=@Nat.le_trans
def pW:=@List.getElem?_map
def lZ:=@underlying105
def mA:=@underlying220
def DY:=@List.take_succ_eq_append_getElem
def rz:=@Nat.min_eq_left
def uE:=@List.Perm.append_left
def Bz:=@Array.getElem?_setIfInBounds
def jh:=@sizeOf100
def mC:=@underlying40
def mD:=@underlying26
def nN:=@underlying102
def tQ:=@List.mem_cons_self
def tR:=@Bool.false_eq_true
def pX:=@List.mem_range
def nO:=@underlying39
def xR:=@List.perm_append_comm
def o5:=@underlying101
def Aq:=@List.size_toArray
def tS:=@List.flatMap_cons
def xS:=@List.length_drop
def rA:=@List.foldl_cons
def uF:=@List.getElem?_take
def nc:=@Int.le_refl
def oE:=@underlying23
def oF:=@underlying98
def kC:=@underlying28
def yJ:=@List.eq_nil_of_length_eq_zero
def rH:=@List.mem_of_mem_take
def rI:=@List.mem_of_mem_drop
def lC:=@underlying193
def pD:=@List.getElem?_set
def nP:=@List.nodup_cons
def gJ:=@sizeOf54
def l8:=@Bool.true_and
def lD:=@underlying76
def rJ:=@BitVec.getLsbD_and
def mS:=@underlying212
def ij:=@sizeOf86
def iq:=@sizeOf37
def kT:=@Nat.add_mul
def wX:=@List.filter_cons_of_pos
def th:=@List.getElem_of_mem
def pE:=@Bool.or_eq_true
def yK:=@List.getElem?_append_left
def lE:=@Nat.mul_one
def qt:=@Option.map_some
def BA:=@Array.getElem?_eq_some_iff
def yL:=@List.filter_cons_of_neg
def jV:=@sizeOf103
def tj:=@List.ext_getElem?
def mW:=@Nat.zero_le
def qu:=@Bool.false_and
def pF:=@underlying117
def Ew:=@List.flatMap_append
def Ey:=@Array.length_toList
def uG:=@Result.andThen_ok
def jW:=@Eq.trans
def Ez:=@List.getElem?_append_right
def wY:=@List.take_zero
def iX:=@call150
def qv:=@underlying154
def yM:=@List.mem_iff_getElem
def pG:=@underlying63
def pH:=@underlying42
def EA:=@List.drop_eq_getElem_cons
def yN:=@List.getElem?_range
def Ho:=@List.take_succ_cons
def wZ:=@List.foldl_append
def BB:=@List.take_append_drop
def tw:=@DataW.trod_int
def jX:=@sizeOf9
def BC:=@List.pairwise_append
def rK:=@Sem.run_bind
def rL:=@underlying84
def uH:=@List.take_left
def yO:=@List.take_add_one
def xa:=@List.range_succ
def xb:=@List.mem_filter
def Hq:=@List.mem_take_iff_getElem
def EB:=@List.getElem?_toArray
def KU:=@List.drop_append_of_le_length
def yP:=@List.getElem_set
def BD:=@List.getElem?_drop
def KV:=@Bool.false_ne_true
def mX:=@sizeOf46
def oL:=@sizeOf109
def EC:=@List.contains_eq_mem
def xd:=@Nat.mul_le_mul
def lF:=@call149
def BE:=@Bool.not_eq_true'
def nQ:=@sizeOf83
def nR:=@sizeOf90
def pI:=@sizeOf220
def ED:=@List.map_congr_left
def uI:=@underlying58
def xe:=@underlying135
def BF:=@List.filter_cons
def Hr:=@BitVec.eq_of_toNat_eq
def EE:=@List.map_singleton
def KW:=@Bool.and_false
def KX:=@Classical.byContradiction
def KY:=@Decidable.byContradiction
def QW:=@List.eq_nil_iff_forall_not_mem
def Ht:=@Decidable.of_not_not
def pJ:=@sizeOf39
def nS:=@sizeOf4
def yQ:=@Nat.add_assoc
def yR:=@underlying107
def yS:=@underlying156
def QX:=@List.take_append_of_le_length
def EF:=@List.any_eq_true
def BG:=@List.take_take
def EG:=@List.take_length
def EH:=@List.perm_middle
def qw:=@sizeOf22
def BH:=@Int.le_add_one
def xf:=@cell_of_row
def KZ:=@List.drop_of_length_le
def xg:=@underlying4
def yT:=@Code.wp_mono
def Hu:=@List.filter_append
def yU:=@underlying59
def K0:=@List.sizeOf_lt_of_mem
def EI:=@List.count_cons
def BI:=@List.map_take
def BJ:=@List.sum_cons
def rM:=@sizeOf88
def BK:=@underlying119
def Hv:=@List.pairwise_map
def QY:=@List.pairwise_iff_getElem
def W5:=@List.set_eq_take_append_cons_drop
def uJ:=@sizeOf107
def EJ:=@List.drop_left
def BL:=@Int.le_trans
def Hw:=@List.mem_nil_iff
def BM:=@List.map_nil
def tA:=@sizeOf84
def tB:=@sizeOf98
def tC:=@sizeOf26
def K1:=@List.drop_succ_cons
def K2:=@Int.sub_lt_sub_left
def EK:=@underlying233
def Hx:=@List.length_nil
def xh:=@sizeOf102
def K3:=@Int.toNat_lt_toNat
def QZ:=@BitVec.toNat_shiftLeft
def Q0:=@List.length_pos_of_mem
def uK:=@sizeOf40
def K4:=@of_decide_eq_true
def K5:=@DataW.trod_string
def Q1:=@Decidable.not_not
def K6:=@Int.sub_pos_of_lt
def Hy:=@Int.mul_nonneg
def Q2:=@List.length_replicate
def EL:=@underlying72
def tD:=@call159
def W6:=@List.take_length_add_append
def yV:=@false_iff
def yW:=@sizeOf133
def yX:=@sizeOf105
def yY:=@sizeOf101
def xj:=@if_false
def BN:=@beq_iff_eq
def K7:=@List.mem_toArray
def xk:=@sizeOf23
def Hz:=@underlying214
def HA:=@underlying143
def uL:=@if_true
def K8:=@run_equalIn_int
def W7:=@List.sublist_append_right
def K9:=@List.cons.injEq
def Q3:=@BitVec.toNat_ofInt
def Q4:=@Int.natCast_nonneg
def W8:=@BitVec.toNat_ushiftRight
def HB:=@Addr.add_mid
def Q5:=@BitVec.getLsbD_not
def Q6:=@Array.ext_getElem?
def W9:=@List.length_erase_of_mem
def Q7:=@Nat.eq_zero_or_pos
def Xa:=@Array.size_setIfInBounds
def yZ:=@sizeOf56
def y8:=@sizeOf34
def La:=@Int.mul_le_mul
def Lc:=@List.drop_zero
def Xb:=@List.getElem?_replicate
def Q8:=@List.length_range
def Xc:=@Array.getElem?_eq_none
def Xd:=@List.pairwise_lt_range
def Xe:=@List.range_succ_eq_map
def Ld:=@underlying210
def Lf:=@underlying115
def Lg:=@underlying159
def Q9:=@Option.bind_some
def Ra:=@BitVec.toNat_sub
def Rb:=@Nat.shiftLeft_eq
def Rc:=@decide_eq_decide
def BO:=@or_false
def Re:=@Option.getD_some
def BP:=@sizeOf58
def BR:=@sizeOf25
def Xf:=@List.mem_iff_getElem?
def Xg:=@Nat.pow_le_pow_right
def Xh:=@BitVec.getLsbD_ofNat
def Rf:=@run_eqGuard_agg
def Lh:=@Nat.add_zero
def aeX:=@Array.eq_empty_of_size_eq_zero
def Li:=@List.map_map
def Lj:=@underlying65
def Xi:=@BitVec.getLsbD_zero
def Xj:=@Array.getElem?_push
def Rg:=@List.drop_drop
def Rh:=@List.Perm.refl
def BS:=@Iff.rfl
def Lk:=@Int.lt_succ
def Xk:=@BitVec.toNat_ofNat
def Xl:=@Nat.lt_of_lt_of_le
def Xm:=@Nat.lt_or_gt_of_ne
def aeY:=@Nat.testBit_two_pow_sub_one
def aeZ:=@Nat.testBit_two_pow_mul_add
def Xn:=@run_equalIn_struct
def Xo:=@List.append_of_mem
def HC:=@sizeOf143
def HD:=@sizeOf154
def y9:=@call44
def Xp:=@Int.toNat_le_toNat
def ae0:=@Int.tdiv_eq_ediv_of_nonneg
def ae1:=@BitVec.getLsbD_ushiftRight
def Ri:=@underlying162
def Rj:=@run_call_load
def Rk:=@underlying114
def Xq:=@Option.some.injEq
def Xr:=@run_storeCells_at
def Xs:=@BitVec.getLsbD_or
def Xt:=@not_false_eq_true
def Xu:=@Int.lt_trichotomy
def Xv:=@List.any_eq_false
def Xw:=@List.count_append
def ae2:=@Nat.shiftRight_eq_div_pow
def ae3:=@Array.getElem?_eq_getElem
def EM:=@Ne.symm
def EN:=@call128
def ae4:=@Array.getElem?_replicate
def Xx:=@BitVec.toNat_inj
def Xy:=@Nat.min_eq_right
def Rm:=@Nat.sub_self
def Ro:=@Nat.zero_mul
def Xz:=@List.flatMap_map
def XA:=@List.ext_getElem
def ae5:=@List.Pairwise.imp_of_mem
def ae6:=@List.sublist_append_left
def HE:=@sizeOf42
def HF:=@sizeOf44
def XB:=@Nat.div_add_mod
def XC:=@List.all_append
def XD:=@and_congr_right
def XE:=@Int.min_eq_left
def XF:=@List.sum_append
def XG:=@List.headD_cons
def Ll:=@sizeOf233
def Lm:=@sizeOf128
def Rp:=@Nat.one_mul
def Rq:=@wpAnyH_take
def XH:=@List.range_add
def HG:=@call179
def HH:=@call154
def HI:=@call199
def HJ:=@call144
def EO:=@call29
def Rr:=@Array.ext'
def Ln:=@sizeOf63
def XI:=@wp_region_any
def XJ:=@wpAny_of_held
def XK:=@Bool.and_true
def XL:=@List.map_drop
def XM:=@Prod.mk.injEq
def XN:=@underlying199
def XO:=@underlying133
def XP:=@underlying139
def O:=@rfl
theorem J{p:Prop}(h:p:=by omega):p:=h
theorem sD{p:Prop}(h:p:=by first|omega|(have hsb:=Rs ‹lW s.sh=true› h0 (show k<=s.sh.aL.length by omega);have Ol:=xT ‹_›;have hat:=TM ‹lW s.sh=true› h0 (show k<s.sh.aL.length by omega);rw[iK]at hat;have hhb:=aav hat;have hnb:1<=(s.aL.getD k.toNat bI).names.length/\(s.aL.getD k.toNat bI).names.length<=64:=(sE hat).1;first|omega|(have e:kN (s.aL.getD k.toNat bI).rel=eu (s.aL.getD k.toNat bI).fc:=za (f:=(s.aL.getD k.toNat bI).fc) (show(s.aL.getD k.toNat bI).kind=3 from‹_›);omega)|(have e:(qx (s.aL.getD k.toNat bI).rel).1=eu (s.aL.getD k.toNat bI).fc:=zc (f:=(s.aL.getD k.toNat bI).fc) (show(s.aL.getD k.toNat bI).kind=4 from‹_›);omega))):p:=h
theorem aT{p:Prop}(h:p:=by (try dsimp only);omega):p:=h
theorem aP{p:Prop}(h:p:=by kernel_rfl):p:=h
theorem az{p:Prop}(h:p:=by decide):p:=h
theorem bC{p:Prop}(h:p:=by conv=>lhs;whnf):p:=h
theorem Ar{p:Prop}(h:p:=by first|rfl|omega|(rw[alr h0 ‹i<_›];unfold nxG nxP;first|(rw[aS (by simp_all;try omega)];done)|(rw[aR (by simp_all;try omega)];done))):p:=h
theorem aF{p:Prop}(h:p:=by simp):p:=h
theorem aO{p:Prop}(h:p:=by rfl):p:=h
theorem iF{p:Prop}(h:p:=by simp[Value.oneCell']):p:=h
theorem gC{p:Prop}(h:p:=by simp only[maxLen];omega):p:=h
theorem ec{p:Prop}(h:p:=by first|rfl|omega):p:=h
theorem ze{p:Prop}(h:p:=by first|omega|(have:=aqQ alu hF (show 0<=i by omega) (show i<pts r by omega);omega)):p:=h
theorem Rt{p:Prop}(h:p:=by first|rfl|omega|(rw[Ru h0 ‹i<_›];unfold bdA iO;first|(rw[aS (show(p.bu.getD i.toNat fU).op=8 by assumption)];omega)|(rw[aR (show¬(p.bu.getD i.toNat fU).op=8 by assumption)];omega))):p:=h
theorem BT{p:Prop}(h:p:=by have hat:=TM ‹lW s.sh=true› (k:=k) h0 J;rw[iK]at hat;exact hat):p:=h
theorem mY{p:Prop}(h:p:=by dsimp only;rw[alv];omega):p:=h
theorem Rv{p:Prop}(h:p:=by have hme:m=bS l:=(by first|(exfalso;omega)|(have h:nxV l m i.toNat<0:=‹_›;rw[show i.toNat=l.length by omega,hmj]at h;rw[hmj];exact aqR hj h));rw[hme]):p:=h
theorem oM{p:Prop}(h:p:=by simp only[gB,maxLen];omega):p:=h
theorem Rw{p:Prop}(h:p:=by have:=(uM hr h0 ‹k<_› hdp ‹¬(List.getD l k.toNat cB).op=1› ‹¬(List.getD l k.toNat cB).op=2›);omega):p:=h
theorem iP{p:Prop}(h:p:=by simp;omega):p:=h
theorem nT{p:Prop}(h:p:=by rw[Lo];rfl):p:=h
theorem XQ{p:Prop}(h:p:=by first|exact aqS j0 ‹bH (gX r) k j=true› ‹bH (gX r) j k=true›|exact acy j0 ‹_›|exact acz j0 ‹_›):p:=h
theorem Lp{p:Prop}(h:p:=by show _<(k9 _ _ _ _ _).toArray.size;rw[Aq,ae8];decide):p:=h
theorem kU{p:Prop}(h:p:=by simp[maxLen]):p:=h
theorem Rx{p:Prop}(h:p:=by show((st.length:Int)-(l.getD k.toNat cB).n).toNat+1<=_;simp only[maxLen];omega):p:=h
theorem BU{p:Prop}(h:p:=by rw[ae9 i0 hi];simp;omega):p:=h
theorem HK{p:Prop}(h:p:=by first|omega|(have:= @XR r k h0;omega)):p:=h
theorem qy{p:Prop}(h:p:=by simpa using hu):p:=h
theorem Ry{p:Prop}(h:p:=by show(((st.length:Int)-(l.getD k.toNat cB).n).toNat+1)*_<=_;omega):p:=h
theorem nU{p:Prop}(h:p:=by assumption):p:=h
theorem BV{p:Prop}(h:p:=by rw[XS v0];simp[*]):p:=h
theorem BW{p:Prop}(h:p:=by rw[XT v0];simp[*]):p:=h
theorem RA{p:Prop}(h:p:=by rw[O5 fK,cZ,eP,rz J,Ew];rfl):p:=h
theorem RB{p:Prop}(h:p:=by first|rfl|(simp only[dG];done)|(simp only[dG];rfl)):p:=h
theorem RC{p:Prop}(h:p:=by have:=(hpl.at h0 ‹k<_› ‹EP _=true›).1;omega):p:=h
theorem afa{p:Prop}(h:p:=by first|exact alw h0 (by rw[<-‹pY (gX r) k j=true›,show j=k by omega])|exact aqU h0 (by rw[<-‹pY (gX r) k j=false›,show j=k by omega])):p:=h
theorem HL{p:Prop}(h:p:=by simp only[ot,eR];omega):p:=h
theorem BX{p:Prop}(h:p:=by show min _ _=_;omega):p:=h
theorem HM{p:Prop}(h:p:=by rw[iK];exact nt ‹_›):p:=h
theorem EQ{p:Prop}(h:p:=by simp only[cZ];omega):p:=h
theorem RD{p:Prop}(h:p:=by simp only[dG,Ho,wY,gf,eC];done):p:=h
theorem xl{p:Prop}(h:p:=by simpa using h):p:=h
theorem afb{p:Prop}(h:p:=by first|(rw[HN j0 ‹j<_›,aS hqq];done)|(rw[HN j0 ‹j<_›,aR hqq];done)|(rw[HN j0 ‹j<_›,aR hqq];rfl)):p:=h
theorem ER{p:Prop}(h:p:=by rw[Lo];omega):p:=h
theorem Lq{p:Prop}(h:p:=by rw[Lr,gO J,KW]):p:=h
theorem RE{p:Prop}(h:p:=by rw[TN h0,gz,cZ];rfl):p:=h
theorem HO{p:Prop}(h:p:=by rw[HP];omega):p:=h
theorem HQ{p:Prop}(h:p:=by have:=hlc.dep;omega):p:=h
theorem zf{p:Prop}(h:p:=by simp[undef]):p:=h
theorem oN{p:Prop}(h:p:=by simp[hx]):p:=h
theorem jY{p:Prop}(h:p:=by simp_all):p:=h
theorem zg{p:Prop}(h:p:=by simpa using hi):p:=h
theorem HR{p:Prop}(h:p:=by rw[zh];omega):p:=h
theorem afc{p:Prop}(h:p:=by have hlc:=nt ‹(!ji (rN s k))=true›;rw[ji,wv]at hlc;rw[tT,wv];omega):p:=h
theorem XU{p:Prop}(h:p:=by show gs.length+1<=_;simp only[maxLen];omega):p:=h
theorem XV{p:Prop}(h:p:=by rw[half,show(k+1).toNat=k.toNat+1 by omega]):p:=h
theorem afd{p:Prop}(h:p:=by have:=(o6 hf (i:=i.toNat) J).1;have:=(o6 hf (i:=j.toNat) J).1;omega):p:=h
theorem XW{p:Prop}(h:p:=by simp only[cZ,eP,ir];omega):p:=h
theorem oO{p:Prop}(h:p:=by cases h):p:=h
theorem XX{p:Prop}(h:p:=by rw[Ki h0 ‹k<_›,<-dG];done):p:=h
theorem RF{p:Prop}(h:p:=by rw[O6 J];rfl):p:=h
theorem afe{p:Prop}(h:p:=by rw[iK];intro q;have q2:(s.aL.getD k.toNat bI).kind=4:=q.2;omega):p:=h
theorem Ls{p:Prop}(h:p:=by rw[xS];omega):p:=h
theorem RG{p:Prop}(h:p:=by rw[h.llo];exact hp.1):p:=h
theorem RH{p:Prop}(h:p:=by rw[Bu];exact KV):p:=h
theorem ES{p:Prop}(h:p:=by simpa using h1):p:=h
theorem XY{p:Prop}(h:p:=by show(gs.length+1)*_<=_;omega):p:=h
theorem XZ{p:Prop}(h:p:=by unfold JK;((simp_all;done))):p:=h
theorem Lt{p:Prop}(h:p:=by simpa using c):p:=h
theorem X0{p:Prop}(h:p:=by rw[hr];exact alx ‹_›):p:=h
theorem X3{p:Prop}(h:p:=by simp only[gB,eP];omega):p:=h
theorem X4{p:Prop}(h:p:=by simp only[Instr.fill,h];rfl):p:=h
theorem Lu{p:Prop}(h:p:=by (simp;omega)):p:=h
theorem afg{p:Prop}(h:p:=by show¬(1<=f.names.length/\f.names.length<=64);omega):p:=h
theorem afh{p:Prop}(h:p:=by have:=afi r _ _ ‹(iS r _ _).2=true›;omega):p:=h
theorem RI{p:Prop}(h:p:=by rw[Ey];omega):p:=h
theorem X5{p:Prop}(h:p:=by simp[TO,Value.oneCell']):p:=h
theorem RJ{p:Prop}(h:p:=by rw[e0];exact yG):p:=h
theorem X6{p:Prop}(h:p:=by rw[pZ];exact Au):p:=h
theorem afj{p:Prop}(h:p:=by have:=hui _ (dh (d:=0) h0 ‹k<_›);omega):p:=h
theorem afk{p:Prop}(h:p:=by rw[tU,nt ‹(!(qz r i j).2)=true›];simp):p:=h
theorem afl{p:Prop}(h:p:=by exact .inr (nf ‹(!qA s _ 1 x.aX)=false›)):p:=h
theorem afm{p:Prop}(h:p:=by have:leads (bq (cl::Av))=leads cl:=rfl;omega):p:=h
theorem afn{p:Prop}(h:p:=by rw[aly,show(i+1).toNat=i.toNat+1 by omega]):p:=h
theorem afo{p:Prop}(h:p:=by rw[tU,nt ‹(!(iS r i j).2)=true›];rfl):p:=h
theorem afp{p:Prop}(h:p:=by exact .inl ‹¬(List.getD x.code _ _).op=1›):p:=h
theorem X7{p:Prop}(h:p:=by simp only[gB];omega):p:=h
theorem afq{p:Prop}(h:p:=by show st.length+1<=_;simp only[maxLen];omega):p:=h
theorem afr{p:Prop}(h:p:=by rw[gB];(try rw[m9]);rw[BY];omega):p:=h
theorem X8{p:Prop}(h:p:=by first|rfl|(simp;done)):p:=h
theorem afs{p:Prop}(h:p:=by have hb:=hbytes;simp only[ia]at hb;omega):p:=h
theorem X9{p:Prop}(h:p:=by rw[ha.eval];exact hc):p:=h
theorem afu{p:Prop}(h:p:=by have:=TP hr hk ‹¬k<_› hdp;omega):p:=h
theorem afv{p:Prop}(h:p:=by rw[TQ h0];exact Nat.le_add_right _ _):p:=h
theorem afw{p:Prop}(h:p:=by exact .inl ‹¬(List.getD l _ _).op=1›):p:=h
theorem RK{p:Prop}(h:p:=by rw[hg];omega):p:=h
theorem Ya{p:Prop}(h:p:=by rw[Bu]at q;cases q):p:=h
theorem afx{p:Prop}(h:p:=by simp;rcases xm x y with e|e<;>omega):p:=h
theorem afy{p:Prop}(h:p:=by exact .inr (Q1.1 ‹¬¬(_/\_)›)):p:=h
theorem aK{p:Prop}(h:p:=by assumption):p:=h
end
end Go.Proofs.YtlhjdflgjbkpmaaGreatDoor
namespace Go.Proofs.YtlhjdflgjbkpmaaGreatDoor.E
section
open Go Go.RowKit
abbrev Env:=Nat->Value
def lG(σ:Env)(d:Nat)(v:Value):Env:=fun i=>if i=d then v else σ i
def ev(σ:Env):Operand->Value
 | .tmp t=>σ t
 | .const v=>v
 | .global g=> .pointer (some ⟨g,0,none⟩)
 | .func f=> .func (.func f) #[] #[]
theorem aqV(σ:Env)(d:Nat)(v:Value):lG σ d v d=v:=by simp[lG]
theorem Yb(σ:Env){d i:Nat}(v:Value)(h:i≠d):lG σ d v i=σ i:=by simp[lG,h]
abbrev I(n:Int):Value:= .int .i64 n
abbrev U(x:BitVec 64):Value:= .int .u64 (x.toNat:Int)
abbrev B(b:Bool):Value:= .bool b
structure Is(n:Nat)(σ:Env)(a:Act):Prop where
 size:a.tmps.size=n
 get:∀t,a.tmps.getD t undef=σ t
 defers:a.defers=[]
section basics
variable{n:Nat}{σ:Env}{a:Act}
theorem Is.eval(h:Is n σ a):a.eval=ev σ:=by
 funext x
 cases x with
 |tmp t=>exact h.get t
 |const v=>rfl
 |global g=>rfl
 |func f=>rfl
theorem Is.put(h:Is n σ a){d:Nat}(hd:Nat.blt d n=true)(v:Value):Is n (lG σ d v) (a.put (some d) v):=by
 have hd':d<n:=by simpa[Nat.blt_eq]using hd
 refine⟨(by simp[Act.put,h.size]),fun t=> ?_,(by simp[Act.put,h.defers])⟩
 have:=h.get t
 simp only[Act.put,lG,wo]at*
 rw[Bz]
 by_cases ht:d=t
 .subst ht;simp[h.size,hd']
 rw[aR ht,aR (fun e=>ht e.symm)];exact this
theorem Is.look(h:Is n σ a){t:Nat}{v:Value}(hv:σ t=v)(hne:v≠undef):a.tmps[t]?=some v:=by
 have:=h.get t
 rw[hv,wo]at this
 cases hx:a.tmps[t]? with
 |none=>simp[hx]at this;exact absurd this.symm hne
 |some u=>simp[hx]at this;rw[this]
end basics
abbrev K:=Env->World->Prop
def post(n:Nat)(k:K)(xs:List (Nat×K))(r:K):Exit->Act->World->Prop
 | .normal,a,w=>∃σ,Is n σ a/\k σ w
 | .exit id,a,w=>∃σ,Is n σ a/\∃q,xs.lookup id=some q/\q σ w
 | .ret,a,w=>∃σ,Is n σ a/\r σ w
 |_,_,_=>False
def CW(P:Program)(n:Nat)(c:Code)(k:K)(xs:List (Nat×K))(r:K)(σ:Env)(w:World):Prop:=
 ∀a,Is n σ a->c.wp P (post n k xs r) a w
def rB(n:Nat)(k:K):Exit->Act->World->Prop
 | .normal,a,w=>∃σ,Is n σ a/\k σ w
 |_,_,_=>False
def RL(P:Program)(n:Nat)(ops:Array Oper)(k:K)(l:List Oper)(σ:Env)(w:World):Prop:=
 ∀a,Is n σ a->wpList P ops (rB n k) l a w
section code
variable{P:Program}{n:Nat}{k:K}{xs:List (Nat×K)}{r:K}{σ:Env}{w:World}
theorem CW.mono{c:Code}{k':K}(h:CW P n c k xs r σ w)(hk:∀σ w,k σ w->k' σ w):CW P n c k' xs r σ w:=by
 intro a ha
 refine yT (fun e a' w' hq=> ?_) (h a ha)
 cases e with
 |normal=>obtain⟨σ',h1,h2⟩:=hq;exact⟨σ',h1,hk _ _ h2⟩
 |exit id=>exact hq
 |ret=>exact hq
 |goto l=>exact hq
 |panic c=>exact hq
 |outgrown=>exact hq
theorem ak(h:k σ w):CW P n .skip k xs r σ w:=fun a ha=>wp_skip ⟨σ,ha,h⟩
theorem ai(h:r σ w):CW P n .ret k xs r σ w:=fun a ha=>wp_ret ⟨σ,ha,h⟩
theorem aY{id:Nat}{q:K}(hq:xs.lookup id=some q)(h:q σ w):CW P n (.exit id) k xs r σ w:=
 fun a ha=>wp_exit ⟨σ,ha,q,hq,h⟩
theorem ag{x y:Code}(h:CW P n x (fun σ w=>CW P n y k xs r σ w) xs r σ w):CW P n (.seq x y) k xs r σ w:=by
 intro a ha
 refine wp_seq (yT (fun e a' w' hq=> ?_) (h a ha))
 cases e with
 |normal=>obtain⟨σ',h1,h2⟩:=hq;exact h2 _ h1
 |exit id=>exact hq
 |ret=>exact hq
 |goto l=>exact hq
 |panic c=>exact hq
 |outgrown=>exact hq
theorem afz{x y:Code}(m:K)(h:CW P n x m xs r σ w)(h':∀σ w,m σ w->CW P n y k xs r σ w):CW P n (.seq x y) k xs r σ w:=
 ag (h.mono h')
theorem bW{c:Operand}{x y:Code}{t:Bool}(hc:ev σ c= .bool t)(ht:t=true->CW P n x k xs r σ w)
  (hf:t=false->CW P n y k xs r σ w):CW P n (.cond c x y) k xs r σ w:=
 fun a ha=>wp_cond_split X9 (fun h=>ht h a ha) (fun h=>hf h a ha)
theorem cC{c:Operand}{x y:Code}(hc:ev σ c= .bool true)(ht:CW P n x k xs r σ w):CW P n (.cond c x y) k xs r σ w:=
 fun a ha=>wp_cond_true X9 (ht a ha)
theorem cL{c:Operand}{x y:Code}(hc:ev σ c= .bool false)(hf:CW P n y k xs r σ w):CW P n (.cond c x y) k xs r σ w:=
 fun a ha=>wp_cond_false X9 (hf a ha)
theorem aD{c:Operand}{x y:Code}{p:Prop}[inst:Decidable p](hc:ev σ c= .bool (decide p))(ht:p->CW P n x k xs r σ w)
 (hf:¬p->CW P n y k xs r σ w):CW P n (.cond c x y) k xs r σ w:=by grind[bW]
theorem ay{id:Nat}{c:Code}(h:CW P n c k ((id,k)::xs) r σ w):CW P n (.block id c) k xs r σ w:=by
 intro a ha
 refine wp_block (yT (fun e a' w' hq=> ?_) (h a ha))
 cases e with
 |normal=>exact hq
 |exit id'=>
  obtain⟨σ',h1,q,h2,h3⟩:=hq
  simp only[Exit.inBlock]
  by_cases hid:id'=id
  .rw[aS hid];subst hid
   simp only[List.lookup_cons,beq_self_eq_true,Xq]at h2
   subst h2;exact⟨σ',h1,h3⟩
  rw[aR hid]
  have hb:(id'==id)=false:=by simpa using hid
  simp only[List.lookup_cons,hb]at h2
  exact⟨σ',h1,q,h2,h3⟩
 |ret=>exact hq
 |goto l=>exact hq
 |panic c=>exact hq
 |outgrown=>exact hq
theorem bk{c:Code}{G:Type}(inv:G->K)(mu:G->Nat)(g0:G)(h0:inv g0 σ w)
  (round:∀g σ w,inv g σ w->CW P n c (fun σ' w'=>∃g',mu g'<mu g/\inv g' σ' w') xs r σ w):CW P n (.loop c) k xs r σ w:=by
 intro a ha b kk cs
 have key:∀m g σ w a,mu g=m->inv g σ w->Is n σ a->
   ∃e a' w',post n k xs r e a' w'/\Arrives P (lone (b.at a (.code c:: .inLoop c::kk)) cs w) b kk cs e a' w':=by
  intro m
  induction m using Nat.strongRecOn with
  |_ m ih=>
   intro g σ w a hm hi ha
   obtain⟨e,a',w',hq,afA⟩:=round g σ w hi a ha b (.inLoop c::kk) cs
   cases e with
   |normal=>
    obtain⟨σ',h1,g',hlt,hi'⟩:=hq
    obtain⟨e2,a2,w2,hq2,avS⟩:=ih (mu g') (hm▸hlt) g' σ' w' a' O hi' h1
    exact⟨e2,a2,w2,hq2,.of_steps (Steps.trans afA (.one step_inLoop)) avS⟩
   |exit id=>exact⟨.exit id,a',w',hq,.pass (x:= .inLoop c) O (fun _ _=> .inl aF) afA⟩
   |ret=>exact⟨.ret,a',w',hq,.pass (x:= .inLoop c) O (fun _ _=> .inl aF) afA⟩
   |goto l=>exact hq.elim
   |panic c=>exact hq.elim
   |outgrown=>exact hq.elim
 obtain⟨e,a',w',hq,afA⟩:=key _ g0 σ w a O h0 ha
 exact⟨e,a',w',hq,.of_steps (.one step_loop) afA⟩
theorem aq{id:Nat}{l:List Oper}(h:RL P n l.toArray k l σ w):CW P n (.region id l.toArray false) k xs r σ w:=by
 intro a ha
 refine yT (fun e a' w' hq=> ?_) (wp_region_lit (id:=id) (h a ha))
 cases e with
 |normal=>exact hq
 |exit id=>exact hq.elim
 |ret=>exact hq.elim
 |goto l=>exact hq.elim
 |panic c=>exact hq.elim
 |outgrown=>exact hq.elim
end code
def jj(q:Value->World->Prop):Ending->World->Prop
 | .returned v,w=>q v w
 |_,_=>False
theorem jj.mono{q q':Value->World->Prop}(h:∀v w,q v w->q' v w){e:Ending}{w:World}(hr:jj q e w):jj q' e w:=by
 cases e with
 |returned v=>exact h v w hr
 |panicked c=>exact hr
 |outgrown=>exact hr
theorem jj.calls{P:Program}{f:FuncId}{args:Array Value}{w:World}{q q':Value->World->Prop}(hc:Calls P f args w (jj q))(h:∀v w,q v w->q' v w):Calls P f args w (jj q'):=hc.mono fun _ _ hr=>hr.mono h
def entry(args:Array Value):Env:=fun i=>args.getD i undef
theorem afB(args:Array Value)(n:Nat)(h:args.size<=n):Is n (entry args) {tmps:=args++Array.replicate (n-args.size) undef,defers:=[]}:=by
 refine⟨by simp;omega,fun t=> ?_,rfl⟩
 simp only[entry,wo,Array.getElem?_append,ae4]
 split
 .rfl
 rename_i ht
 rw[Xc J]
 split<;>rfl
section entry
variable{P:Program}{n:Nat}{w:World}
def Out(P:Program)(fn:Func)(q:Value->World->Prop):K:=fun σ w=>
 ∀n a,Is n σ a->∃v,(results fn a.tmps).run P w= .ok v w/\q v w
theorem enter{f:FuncId}{fn:Func}{c:Code}{args:Array Value}{q:Value->World->Prop}(hf:P.funcs[f]?=some fn)(hb:fn.body=some c)
  (hn:fn.ntmps=n) (ha:Nat.ble args.size n=true) (h:CW P n c (Out P fn q) [] (Out P fn q) (entry args) w):Calls P f args w (jj q):=by
 refine calls_of_wp hf hb ?_
 rw[hn]
 refine yT (fun e a' w' hq=> ?_) (h _ (afB args n (by simpa using ha)))
 cases e with
 |normal=>obtain⟨σ,h1,h2⟩:=hq;obtain⟨v,h3,h4⟩:=h2 _ _ h1;exact⟨h1.defers,v,h3,h4⟩
 |ret=>obtain⟨σ,h1,h2⟩:=hq;obtain⟨v,h3,h4⟩:=h2 _ _ h1;exact⟨h1.defers,v,h3,h4⟩
 |exit id=>obtain⟨σ,h1,q,h2,h3⟩:=hq;simp at h2
 |goto l=>exact hq.elim
 |panic c=>exact hq.elim
 |outgrown=>exact hq.elim
variable{fn:Func}{q:Value->World->Prop}{σ:Env}
theorem pK(h:fn.results=#[])(hq:q (.tuple #[]) w):Out P fn q σ w:=fun _ _ _=>⟨_,results_none h _ _ _,hq⟩
theorem iY{t:Nat}{v:Value}(h:fn.results=#[.tmp t])(hv:σ t=v)(hq:q v w):Out P fn q σ w:=
 fun _ a ha=>⟨v,by rw[results_tmp h,ha.get,hv],hq⟩
theorem avT{t u:Nat}{x y:Value}(h:fn.results=#[.tmp t,.tmp u])(hx:σ t=x)(hy:σ u=y)(hq:q (.tuple #[x,y]) w):Out P fn q σ w:=
 fun _ a ha=>⟨_,by rw[results_tmp2 h,ha.get,ha.get,hx,hy],hq⟩
end entry
section ops
variable{P:Program}{n:Nat}{ops:Array Oper}{k:K}{rest:List Oper}{σ:Env}{w w':World}{op:Op}{ty:TypeId}{pos:String}{bK:Array Edge}{d:Nat}
theorem aa(h:k σ w):RL P n ops k [] σ w:=fun a ha=>wpList_nil ⟨σ,ha,h⟩
theorem oP{v:Value}(hd:Nat.blt d n=true)(hr:(execOp (ev σ) ⟨some d,op,ty,pos,bK,none⟩).run P w= .ok (.value v) w')
  (hk:RL P n ops k rest (lG σ d v) w'):RL P n ops k (⟨some d,op,ty,pos,bK,none⟩::rest) σ w:=by
 intro a ha
 refine wpList_plain O fun K hK=> ?_
 rw[Oper.wp,ha.eval,hr]
 exact hK _ _ (hk _ (ha.put hd v))
theorem Lv(hr:(execOp (ev σ) ⟨none,op,ty,pos,bK,none⟩).run P w= .ok .skip w')
  (hk:RL P n ops k rest σ w'):RL P n ops k (⟨none,op,ty,pos,bK,none⟩::rest) σ w:=by
 intro a ha
 refine wpList_plain O fun K hK=> ?_
 rw[Oper.wp,ha.eval,hr]
 exact hK _ _ (hk _ ha)
theorem HS{f:FuncId}{args:Array Value}{q:Value->World->Prop}(hd:Nat.blt d n=true)
  (hr:(execOp (ev σ) ⟨some d,op,ty,pos,bK,none⟩).run P w= .ok (.enter f args) w) (hc:Calls P f args w (jj q))
  (hk:∀v w',q v w'->RL P n ops k rest (lG σ d v) w'):RL P n ops k (⟨some d,op,ty,pos,bK,none⟩::rest) σ w:=by
 intro a ha
 refine wpList_plain O fun K hK=> ?_
 rw[Oper.wp,ha.eval,hr]
 refine hc.mono fun e w' hq=> ?_
 cases e with
 |returned v=>exact hK _ _ (hk _ _ hq _ (ha.put hd v))
 |panicked c=>exact hq.elim
 |outgrown=>exact hq.elim
theorem HT{a:Act}(ha:Is n σ a){j dj:Nat}{b want:Bool}(hj:(ops[j]?).bind (·.dst)=some dj)(hb:σ dj= .bool b)(dst:Option Tmp):
  Region.wanted ⟨dst,op,ty,pos,bK,some (j,want)⟩ (yielded ops a.tmps)=(b==want):=by
 have h1:a.tmps[dj]?=some (.bool b):=ha.look hb zf
 simp only[Region.wanted,yielded,hj,Q9,h1]
 cases b<;>cases want<;>rfl
theorem FM{a:Act}(ha:Is n σ a){j dj:Nat}{want:Bool}(hj:(ops[j]?).bind (·.dst)=some dj)(hu:σ dj=undef)(dst:Option Tmp):
  Region.wanted ⟨dst,op,ty,pos,bK,some (j,want)⟩ (yielded ops a.tmps)=false:=by
 have h1:a.tmps[dj]?=some undef\/a.tmps[dj]?=none:=by
  have:=ha.get dj
  rw[hu,wo]at this
  cases hx:a.tmps[dj]? with
  |none=>exact .inr O
  |some u=>simp[hx]at this;exact .inl (by rw[this])
 rcases h1 with h1|h1<;>simp only[Region.wanted,yielded,hj,Q9,h1,undef]<;>rfl
theorem eV{j dj:Nat}{want:Bool}(hd:Nat.blt d n=true)(hj:(ops[j]?).bind (·.dst)=some dj)(hu:σ dj=undef)
  (h:RL P n ops k rest (lG σ d undef) w):RL P n ops k (⟨some d,op,ty,pos,bK,some (j,want)⟩::rest) σ w:=by
 intro a ha
 simp only[wpList,FM ha hj hu]
 exact h _ (ha.put hd undef)
end ops
section runs
variable{P:Program}{σ:Env}{w:World}{dst:Option Tmp}{ty:TypeId}{pos:String}{bK:Array Edge}{g:Option (Nat×Bool)}
theorem run_move{x:Operand}{v:Value}(hx:ev σ x=v):(execOp (ev σ) ⟨dst,.move x,ty,pos,bK,g⟩).run P w= .ok (.value v) w:=by
 subst hx;rfl
theorem run_assign{x:Operand}{v:Value}(hx:ev σ x=v):(execOp (ev σ) ⟨dst,.assign x,ty,pos,bK,g⟩).run P w= .ok (.value v) w:=by
 subst hx;rfl
theorem fZ{c a b:Operand}{v:Value}(hc:ev σ c= .bool true)(ha:ev σ a=v):
  (execOp (ev σ) ⟨dst,.pick c a b,ty,pos,bK,g⟩).run P w= .ok (.value v) w:=by
 subst ha;simp[execOp,hc,asBool]
theorem dM{c a b:Operand}{v:Value}(hc:ev σ c= .bool false)(hb:ev σ b=v):
  (execOp (ev σ) ⟨dst,.pick c a b,ty,pos,bK,g⟩).run P w= .ok (.value v) w:=by
 subst hb;simp[execOp,hc,asBool]
theorem bx{t:Operand}{i:Nat}{vs:Array Value}{v:Value}(ht:ev σ t= .tuple vs)(hv:vs[i]?=some v):
  (execOp (ev σ) ⟨dst,.extract t i,ty,pos,bK,g⟩).run P w= .ok (.value v) w:=by
 simp[execOp,ht,Instr.extract,hv]
section ints
variable{t u:TypeId}{x y:Operand}{k:IntKind}{a b:Int}
theorem C4{op:BinOp}{v:Value}(hx:ev σ x= .int k a)(hy:ev σ y= .int k b)(hop:(match op with| .eql=>Value.bool (decide (a=b))| .neq=> .bool (decide (a≠b))| .lss=> .bool (decide (a<b))| .leq=> .bool (decide (a<=b))| .gtr=> .bool (decide (b<a))| .geq=> .bool (decide (b<=a))|_=>undef)=v)(hu:v≠undef):
  (execOp (ev σ) ⟨dst,.binOp op t x y u,ty,pos,bK,g⟩).run P w= .ok (.value v) w:=by
 subst hop
 cases op<;>simp_all [execOp,eqGuard,binOp,Op.intCmp,undef]
 .rw[gP];simp
 rw[gP];simp
theorem bN(hx:ev σ x= .int k a)(hy:ev σ y= .int k b):(execOp (ev σ) ⟨dst,.binOp .eql t x y u,ty,pos,bK,g⟩).run P w= .ok (.value (.bool (decide (a=b)))) w:=C4 hx hy O zf
theorem ke(hx:ev σ x= .int k a)(hy:ev σ y= .int k b):(execOp (ev σ) ⟨dst,.binOp .neq t x y u,ty,pos,bK,g⟩).run P w= .ok (.value (.bool (decide (a≠b)))) w:=C4 hx hy O zf
theorem aM(hx:ev σ x= .int k a)(hy:ev σ y= .int k b):(execOp (ev σ) ⟨dst,.binOp .lss t x y u,ty,pos,bK,g⟩).run P w= .ok (.value (.bool (decide (a<b)))) w:=C4 hx hy O zf
theorem uk(hx:ev σ x= .int k a)(hy:ev σ y= .int k b):(execOp (ev σ) ⟨dst,.binOp .leq t x y u,ty,pos,bK,g⟩).run P w= .ok (.value (.bool (decide (a<=b)))) w:=C4 hx hy O zf
theorem cD(hx:ev σ x= .int k a)(hy:ev σ y= .int k b):(execOp (ev σ) ⟨dst,.binOp .gtr t x y u,ty,pos,bK,g⟩).run P w= .ok (.value (.bool (decide (b<a)))) w:=C4 hx hy O zf
theorem dD(hx:ev σ x= .int k a)(hy:ev σ y= .int k b):(execOp (ev σ) ⟨dst,.binOp .geq t x y u,ty,pos,bK,g⟩).run P w= .ok (.value (.bool (decide (b<=a)))) w:=C4 hx hy O zf
theorem C5{n:Int}(h: -9223372036854775808<=n/\n<=9223372036854775807):IntKind.i64.wrap n=n:=IntWalk.i64_in n h
theorem ax(hx:ev σ x= .int .i64 a)(hy:ev σ y= .int .i64 b)(h: -9223372036854775808<=a+b/\a+b<=9223372036854775807):
  (execOp (ev σ) ⟨dst,.binOp .add t x y u,ty,pos,bK,g⟩).run P w= .ok (.value (.int .i64 (a+b))) w:=by
 simp[execOp,hx,hy,eqGuard,binOp,Op.intArith,C5 h]
theorem fF(hx:ev σ x= .int .i64 a)(hy:ev σ y= .int .i64 b)(h: -9223372036854775808<=a-b/\a-b<=9223372036854775807):
  (execOp (ev σ) ⟨dst,.binOp .sub t x y u,ty,pos,bK,g⟩).run P w= .ok (.value (.int .i64 (a-b))) w:=by
 simp[execOp,hx,hy,eqGuard,binOp,Op.intArith,C5 h]
theorem ww(hx:ev σ x= .int .i64 a)(hy:ev σ y= .int .i64 b)(h: -9223372036854775808<=a*b/\a*b<=9223372036854775807):
  (execOp (ev σ) ⟨dst,.binOp .mul t x y u,ty,pos,bK,g⟩).run P w= .ok (.value (.int .i64 (a*b))) w:=by
 simp[execOp,hx,hy,eqGuard,binOp,Op.intArith,C5 h]
theorem alz(hx:ev σ x= .int .i64 a)(hy:ev σ y= .int .i64 b)(ha:0<=a/\a<=9223372036854775807)(hb:0<b):
  (execOp (ev σ) ⟨dst,.binOp .quo t x y u,ty,pos,bK,g⟩).run P w= .ok (.value (.int .i64 (a/b))) w:=by
 have h1:a.tdiv b=a/b:=ae0 ha.1
 have h2:a/b<=a:=Int.ediv_le_self b ha.1
 have h3:0<=a/b:=Int.ediv_nonneg ha.1 J
 simp[execOp,hx,hy,eqGuard,binOp,Op.intDiv,h1,C5 (n:=a/b) J,show b≠0 by omega]
end ints
section words
variable{t u:TypeId}{x y:Operand}{a b:BitVec 64}
theorem Lw(n:Int):IntKind.u64.wrap n=((BitVec.ofInt 64 n).toNat:Int):=by
 simp[IntKind.wrap,IntKind.bits,IntKind.signed,Q3]
 omega
theorem ofU(a:BitVec 64):BitVec.ofInt 64 (a.toNat:Int)=a:=aF
theorem RM(a:BitVec 64):IntKind.u64.wrap (a.toNat:Int)=(a.toNat:Int):=by rw[Lw,ofU]
theorem C6{op:BinOp}{k:IntKind}{m n:Int}{v:Value}(hx:ev σ x= .int k m)(hy:ev σ y= .int k n)(h:(binOp op t (.int k m) (.int k n)).run P w= .ok v w):
  (execOp (ev σ) ⟨dst,.binOp op t x y u,ty,pos,bK,g⟩).run P w= .ok (.value v) w:=by
 have he:(eqGuard op t x y (.int k m) (.int k n))=pure ():=by cases op<;>rfl
 simp[execOp,hx,hy,he,h]
theorem iZ(hx:ev σ x=U a)(hy:ev σ y=U b):(execOp (ev σ) ⟨dst,.binOp .eql t x y u,ty,pos,bK,g⟩).run P w= .ok (.value (.bool (decide (a=b)))) w:=by
 rw[bN hx hy];congr 3;rw[gP];simp[<-Xx];omega
theorem uN(hx:ev σ x=U a)(hy:ev σ y=U b):(execOp (ev σ) ⟨dst,.binOp .neq t x y u,ty,pos,bK,g⟩).run P w= .ok (.value (.bool (decide (a≠b)))) w:=by
 rw[ke hx hy];congr 3;rw[gP];simp[<-Xx];omega
theorem afC(hx:ev σ x=U a)(hy:ev σ y=U b):(execOp (ev σ) ⟨dst,.binOp .add t x y u,ty,pos,bK,g⟩).run P w= .ok (.value (U (a+b))) w:=by
 simp[execOp,hx,hy,eqGuard,binOp,Op.intArith,Lw,BitVec.ofInt_add]
theorem TR(hx:ev σ x=U a)(hy:ev σ y=U b):(execOp (ev σ) ⟨dst,.binOp .sub t x y u,ty,pos,bK,g⟩).run P w= .ok (.value (U (a-b))) w:=by
 have h:((BitVec.ofInt 64 ((a.toNat:Int)-b.toNat)).toNat:Int)=((a-b).toNat:Int):=by
  rw[Q3,Ra];have:=a.isLt;have:=b.isLt;omega
 refine C6 hx hy ?_
 simp only[binOp,Op.intArith,Lw,h];rfl
theorem Lx(hx:ev σ x=U a)(hy:ev σ y=U b):(execOp (ev σ) ⟨dst,.binOp .mul t x y u,ty,pos,bK,g⟩).run P w= .ok (.value (U (a*b))) w:=by
 simp[execOp,hx,hy,eqGuard,binOp,Op.intArith,Lw,BitVec.ofInt_mul]
theorem lH(hx:ev σ x=U a)(hy:ev σ y=U b):(execOp (ev σ) ⟨dst,.binOp .and t x y u,ty,pos,bK,g⟩).run P w= .ok (.value (U (a&&&b))) w:=by
 refine C6 hx hy ?_
 simp only[binOp,Op.intBits,IntKind.bits,ofU,RM];rfl
theorem jH(hx:ev σ x=U a)(hy:ev σ y=U b):(execOp (ev σ) ⟨dst,.binOp .or t x y u,ty,pos,bK,g⟩).run P w= .ok (.value (U (a|||b))) w:=by
 refine C6 hx hy ?_
 simp only[binOp,Op.intBits,IntKind.bits,ofU,RM];rfl
theorem TS(hx:ev σ x=U a)(hy:ev σ y=U b):(execOp (ev σ) ⟨dst,.binOp .andNot t x y u,ty,pos,bK,g⟩).run P w= .ok (.value (U (a&&& ~~~b))) w:=by
 refine C6 hx hy ?_
 simp only[binOp,Op.intBits,IntKind.bits,ofU,RM];rfl
theorem Lz(hx:ev σ x=U a)(hy:ev σ y=U b)(hb:b≠0):(execOp (ev σ) ⟨dst,.binOp .quo t x y u,ty,pos,bK,g⟩).run P w= .ok (.value (U (a/b))) w:=by
 have hb':¬((b.toNat:Int)=0):=fun h=>hb (Hr xl)
 have h1:((a.toNat:Int)).tdiv (b.toNat:Int)=((a/b).toNat:Int):=by
  rw[ae0 J];simp
 refine C6 hx hy ?_
 simp only[binOp,Op.intDiv,aR hb',h1,RM];rfl
theorem LA(hx:ev σ x=U a)(hy:ev σ y=U b)(hb:b≠0):(execOp (ev σ) ⟨dst,.binOp .rem t x y u,ty,pos,bK,g⟩).run P w= .ok (.value (U (a%b))) w:=by
 have hb':¬((b.toNat:Int)=0):=fun h=>hb (Hr xl)
 have h1:((a.toNat:Int)).tmod (b.toNat:Int)=((a%b).toNat:Int):=by
  rw[Int.tmod_eq_emod_of_nonneg J];simp
 refine C6 hx hy ?_
 simp only[binOp,Op.intDiv,aR hb',h1];rfl
theorem afD(hx:ev σ x=U a):(execOp (ev σ) ⟨dst,.unOp .neg t x,ty,pos,bK,g⟩).run P w= .ok (.value (U (-a))) w:=by
 have h:((BitVec.ofInt 64 (0-(a.toNat:Int))).toNat:Int)=((-a).toNat:Int):=by
  rw[Q3,BitVec.toNat_neg];have:=a.isLt;omega
 simp only[execOp,hx,Op.unary,Op.intArith,Lw,h];rfl
theorem FN(hx:ev σ x=U a)(hy:ev σ y=U b):(execOp (ev σ) ⟨dst,.binOp .shl t x y u,ty,pos,bK,g⟩).run P w= .ok (.value (U (a<<<b.toNat))) w:=by
 have h:IntKind.u64.wrap ((a.toNat:Int)*2^(min b.toNat 64))=((a<<<b.toNat).toNat:Int):=by
  have e1:((a.toNat:Int)*2^(min b.toNat 64))=((a.toNat*2^(min b.toNat 64):Nat):Int):=by push_cast;rfl
  rw[Lw,e1,BitVec.ofInt_natCast,Xk,QZ,Rb]
  by_cases hle:b.toNat<=64
  .rw[rz hle]
  rw[Xy J]
  have e2:(2:Nat)^b.toNat=2^64*2^(b.toNat-64):=by rw[<-Nat.pow_add];congr 1;omega
  rw[e2,<-Nat.mul_assoc,Nat.mul_right_comm,Nat.mul_mod_left,Nat.mul_mod_left]
 have hn:¬((b.toNat:Int)<0):=J
 have he:(eqGuard .shl t x y (U a) (U b))=pure ():=rfl
 simp only[execOp,hx,hy,he,binOp,Op.shift,aR hn,ef,IntKind.bits,h];rfl
theorem BZ(hx:ev σ x=U a)(hy:ev σ y=U b):(execOp (ev σ) ⟨dst,.binOp .shr t x y u,ty,pos,bK,g⟩).run P w= .ok (.value (U (a>>>b.toNat))) w:=by
 have h:((a.toNat:Int)).fdiv (2^(min b.toNat 64))=((a>>>b.toNat).toNat:Int):=by
  have e1:((2:Int)^(min b.toNat 64))=((2^(min b.toNat 64):Nat):Int):=by push_cast;rfl
  rw[e1,Int.fdiv_eq_ediv_of_nonneg _ (Q4 _),W8,ae2]
  norm_cast
  by_cases hle:b.toNat<=64
  .rw[rz hle]
  rw[Xy J]
  have:=a.isLt
  rw[Nat.div_eq_of_lt J,Nat.div_eq_of_lt]
  exact Xl this (Xg J J)
 have hn:¬((b.toNat:Int)<0):=J
 have he:(eqGuard .shr t x y (U a) (U b))=pure ():=rfl
 simp only[execOp,hx,hy,he,binOp,Op.shift,aR hn,ef,IntKind.bits,h];rfl
theorem ju{s e:TypeId}{m:Int}{ki:IntKind}{des:TypeDesc}(hs:P.underlying s=some des)(he:P.underlying e=some (.int .u64))(hx:ev σ x= .int ki m):
  (execOp (ev σ) ⟨dst,.convert s e x,ty,pos,bK,g⟩).run P w= .ok (.value (U (BitVec.ofInt 64 m))) w:=by
 have h:(convert s e (.int ki m)).run P w= .ok (.int .u64 (IntKind.u64.wrap m)) w:=by
  simp[convert,kr hs,kr he,Conv.intToInt]
 simp only[execOp,hx]
 simp[h,Lw]
theorem Yc{s e:TypeId}{m:Int}{ki:IntKind}{des:TypeDesc}(hs:P.underlying s=some des)(he:P.underlying e=some (.int .i64))(hx:ev σ x= .int ki m)(h: -9223372036854775808<=m/\m<=9223372036854775807):
  (execOp (ev σ) ⟨dst,.convert s e x,ty,pos,bK,g⟩).run P w= .ok (.value (.int .i64 m)) w:=by
 have h:(convert s e (.int ki m)).run P w= .ok (.int .i64 m) w:=by
  simp[convert,kr hs,kr he,Conv.intToInt,C5 h]
 simp only[execOp,hx]
 simp[h]
theorem Yd(a:BitVec 64):IntKind.i64.wrap (a.toNat:Int)=a.toInt:=by
 have:=a.isLt
 rw[BitVec.toInt_eq_toNat_cond]
 have h64:(2:Int)^64=18446744073709551616:=az
 have h63:(2:Int)^(64-1)=9223372036854775808:=az
 have e64:(2:Nat)^64=18446744073709551616:=az
 simp only[IntKind.wrap,IntKind.bits,IntKind.signed,h64,h63,e64,l8,eo]
 by_cases h:2*a.toNat<18446744073709551616
 .rw[aS h,aR J];omega
 rw[aR h,aS J];omega
theorem Ye{s e:TypeId}{des:TypeDesc}(hs:P.underlying s=some des)(he:P.underlying e=some (.int .i64))(hx:ev σ x=U a):
  (execOp (ev σ) ⟨dst,.convert s e x,ty,pos,bK,g⟩).run P w= .ok (.value (.int .i64 a.toInt)) w:=by
 have h:(convert s e (U a)).run P w= .ok (.int .i64 a.toInt) w:=by
  simp[convert,kr hs,kr he,Conv.intToInt,Yd]
 simp only[execOp,hx]
 simp[h]
end words
section avV
variable{t u:TypeId}{x y:Operand}{a b:Bool}{p:Prop}[inst:Decidable p]
theorem bO(hx:ev σ x= .bool a):(execOp (ev σ) ⟨dst,.unOp .not t x,ty,pos,bK,g⟩).run P w= .ok (.value (.bool (!a))) w:=by
 simp[execOp,hx,Op.unary]
theorem uO(hx:ev σ x= .bool (decide p)):(execOp (ev σ) ⟨dst,.unOp .not t x,ty,pos,bK,g⟩).run P w= .ok (.value (.bool (decide ¬p))) w:=by
 simp[execOp,hx,Op.unary]
end avV
section mem
variable{t u:TypeId}{x y:Operand}{v:Value}
theorem Kj{e:TypeId}(hx:ev σ x=v):(execOp (ev σ) ⟨dst,.box e x,ty,pos,bK,g⟩).run P w= .ok (.value (.pointer (some ⟨w.heap.size,0,none⟩))) (w.alloc (.cells v.cells e)):=by
 subst hx;rfl
theorem aW{e:TypeId}{z:Value}(hz:∀w,(zeroValue e).run P w= .ok z w):(execOp (ev σ) ⟨dst,.alloc e,ty,pos,bK,g⟩).run P w= .ok (.value (.pointer (some ⟨w.heap.size,0,none⟩))) (w.alloc (.cells z.cells e)):=by
 simp[execOp,Instr.alloc,hz,newVar,newRow,newObj,Sem.run]
theorem Ov{s i n off b o:Nat}{fs:Array Field}{f:Field}(hu:P.underlying s=some (.struct fs))(hf:fs[i]?=some f)(ho:f.offset=off)
  (hs:∀w,(sizeOf f.type).run P w= .ok n w) (hn:n≠0) (hx:ev σ x= .pointer (some ⟨b,o,none⟩)):
  (execOp (ev σ) ⟨dst,.fieldAddr s x i,ty,pos,bK,g⟩).run P w= .ok (.value (.pointer (some ⟨b,o+off,none⟩))) w:=by
 subst ho
 simp[execOp,Instr.fieldAt,kr hu,hf,hx,Instr.sureAddr,fieldPlace,hs,hn,HB]
theorem bg{len n b o:Nat}{e:TypeId}{k:IntKind}{i:Int}(hu:P.underlying t=some (.array len e))(hs:∀w,(sizeOf e).run P w= .ok n w)
  (hx:ev σ x= .pointer (some ⟨b,o,none⟩)) (hy:ev σ y= .int k i) (hi:0<=i/\i<len):
  (execOp (ev σ) ⟨dst,.indexAddr t x y,ty,pos,bK,g⟩).run P w= .ok (.value (.pointer (some ⟨b,o+i.toNat*n,none⟩))) w:=by
 simp[execOp,Instr.indexAt,kr hu,hx,hy,asIntOf,Instr.sureAddr,hi,hs,HB]
theorem af{a:Addr}(hx:ev σ x= .pointer (some a)):(execOp (ev σ) ⟨dst,.nilCheck x,ty,pos,bK,g⟩).run P w= .ok (.value (.pointer (some a))) w:=by
 simp[execOp,hx]
theorem aC{d:TypeDesc}{b o:Nat}(hu:P.underlying t=some d)(hd:d.isRow=false)(hx:ev σ x= .pointer (some ⟨b,o,none⟩))(hc:w.cell? ⟨b,o,none⟩=some v):
  (execOp (ev σ) ⟨dst,.load t x,ty,pos,bK,g⟩).run P w= .ok (.value v) w:=by
 have ha:(isAgg t).run P w= .ok false w:=by
  unfold isAgg
  rw[rK,kr hu w]
  cases d<;>simp_all
 simp[execOp,hx,Instr.loadAt,Instr.sureAddr,loadVar,ha,load,Sem.run,hc]
theorem cM{d:TypeDesc}{b o:Nat}{cs:List Value}(hu:P.underlying t=some d)(hd:d.isRow=true)(hi:(P.info? t).map (·.size)=some cs.length)
  (hx:ev σ x= .pointer (some ⟨b,o,none⟩)) (hc:w.rangeAt b o cs):
  (execOp (ev σ) ⟨dst,.load t x,ty,pos,bK,g⟩).run P w= .ok (.value (.agg cs.toArray)) w:=by
 have:=run_loadAt_mid (P:=P) w b o t cs d hc hu hd hi
 simp only[execOp,hx,rK,this];rfl
theorem zi{b:Nat}{c:Array Value}{e:TypeId}{off:Nat}(hg:w.heap[b]?=some (.cells c e (0,0)))(vs:List Value)(hl:off+vs.length<=c.size)(h1:∀u∈vs,u.oneCell'=true):
  (storeCells ⟨b,off,none⟩ vs).run P w= .ok () (w.setRow b (c.toList.take off++vs++c.toList.drop (off+vs.length)).toArray):=by
 have:=Xr P b off e vs 0 c w hg (by simpa using hl) h1
 simpa using this
theorem bQ{b off:Nat}{c:Array Value}{e:TypeId}(hi:(P.info? t).map (·.size)=some 1)(hx:ev σ x= .pointer (some ⟨b,off,none⟩))(hy:ev σ y=v)(hv:v.cells=#[v])(h1:v.oneCell'=true)
  (hg:w.heap[b]?=some (.cells c e (0,0))) (ho:off<c.size):
  (execOp (ev σ) ⟨dst,.store t x y,ty,pos,bK,g⟩).run P w= .ok .skip (w.setRow b (c.setIfInBounds off v)):=by
 have hs:=zi (P:=P) (off:=off) hg [v] iP ES
 have e1:(c.toList.take off++[v]++c.toList.drop (off+1)).toArray=c.setIfInBounds off v:=by
  apply Rr
  simp[W5,ho]
 have hz:(sizeOf t).run P w= .ok 1 w:=by
  cases hq:P.info? t with
  |none=>simp[hq]at hi
  |some i=>simp[hq]at hi;simp[sizeOf,typeInfo,hq,hi]
 simp only[gN,e1]at hs
 simp[execOp,hx,hy,Instr.storeAt,Instr.sureAddr,storeVar,hv,hz,hs]
theorem dF{b:Nat}{c c':Array Value}{e:TypeId}(hi:(P.info? t).map (·.size)=some c'.size)(hx:ev σ x= .pointer (some ⟨b,0,none⟩))(hy:ev σ y= .agg c')(h1:∀u∈c',u.oneCell'=true)
  (hg:w.heap[b]?=some (.cells c e (0,0))) (ho:c'.size=c.size):
  (execOp (ev σ) ⟨dst,.store t x y,ty,pos,bK,g⟩).run P w= .ok .skip (w.setRow b c'):=by
 have hs:=zi (P:=P) (off:=0) hg c'.toList (by simp[ho]) ES
 have e1:(c.toList.take 0++c'.toList++c.toList.drop (0+c'.toList.length)).toArray=c':=by
  apply Rr
  simp[ho]
 have hz:(sizeOf t).run P w= .ok c'.size w:=by
  cases hq:P.info? t with
  |none=>simp[hq]at hi
  |some i=>simp[hq]at hi;simp[sizeOf,typeInfo,hq,hi]
 rw[e1]at hs
 simp[execOp,hx,hy,Instr.storeAt,Instr.sureAddr,storeVar,Value.cells,hz,hs]
theorem um{fn:Fn}{cs:List Operand}{vs:List Value}(h:cs.map (ev σ)=vs):(execOp (ev σ) ⟨dst,.makeFunc fn #[] cs.toArray,ty,pos,bK,g⟩).run P w= .ok (.value (.func fn #[] vs.toArray)) w:=by
 subst h;simp[execOp,Instr.makeFunc]
theorem xU{f:FuncId}{HU:List Operand}{ats:Array TypeId}{vs:List Value}(hf:∀args w,(callFunc f args).run P w= .ok (.enter f args) w)(h:HU.map (ev σ)=vs):
  (execOp (ev σ) ⟨dst,.call {callee:= .value (.func f),args:=HU.toArray,argTypes:=ats},ty,pos,bK,g⟩).run P w= .ok (.enter f vs.toArray) w:=by
 subst h
 simp[execOp,resolve,ev,Deferred.ofValue,invoke,hf]
theorem O7{x:Operand}{f:FuncId}{cap:Array Value}{HU:List Operand}{ats:Array TypeId}{vs:List Value}(hf:∀args w,(callFunc f args).run P w= .ok (.enter f args) w)
  (hx:ev σ x= .func (.func f) #[] cap) (h:HU.map (ev σ)=vs):
  (execOp (ev σ) ⟨dst,.call {callee:= .value x,args:=HU.toArray,argTypes:=ats},ty,pos,bK,g⟩).run P w= .ok (.enter f (vs.toArray++cap)) w:=by
 subst h
 simp[execOp,resolve,hx,Deferred.ofValue,invoke,hf]
theorem afE{e:TypeId}{a:Option Addr}{n c:Nat}{ats:Array TypeId}(ht:ats[0]?=some t)(hu:P.underlying t=some (.slice e))(hx:ev σ x=v)(hv:v= .slice a n c):
  (execOp (ev σ) ⟨dst,.call {callee:= .builtin .len,args:=#[x],argTypes:=ats},ty,pos,bK,g⟩).run P w= .ok (.value (I n)) w:=by
 subst hv
 simp[execOp,resolve,invoke,builtin,Builtin.len_,ht,hx,kr hu,goInt]
theorem FO{a b:Int}{ats:Array TypeId}(hx:ev σ x= .int .i64 a)(hy:ev σ y= .int .i64 b):
  (execOp (ev σ) ⟨dst,.call {callee:= .builtin .max,args:=#[x,y],argTypes:=ats},ty,pos,bK,g⟩).run P w= .ok (.value (.int .i64 (max a b))) w:=by
 have h:(if b>a then b else a)=max a b:=J
 simp[execOp,resolve,invoke,builtin,Builtin.max_,Builtin.max2,hx,hy,h]
theorem uP{a b:Int}{ats:Array TypeId}(hx:ev σ x= .int .i64 a)(hy:ev σ y= .int .i64 b):
  (execOp (ev σ) ⟨dst,.call {callee:= .builtin .min,args:=#[x,y],argTypes:=ats},ty,pos,bK,g⟩).run P w= .ok (.value (.int .i64 (min a b))) w:=by
 have h:(if b<a then b else a)=min a b:=J
 simp[execOp,resolve,invoke,builtin,Builtin.min_,Builtin.min2,hx,hy,h]
theorem kV{s:ByteArray}{ats:Array TypeId}(ht:ats[0]?=some t)(hu:P.underlying t=some .string)(hx:ev σ x= .string s):
  (execOp (ev σ) ⟨dst,.call {callee:= .builtin .len,args:=#[x],argTypes:=ats},ty,pos,bK,g⟩).run P w= .ok (.value (I s.size)) w:=by
 simp[execOp,resolve,invoke,builtin,Builtin.len_,ht,hx,kr hu,goInt]
theorem run_build{ps:List (Nat×Operand)}{vs:List (Nat×Value)}{cells:Array Value}(h:ps.map (fun p=>(p.1,ev σ p.2))=vs)(hb:P.built t vs=some cells):
  (execOp (ev σ) ⟨dst,.build t ps.toArray,ty,pos,bK,g⟩).run P w= .ok (.value (.agg cells)) w:=by
 subst h
 have:=Go.run_build (P:=P) w t ((ps.map (fun p=>(p.1,ev σ p.2))).toArray) cells hb
 simp[execOp,this]
theorem alA{e:TypeId}{len:Nat}{ps:List (Nat×Operand)}{vs:List (Nat×Value)}{cells:Array Value}{ie:TypeInfo}{z:Value}
  (hu:P.underlying t=some (.slice e)) (hie:P.info? e=some ie) (hz:ie.zero=some z) (hsmall:¬len*ie.size>2^24) (hpos:¬len*ie.size=0)
  (h:ps.map (fun p=>(p.1,ev σ p.2))=vs) (hc:Instr.fill (fun i=>some (i*ie.size,ie.size)) ((Array.range (len*ie.size)).map (z.cells[· %z.cells.size]!)) vs=some cells):
  (execOp (ev σ) ⟨dst,.buildSlice t len ps.toArray,ty,pos,bK,g⟩).run P w= .ok (.value (.slice (some ⟨w.heap.size,0,none⟩) len len)) (w.alloc (.cells cells e)):=by
 subst h
 have:=Go.run_buildSlice (P:=P) w t e len ((ps.map (fun p=>(p.1,ev σ p.2))).toArray) cells ie z hu hie hz hsmall hpos hc
 simp[execOp,this]
theorem TU(off:Nat):∀(cs:List Value) (j:Nat) (cur:List Value),off+j+cs.length<=cur.length->
  (cs.zipIdx j).foldl (fun(a:Array Value) (p:Value×Nat)=>a.setIfInBounds (off+p.2) p.1) cur.toArray=(cur.take (off+j)++cs++cur.drop (off+j+cs.length)).toArray
 |[],j,cur,h=>by simp
 |c::cs,j,cur,h=>by
  simp only[eR]at h
  simp only[List.zipIdx_cons,rA,m7]
  rw[TU off cs (j+1) (cur.set (off+j) c) iP]
  congr 1
  have h1:(cur.set (off+j) c).take (off+(j+1))=cur.take (off+j)++[c]:=by
   apply tj
   intro i
   simp only[uF,pD,List.getElem?_append,eP,show min (off+j) cur.length=off+j by omega]
   by_cases h1:i<off+j
   .rw[aS J,aR J,aS h1,aS h1]
   by_cases h2:i=off+j
   .subst h2;rw[aS (show off+j<off+(j+1)by omega),aS O,aS J,aR (Nat.lt_irrefl _)];simp
   rw[aR J,aR h1,ny iP]
  have h2:(cur.set (off+j) c).drop (off+(j+1)+cs.length)=cur.drop (off+j+(c::cs).length):=by
   rw[List.drop_set_of_lt J];congr 1;simp;omega
  rw[h1,h2];simp
theorem TV(sz:Nat):∀(vs:List Value) (k:Nat) (cur:List Value),cur.length=(k+vs.length)*sz->(∀v∈vs,v.cells.size=sz)->
  Instr.fill (fun i=>some (i*sz,sz)) cur.toArray ((vs.zipIdx k).map fun p=>(p.2,p.1))=some (cur.take (k*sz)++vs.flatMap (·.cells.toList)).toArray
 |[],k,cur,h,_=>by simp[Instr.fill,iV (show cur.length<=k*sz by simp at h;omega)]
 |v::vs,k,cur,h,hv=>by
  have hs:=hv v aF
  simp only[eR]at h
  have hm:(k+(vs.length+1))*sz=k*sz+sz+vs.length*sz:=by rw[kT,kT,Rp];omega
  simp only[List.zipIdx_cons,lB,Instr.fill,hs,Aq]
  rw[aR iP]
  have hf:v.cells.zipIdx.foldl (fun(a:Array Value) (p:Value×Nat)=>a.setIfInBounds (k*sz+p.2) p.1) cur.toArray=(cur.take (k*sz)++v.cells.toList++cur.drop (k*sz+sz)).toArray:=by
   rw[<-Array.foldl_toList,Array.toList_zipIdx]
   have:=TU (k*sz) v.cells.toList 0 cur (by simp[hs];omega)
   simpa[hs]using this
  have hf':v.cells.zipIdx.foldl (fun cs (x:Value×Nat)=>match x with|(c,j)=>cs.setIfInBounds (k*sz+j) c) cur.toArray=(cur.take (k*sz)++v.cells.toList++cur.drop (k*sz+sz)).toArray:=hf
  rw[hf',TV sz vs (k+1) _ (by simp[hs];rw[kT,kT];omega) (fun u hu=>hv u (by simp[hu]))]
  congr 2
  rw[show(k+1)*sz=k*sz+sz by rw[kT,Rp],QX (by simp[hs];omega)]
  rw[iV (by simp[hs];omega)]
  simp
theorem cA{e sz:TypeId}{len:Nat}{ps:List (Nat×Operand)}{vs:List Value}{ie:TypeInfo}{z:Value}
  (hu:P.underlying t=some (.slice e)) (hie:P.info? e=some ie) (hz:ie.zero=some z) (hsz:ie.size=sz) (hl:vs.length=len) (hsmall:¬len*sz>2^24) (hpos:¬len*sz=0)
  (h:ps.map (fun p=>(p.1,ev σ p.2))=(vs.zipIdx.map fun p=>(p.2,p.1))) (hc:vs.all (fun v=>v.cells.size==sz)=true):
  (execOp (ev σ) ⟨dst,.buildSlice t len ps.toArray,ty,pos,bK,g⟩).run P w= .ok (.value (.slice (some ⟨w.heap.size,0,none⟩) len len)) (w.alloc (.cells (vs.flatMap (·.cells.toList)).toArray e)):=by
 subst hsz
 subst hl
 refine alA hu hie hz hsmall hpos h ?_
 have hz':((Array.range (vs.length*ie.size)).map (z.cells[· %z.cells.size]!))=(((Array.range (vs.length*ie.size)).map (z.cells[· %z.cells.size]!)).toList).toArray:=(Array.toArray_toList ..).symm
 rw[hz']
 have:=TV ie.size vs 0 (((Array.range (vs.length*ie.size)).map (z.cells[· %z.cells.size]!)).toList) aF (fun v hv=>by simpa using iN.1 hc v hv)
 simpa using this
theorem HV{s i:Nat}{cs:Array Value}{fs:Array Field}{f:Field}(hu:P.underlying s=some (.struct fs))(hf:fs[i]?=some f)(ha:∀w,(isAgg f.type).run P w= .ok false w)
  (hx:ev σ x= .agg cs) (hv:cs[f.offset]?=some v):(execOp (ev σ) ⟨dst,.field s x i,ty,pos,bK,g⟩).run P w= .ok (.value v) w:=by
 simp[execOp,Instr.field,kr hu,hf,hx,asAgg,part,ha,hv]
theorem LB{e:TypeId}{len:Nat}{cs:Array Value}{k:IntKind}{i:Int}(hu:P.underlying t=some (.array len e))(ha:∀w,(isAgg e).run P w= .ok false w)(hs:∀w,(sizeOf e).run P w= .ok 1 w)
  (hx:ev σ x= .agg cs) (hy:ev σ y= .int k i) (hi:0<=i/\i<len) (hv:cs[i.toNat]?=some v):(execOp (ev σ) ⟨dst,.index t x y,ty,pos,bK,g⟩).run P w= .ok (.value v) w:=by
 simp[execOp,Instr.index,kr hu,hx,hy,asIntOf,part,ha,hs,hv,hi]
end mem
end runs
abbrev a7:=Sum (Nat×Obj) (Value×TypeId×Nat×Nat×List Value)
abbrev a7.blk(b:Nat)(o:Obj):a7:= .inl (b,o)
abbrev a7.row(v:Value)(e:TypeId)(sz n:Nat)(xs:List Value):a7:= .inr (v,e,sz,n,xs)
def a7.rO:a7->Option Nat
 | .inl (b,_)=>some b
 | .inr (v,_)=>v.ownBlock
def a7.ok(base:Nat)(w:World):a7->Prop
 | .inl (b,o)=>base<=b/\w.heap[b]?=some o
 | .inr (v,e,sz,n,xs)=>w.ownsRow base e sz v n xs
structure Hp(w0 w:World)(L:List a7):Prop where
 below:Below w0.heap.size w0 w
 ok:∀x∈L,x.ok w0.heap.size w
 LC:L.Pairwise fun x y=>x.rO=none\/x.rO≠y.rO
theorem a7.Ji{base:Nat}{w:World}{x:a7}(h:x.ok base w):∀b,x.rO=some b->base<=b/\b<w.heap.size:=by
 intro b hb
 rcases x with⟨c,o⟩|⟨v,e,sz,n,xs⟩
 .simp only[a7.rO,Xq]at hb;subst hb
  exact⟨h.1,(BA.1 h.2).1⟩
 exact World.ownsRow.lt h b hb
theorem a7.C7{base:Nat}{w w':World}{x:a7}(h:x.ok base w)(hb:∀b,x.rO=some b->w'.heap[b]?=w.heap[b]?):x.ok base w':=by
 rcases x with⟨c,o⟩|⟨v,e,sz,n,xs⟩
 .exact⟨h.1,(hb c O).trans h.2⟩
 refine⟨h.1,?_⟩
 rcases h.2 with hn|⟨gb,cap,cur,rfl,h1,h2,rest⟩
 .exact .inl hn
 exact .inr ⟨gb,cap,cur,rfl,h1,(hb gb O).trans h2,rest⟩
section hp
variable{w0 w w':World}{L:List a7}
theorem Hp.start(w:World):Hp w w []:=⟨Below.refl _ _,fun _ h=>oO,List.Pairwise.nil⟩
theorem Hp.size(h:Hp w0 w L):w0.heap.size<=w.heap.size:=h.below.size
theorem Hp.drew(h:Hp w0 w L):Hp w0 w.drew L:=⟨h.below.drew,fun x hx=>a7.C7 (h.ok x hx) fun _ _=>rfl,h.LC⟩
theorem Hp.call(h:Hp w0 w L)(hb:Below w.heap.size w w'):Hp w0 w' L:=
 ⟨h.below.trans (hb.mono h.size),fun x hx=>a7.C7 (h.ok x hx) fun b hf=>hb.block b (a7.Ji (h.ok x hx) b hf).2,h.LC⟩
theorem Hp.alloc(h:Hp w0 w L)(o:Obj):Hp w0 (w.alloc o) (.blk w.heap.size o::L):=by
 refine⟨h.below.alloc h.size o,fun x hx=> ?_,?_⟩
 .rcases cQ.1 hx with rfl|hx
  .exact⟨h.size,heap_alloc_new w o⟩
  exact a7.C7 (h.ok x hx) fun b hf=>Below.heap_alloc w o b (a7.Ji (h.ok x hx) b hf).2
 refine List.Pairwise.cons (fun y hy=> ?_) h.LC
 right
 intro he
 have:=(a7.Ji (h.ok y hy) w.heap.size he.symm).2
 omega
theorem Hp.C8{v:Value}{e:TypeId}{sz n:Nat}{xs:List Value}(h:Hp w0 w L)(hb:Below w.heap.size w w')(hr:w'.ownsRow w.heap.size e sz v n xs):Hp w0 w' (.row v e sz n xs::L):=by
 have h':=h.call hb
 refine⟨h'.below,fun x hx=> ?_,List.Pairwise.cons (fun y hy=> ?_) h.LC⟩
 .rcases cQ.1 hx with rfl|hx
  .refine⟨hr.1,?_⟩
   rcases hr.2 with hn|⟨gb,cap,cur,rfl,h1,rest⟩
   .exact .inl hn
   exact .inr ⟨gb,cap,cur,rfl,kM h.size h1,rest⟩
  exact h'.ok x hx
 .cases hv:v.ownBlock with
  |none=>left;exact hv
  |some b=>
   right
   intro he
   have h1:=(hr.lt b hv).1
   have h2:=(a7.Ji (h.ok y hy) b (by rw[<-he];exact hv)).2
   omega
theorem Hp.fx(h:Hp w0 w L)(e:TypeId)(sz:Nat):Hp w0 w (.row (.slice none 0 0) e sz 0 []::L):=
 ⟨h.below,fun x hx=>by
  rcases cQ.1 hx with rfl|hx
  .exact World.ownsRow_nil w _ e sz
  exact h.ok x hx,List.Pairwise.cons (fun y hy=> .inl O) h.LC⟩
theorem Hp.tail{x:a7}(h:Hp w0 w (x::L)):Hp w0 w L:=⟨h.below,fun y hy=>h.ok y (fC _ hy),h.LC.tail⟩
theorem Hp.sub{L':List a7}(h:Hp w0 w L)(hs:L'.Sublist L):Hp w0 w L':=⟨h.below,fun y hy=>h.ok y (hs.subset hy),h.LC.sublist hs⟩
theorem Hp.blk{i b:Nat}{o:Obj}(h:Hp w0 w L)(hi:L[i]?=some (.blk b o)):w.heap[b]?=some o:=(h.ok _ (lz hi)).2
theorem Hp.cell{i b off:Nat}{c:Array Value}{e:TypeId}{fr:Nat×Nat}{v:Value}(h:Hp w0 w L)(hi:L[i]?=some (.blk b (.cells c e fr)))(hc:c[off]?=some v):w.cell? ⟨b,off,none⟩=some v:=by
 rw[xf w b off c e fr (h.blk hi)];exact hc
theorem Hp.range{i b off:Nat}{c:Array Value}{e:TypeId}{fr:Nat×Nat}{cs:List Value}(h:Hp w0 w L)(hi:L[i]?=some (.blk b (.cells c e fr)))(hc:∀j v,cs[j]?=some v->c[off+j]?=some v):w.rangeAt b off cs:=
 fun j v hv=>h.cell hi (hc j v hv)
theorem B0{i:Nat}{x x':a7}(hi:L[i]?=some x)(hf:x'.rO=x.rO)(hd:L.Pairwise fun x y=>x.rO=none\/x.rO≠y.rO):(L.set i x').Pairwise fun x y=>x.rO=none\/x.rO≠y.rO:=by
 have hm:(L.set i x').map a7.rO=L.map a7.rO:=by
  rw[List.map_set,hf]
  apply tj
  intro j
  rw[pD]
  split
  .rename_i hij;subst hij
   simp[hi]
   exact(m8.1 hi).1
  rfl
 have h1:(L.map a7.rO).Pairwise fun x y=>x=none\/x≠y:=Hv.2 hd
 rw[<-hm]at h1
 exact Hv.1 h1
theorem Hp.set{i b:Nat}{c c':Array Value}{e:TypeId}(h:Hp w0 w L)(hi:L[i]?=some (.blk b (.cells c e (0,0)))):Hp w0 (w.setRow b c') (L.set i (.blk b (.cells c' e (0,0)))):=by
 have hx:=h.ok _ (lz hi)
 have hil:=(m8.1 hi).1
 refine⟨below_setRow h.below hx.1 c',fun y hy=> ?_,B0 hi O h.LC⟩
 obtain⟨j,hj,ET⟩:=yM.1 hy
 rw[yP]at ET
 split at ET
 .subst ET
  exact⟨hx.1,setRow_heap w b c c' e (0,0) hx.2⟩
 rename_i hne
 have hjL:j<L.length:=by simpa using hj
 have hyL:y∈L:=ET▸nM hjL
 refine a7.C7 (h.ok y hyL) fun bb hf=>setRow_other w b bb c' fun JL=> ?_
 subst JL
 have hp:=QY.1 h.LC
 have hLi:L[i]= .blk bb (.cells c e (0,0)):=(m8.1 hi).2
 rcases Xm hne with hlt|hgt
 .rcases hp i j hil hjL hlt with h0|h0
  .rw[hLi]at h0;cases h0
  rw[hLi,ET,hf]at h0;exact h0 O
 rcases hp j i hjL hil hgt with h0|h0
 .rw[ET,hf]at h0;cases h0
 rw[hLi,ET,hf]at h0;exact h0 O
theorem Hp.get{i:Nat}{x:a7}(h:Hp w0 w L)(hi:L[i]?=some x):x.ok w0.heap.size w:=h.ok _ (lz hi)
end hp
def sb:Value->Nat
 | .slice (some a) _ _=>a.block
 |_=>0
def so:Value->Nat
 | .slice (some a) _ _=>a.off
 |_=>0
structure Sl(w:World)(v:Value)(sz n:Nat)(cells:List Value):Prop where
 shape:∃a cap,v= .slice a n cap/\n<=cap/\(0<n->a=some ⟨sb v,so v,none⟩)
 len:cells.length=n*sz
 cell:∀j c,cells[j]?=some c->w.cell? ⟨sb v,so v+j,none⟩=some c
 small:n<=maxLen
section sl
variable{P:Program}{w0 w w':World}{L:List a7}{v:Value}{sz n:Nat}{cells:List Value}
theorem Sl.nil(w:World)(sz:Nat):Sl w (.slice none 0 0) sz 0 []:=⟨⟨none,0,rfl,er _,fun h=>J⟩,aF,fun j c h=>by simp at h,kU⟩
theorem Sl.below(h:Sl w v sz n cells)(hb:Below w.heap.size w w'):Sl w' v sz n cells:=
 ⟨h.shape,h.len,fun j c hc=>by
  have h1:=h.cell j c hc
  rw[hb.cell (World.block_lt_of_cell? w _ h1)];exact h1,h.small⟩
theorem Sl.hp(h:Sl w0 v sz n cells)(hp:Hp w0 w L):Sl w v sz n cells:=h.below hp.below
theorem Sl.RN{base:Nat}{e:TypeId}(h:w.ownsRow base e sz v n cells):Sl w v sz n cells:=by
 obtain⟨h1,h2⟩:=h
 rcases h2 with⟨rfl,rfl⟩|⟨gb,cap,cur,rfl,hb,hg,hn,hm,hs,ht⟩
 .have:cells=[]:=yJ ES
  subst this;exact Sl.nil w sz
 refine⟨⟨_,cap,rfl,hn,fun _=>rfl⟩,h1,fun j c hc=> ?_,kM hn hm⟩
 simp only[sb,so,ia]
 rw[xf w _ _ cur e (0,0) hg]
 rw[<-ht,uF]at hc
 split at hc
 .simpa using hc
 .cases hc
theorem Hp.sl{i:Nat}{e:TypeId}(h:Hp w0 w L)(hi:L[i]?=some (.row v e sz n cells)):Sl w v sz n cells:=Sl.RN (h.get hi)
theorem Hp.dV{i b:Nat}{c:Array Value}{e:TypeId}(h:Hp w0 w L)(hi:L[i]?=some (.blk b (.cells c e (0,0))))(hl:c.size=n*sz)(hs:n<=maxLen):Sl w (.slice (some ⟨b,0,none⟩) n n) sz n c.toList:=
 ⟨⟨_,n,rfl,er _,fun _=>rfl⟩,by simpa using hl,fun j u hu=>by
  simp only[sb,so,ia]
  exact h.cell hi qy,hs⟩
section ops
variable{σ:Env}{dst:Option Tmp}{ty t:TypeId}{pos:String}{bK:Array Edge}{g:Option (Nat×Bool)}{x y:Operand}
theorem ah{e:TypeId}{k:IntKind}{i:Int}(hS:Sl w v sz n cells)(hu:P.underlying t=some (.slice e))(hs:∀w,(sizeOf e).run P w= .ok sz w)
  (hx:ev σ x=v) (hy:ev σ y= .int k i) (hi:0<=i/\i<n):
  (execOp (ev σ) ⟨dst,.indexAddr t x y,ty,pos,bK,g⟩).run P w= .ok (.value (.pointer (some ⟨sb v,so v+i.toNat*sz,none⟩))) w:=by
 obtain⟨a,cap,hv,hnc,ha⟩:=hS.shape
 have ha':=ha J
 have hx':ev σ x= .slice (some ⟨sb v,so v,none⟩) n cap:=by rw[hx,hv,<-hv];rw[<-ha'];exact hv
 simp[execOp,Instr.indexAt,kr hu,hx',hy,asIntOf,hi,hs,HB]
theorem aA{e:TypeId}{ats:Array TypeId}(hS:Sl w v sz n cells)(ht:ats[0]?=some t)(hu:P.underlying t=some (.slice e))(hx:ev σ x=v):
  (execOp (ev σ) ⟨dst,.call {callee:= .builtin .len,args:=#[x],argTypes:=ats},ty,pos,bK,g⟩).run P w= .ok (.value (I n)) w:=by
 obtain⟨a,cap,hv,hnc,ha⟩:=hS.shape
 exact afE ht hu hx hv
end ops
end sl
section aCP
variable{P:Program}{n:Nat}{ops:Array Oper}{k:K}{rest:List Oper}{σ:Env}{w0 w:World}{L:List a7}{op:Op}{ty:TypeId}{pos:String}{bK:Array Edge}{d:Nat}
theorem Yf{o:Obj}(hd:Nat.blt d n=true)(hH:Hp w0 w L){f:Nat->Value}(hr:(execOp (ev σ) ⟨some d,op,ty,pos,bK,none⟩).run P w= .ok (.value (f w.heap.size)) (w.alloc o))
  (hk:∀b w',Hp w0 w' (.blk b o::L)->RL P n ops k rest (lG σ d (f b)) w'):RL P n ops k (⟨some d,op,ty,pos,bK,none⟩::rest) σ w:=
 oP hd hr (hk _ _ (hH.alloc o))
theorem bt{i b:Nat}{c c':Array Value}{e:TypeId}(hH:Hp w0 w L)(hi:L[i]?=some (.blk b (.cells c e (0,0))))
  (hr:(execOp (ev σ) ⟨none,op,ty,pos,bK,none⟩).run P w= .ok .skip (w.setRow b c'))
  (hk:∀w',Hp w0 w' (L.set i (.blk b (.cells c' e (0,0))))->RL P n ops k rest σ w'):RL P n ops k (⟨none,op,ty,pos,bK,none⟩::rest) σ w:=
 Lv hr (hk _ (hH.set hi))
def Pure(v:Value)(w:World):Ending->World->Prop:=jj fun u w'=>u=v/\Below w.heap.size w w'
def qB(e:TypeId)(sz m:Nat)(xs:List Value)(w:World):Ending->World->Prop:=jj fun v w'=>w'.ownsRow w.heap.size e sz v m xs/\Below w.heap.size w w'
theorem aG{f:FuncId}{args:Array Value}{v:Value}(hd:Nat.blt d n=true)(hH:Hp w0 w L)(hc:Calls P f args w (Pure v w))
  (hr:(execOp (ev σ) ⟨some d,op,ty,pos,bK,none⟩).run P w= .ok (.enter f args) w)
  (hk:∀w',Hp w0 w' L->RL P n ops k rest (lG σ d v) w'):RL P n ops k (⟨some d,op,ty,pos,bK,none⟩::rest) σ w:=
 HS hd hr hc fun u w' ⟨hu,hb⟩=>by subst hu;exact hk w' (hH.call hb)
theorem B3{f:FuncId}{args:Array Value}{e:TypeId}{sz m:Nat}{xs:List Value}(hd:Nat.blt d n=true)(hH:Hp w0 w L)(hc:Calls P f args w (qB e sz m xs w))
  (hr:(execOp (ev σ) ⟨some d,op,ty,pos,bK,none⟩).run P w= .ok (.enter f args) w)
  (hk:∀v w',Hp w0 w' (.row v e sz m xs::L)->RL P n ops k rest (lG σ d v) w'):RL P n ops k (⟨some d,op,ty,pos,bK,none⟩::rest) σ w:=
 HS hd hr hc fun u w' ⟨hu,hb⟩=>hk u w' (hH.C8 hb hu)
end aCP
def AN(P:Program)(n:Nat)(l:List Oper)(S:World->Prop)(k:K)(fuel:Nat)(listed:Array Bool)(σ:Env)(w:World):Prop:=
 ∀a,Is n σ a->wpAnyH P .any l.toArray (rB n k) S fuel listed a w
section afH
variable{P:Program}{n:Nat}{l:List Oper}{S:World->Prop}{k:K}{xs:List (Nat×K)}{r:K}{σ:Env}{w w0:World}{L:List a7}{fuel i d:Nat}{listed:Array Bool}{op:Op}{ty:TypeId}{pos:String}{bK:Array Edge}{g:Option (Nat×Bool)}{v:Value}{dst:Option Tmp}
theorem ed{id:Nat}(hm:P.follows .mixedOrders=true)(hH:Hp w0 w L)
  (h:∀w',Hp w0 w' L->AN P n l (fun w=>Hp w0 w L) k l.length (Array.replicate l.length false) σ w'):CW P n (.region id l.toArray true) k xs r σ w:=by
 intro a ha
 refine yT (fun e a' w' hq=> ?_) (XI (id:=id) (Q:=rB n k) hm (XJ (S:=fun w=>Hp w0 w L) _ _ _ _ ?_))
 .cases e with
  |normal=>exact hq
  |exit id=>exact hq.elim
  |ret=>exact hq.elim
  |goto l=>exact hq.elim
  |panic c=>exact hq.elim
  |outgrown=>exact hq.elim
 have:=h _ hH.drew a ha
 simpa using this
theorem avX(hr:Region.ready .any l.toArray listed=[])(h:k σ w):AN P n l S k fuel listed σ w:=by
 intro a ha
 cases fuel with
 |zero=>exact⟨hr,σ,ha,h⟩
 |succ f=>exact⟨fun _=>⟨σ,ha,h⟩,fun i hi=>by rw[hr]at hi;cases hi⟩
theorem afI(i:Nat)(hi:l[i]?=some ⟨some d,op,ty,pos,bK,none⟩)(hd:Nat.blt d n=true)(hs:Region.noSelect l.toArray=true)(hf:Region.free .any l.toArray listed i=true)
  (hr:(Region.ready .any l.toArray listed).contains i=true) (hS:S w) (hy:∀w,S w->(execOp (ev σ) ⟨some d,op,ty,pos,bK,none⟩).run P w= .ok (.value v) w)
  (h:AN P n l S k fuel (listed.setIfInBounds i true) (lG σ d v) w):AN P n l S k (fuel+1) listed σ w:=by
 intro a ha
 refine Rq (i:=i) (oi:=⟨some d,op,ty,pos,bK,none⟩) (v:=v) zg hs hf hr (fun c a w hq=>hq.elim) (.inl ⟨rfl,fun w hw=> ?_⟩) hS (h _ (ha.put hd v))
 rw[ha.eval];exact hy w hw
theorem aqW(i:Nat){j dj:Nat}{want:Bool}(hi:l[i]?=some ⟨some d,op,ty,pos,bK,some (j,want)⟩)(hj:(l[j]?).bind (·.dst)=some dj)(hb:σ dj= .bool want)(hd:Nat.blt d n=true)
  (hs:Region.noSelect l.toArray=true) (hf:Region.free .any l.toArray listed i=true)
  (hr:(Region.ready .any l.toArray listed).contains i=true) (hS:S w) (hy:∀w,S w->(execOp (ev σ) ⟨some d,op,ty,pos,bK,some (j,want)⟩).run P w= .ok (.value v) w)
  (h:AN P n l S k fuel (listed.setIfInBounds i true) (lG σ d v) w):AN P n l S k (fuel+1) listed σ w:=by
 intro a ha
 refine Rq (i:=i) (oi:=⟨some d,op,ty,pos,bK,some (j,want)⟩) (v:=v) zg hs hf hr (fun c a w hq=>hq.elim)
  (.inl ⟨by rw[HT ha (by simpa using hj) hb];simp,fun w hw=> ?_⟩) hS (h _ (ha.put hd v))
 rw[ha.eval];exact hy w hw
theorem avY(i:Nat){j dj:Nat}{b want:Bool}(hi:l[i]?=some ⟨some d,op,ty,pos,bK,some (j,want)⟩)(hj:(l[j]?).bind (·.dst)=some dj)(hb:σ dj= .bool b)(hne:(b==want)=false)(hd:Nat.blt d n=true)
  (hs:Region.noSelect l.toArray=true) (hf:Region.free .any l.toArray listed i=true)
  (hr:(Region.ready .any l.toArray listed).contains i=true) (hS:S w)
  (h:AN P n l S k fuel (listed.setIfInBounds i true) (lG σ d undef) w):AN P n l S k (fuel+1) listed σ w:=by
 intro a ha
 exact Rq (i:=i) (oi:=⟨some d,op,ty,pos,bK,some (j,want)⟩) (v:=undef) zg hs hf hr (fun c a w hq=>hq.elim)
  (.inr ⟨by rw[HT ha (by simpa using hj) hb];exact hne,rfl⟩) hS (h _ (ha.put hd undef))
theorem avZ(i:Nat){j dj:Nat}{want:Bool}(hi:l[i]?=some ⟨some d,op,ty,pos,bK,some (j,want)⟩)(hj:(l[j]?).bind (·.dst)=some dj)(hu:σ dj=undef)(hd:Nat.blt d n=true)
  (hs:Region.noSelect l.toArray=true) (hf:Region.free .any l.toArray listed i=true)
  (hr:(Region.ready .any l.toArray listed).contains i=true) (hS:S w)
  (h:AN P n l S k fuel (listed.setIfInBounds i true) (lG σ d undef) w):AN P n l S k (fuel+1) listed σ w:=by
 intro a ha
 exact Rq (i:=i) (oi:=⟨some d,op,ty,pos,bK,some (j,want)⟩) (v:=undef) zg hs hf hr (fun c a w hq=>hq.elim)
  (.inr ⟨FM ha (by simpa using hj) hu _,rfl⟩) hS (h _ (ha.put hd undef))
def AO(P:Program)(n:Nat)(l:List Oper)(S:World->Prop)(k:K)(fuel:Nat)(listed:Array Bool)(σ:Env)(w:World)(i:Nat):Prop:=
 ∀a,Is n σ a->wpOp P l.toArray (rB n k) i (fun a' w'=>S w'/\wpAnyH P .any l.toArray (rB n k) S fuel (listed.setIfInBounds i true) a' w') a w
theorem afJ(rs:List Nat)(hr:Region.ready .any l.toArray listed=rs)(hne:rs.isEmpty=false)(h:∀i∈rs,AO P n l S k fuel listed σ w i):AN P n l S k (fuel+1) listed σ w:=by
 intro a ha
 exact wpAnyH_all hr (by intro h0;simp[h0]at hne) fun i hi=>h i hi a ha
theorem av0(i:Nat)(hr:Region.ready .any l.toArray listed=[i])(h:AO P n l S k fuel listed σ w i):AN P n l S k (fuel+1) listed σ w:=by simp_all[afJ]
theorem Yg{o:Oper}(hi:l[i]?=some o)(hw:∀a,Is n σ a->Region.wanted o (yielded l.toArray a.tmps)=true)
  (h:∀a,Is n σ a->o.upon P a (fun a' w'=>S w'/\wpAnyH P .any l.toArray (rB n k) S fuel (listed.setIfInBounds i true) a' w') (rB n k) ((execOp (ev σ) o).run P w)):AO P n l S k fuel listed σ w i:=by
 intro a ha
 have hi':l.toArray[i]?=some o:=zg
 unfold wpOp
 simp only[hi',hw a ha,uL]
 refine .inl ?_
 unfold Oper.wp
 rw[ha.eval]
 exact h a ha
theorem B4{w':World}(hi:l[i]?=some ⟨some d,op,ty,pos,bK,g⟩)(hg:∀a,Is n σ a->Region.wanted ⟨some d,op,ty,pos,bK,g⟩ (yielded l.toArray a.tmps)=true)(hd:Nat.blt d n=true)
  (hr:(execOp (ev σ) ⟨some d,op,ty,pos,bK,g⟩).run P w= .ok (.value v) w') (hS:S w') (h:AN P n l S k fuel (listed.setIfInBounds i true) (lG σ d v) w'):AO P n l S k fuel listed σ w i:=
 Yg hi hg fun a ha=>by rw[hr];exact⟨hS,h _ (ha.put hd v)⟩
theorem LD{w':World}(hi:l[i]?=some ⟨none,op,ty,pos,bK,g⟩)(hg:∀a,Is n σ a->Region.wanted ⟨none,op,ty,pos,bK,g⟩ (yielded l.toArray a.tmps)=true)
  (hr:(execOp (ev σ) ⟨none,op,ty,pos,bK,g⟩).run P w= .ok .skip w') (hS:S w') (h:AN P n l S k fuel (listed.setIfInBounds i true) σ w'):AO P n l S k fuel listed σ w i:=
 Yg hi hg fun a ha=>by rw[hr];exact⟨hS,h _ ha⟩
theorem RO{f:FuncId}{args:Array Value}{q:Value->World->Prop}(hi:l[i]?=some ⟨some d,op,ty,pos,bK,g⟩)(hg:∀a,Is n σ a->Region.wanted ⟨some d,op,ty,pos,bK,g⟩ (yielded l.toArray a.tmps)=true)(hd:Nat.blt d n=true)
  (hc:Calls P f args w (jj q)) (hr:(execOp (ev σ) ⟨some d,op,ty,pos,bK,g⟩).run P w= .ok (.enter f args) w)
  (h:∀v w',q v w'->S w'/\AN P n l S k fuel (listed.setIfInBounds i true) (lG σ d v) w'):AO P n l S k fuel listed σ w i:=
 Yg hi hg fun a ha=>by
  rw[hr]
  refine hc.mono fun e w' hq=> ?_
  cases e with
  |returned v=>exact⟨(h v w' hq).1,(h v w' hq).2 _ (ha.put hd v)⟩
  |panicked c=>exact hq.elim
  |outgrown=>exact hq.elim
theorem aH(a:Act)(_:Is n σ a):Region.wanted ⟨dst,op,ty,pos,bK,none⟩ (yielded l.toArray a.tmps)=true:=rfl
theorem Aw{j dj:Nat}{want:Bool}(hj:(l[j]?).bind (·.dst)=some dj)(hb:σ dj= .bool want)(a:Act)(ha:Is n σ a):Region.wanted ⟨dst,op,ty,pos,bK,some (j,want)⟩ (yielded l.toArray a.tmps)=true:=by grind[HT]
theorem cK{L':List a7}{o:Obj}{f:Nat->Value}(hi:l[i]?=some ⟨some d,op,ty,pos,bK,g⟩)(hg:∀a,Is n σ a->Region.wanted ⟨some d,op,ty,pos,bK,g⟩ (yielded l.toArray a.tmps)=true)(hd:Nat.blt d n=true)
  (hH:Hp w0 w L') (hs:L.Sublist L') (hr:(execOp (ev σ) ⟨some d,op,ty,pos,bK,g⟩).run P w= .ok (.value (f w.heap.size)) (w.alloc o))
  (h:∀b w',Hp w0 w' (.blk b o::L')->AN P n l (fun w=>Hp w0 w L) k fuel (listed.setIfInBounds i true) (lG σ d (f b)) w'):AO P n l (fun w=>Hp w0 w L) k fuel listed σ w i:=
 B4 hi hg hd hr ((hH.alloc o).sub (hs.cons _)) (h _ _ (hH.alloc o))
theorem bX{L':List a7}{f:FuncId}{args:Array Value}(hi:l[i]?=some ⟨some d,op,ty,pos,bK,g⟩)(hg:∀a,Is n σ a->Region.wanted ⟨some d,op,ty,pos,bK,g⟩ (yielded l.toArray a.tmps)=true)(hd:Nat.blt d n=true)
  (hH:Hp w0 w L') (hs:L.Sublist L') (hc:Calls P f args w (Pure v w)) (hr:(execOp (ev σ) ⟨some d,op,ty,pos,bK,g⟩).run P w= .ok (.enter f args) w)
  (h:∀w',Hp w0 w' L'->AN P n l (fun w=>Hp w0 w L) k fuel (listed.setIfInBounds i true) (lG σ d v) w'):AO P n l (fun w=>Hp w0 w L) k fuel listed σ w i:=
 RO hi hg hd hc hr fun u w' ⟨hu,hb⟩=>by subst hu;exact⟨(hH.call hb).sub hs,h w' (hH.call hb)⟩
theorem HW{L':List a7}{f:FuncId}{args:Array Value}{e:TypeId}{sz m:Nat}{ys:List Value}(hi:l[i]?=some ⟨some d,op,ty,pos,bK,g⟩)(hg:∀a,Is n σ a->Region.wanted ⟨some d,op,ty,pos,bK,g⟩ (yielded l.toArray a.tmps)=true)(hd:Nat.blt d n=true)
  (hH:Hp w0 w L') (hs:L.Sublist L') (hc:Calls P f args w (qB e sz m ys w)) (hr:(execOp (ev σ) ⟨some d,op,ty,pos,bK,g⟩).run P w= .ok (.enter f args) w)
  (h:∀u w',Hp w0 w' (.row u e sz m ys::L')->AN P n l (fun w=>Hp w0 w L) k fuel (listed.setIfInBounds i true) (lG σ d u) w'):AO P n l (fun w=>Hp w0 w L) k fuel listed σ w i:=
 RO hi hg hd hc hr fun u w' ⟨hu,hb⟩=>⟨(hH.call hb).sub hs,h u w' (hH.C8 hb hu)⟩
end afH
def Fr(ws:List Nat)(σ σ':Env):Prop:=∀i,ws.contains i=false->σ' i=σ i
theorem Fr.refl(ws:List Nat)(σ:Env):Fr ws σ σ:=fun _ _=>rfl
theorem Fr.u{ws:List Nat}{σ σ':Env}{d:Nat}{v:Value}(h:Fr ws σ σ')(hd:ws.contains d=true):Fr ws σ (lG σ' d v):=fun i hi=>by
 rw[Yb];exact h i hi
 intro e;subst e;rw[hd]at hi;cases hi
theorem Fr.t{ws ws2:List Nat}{σ σ' av1:Env}(h:Fr ws σ σ')(h2:Fr ws2 σ' av1)(hs:ws2.all (ws.contains ·)=true):Fr ws σ av1:=fun i hi=>by
 rw[h2 i,h i hi]
 cases hc:ws2.contains i with
 |false=>rfl
 |true=>
  have:=iN.1 hs i (by simpa using hc)
  rw[hi]at this;cases this
section short
variable{P:Program}{n:Nat}{ops:Array Oper}{k:K}{xs:List (Nat×K)}{r:K}{rest l:List Oper}{σ:Env}{w:World}{b:Bool}{p:Prop}{v:Value}
theorem bT[Decidable p](h:p):Value.bool (decide p)= .bool true:=by grind
theorem bF[Decidable p](h:¬p):Value.bool (decide p)= .bool false:=by grind
theorem bR{c:Bool}(h:b=c):Value.bool b= .bool c:=aJ Value.bool h
theorem aCR{dj:Nat}(hb:σ dj= .bool b)(ht:b=true->RL P n ops k l σ w)(hf:b=false->RL P n ops k l σ w):RL P n ops k l σ w:=by grind
theorem aCS[Decidable p]{dj:Nat}(hb:σ dj= .bool (decide p))(ht:p->RL P n ops k l σ w)(hf:¬p->RL P n ops k l σ w):RL P n ops k l σ w:=by grind
theorem Jj{S:World->Prop}{fuel:Nat}{listed:Array Bool}{dj:Nat}(hb:σ dj= .bool b)(ht:b=true->AN P n l S k fuel listed σ w)(hf:b=false->AN P n l S k fuel listed σ w):AN P n l S k fuel listed σ w:=by grind
theorem B5{S:World->Prop}{fuel:Nat}{listed:Array Bool}[Decidable p]{dj:Nat}(hb:σ dj= .bool (decide p))(ht:p->AN P n l S k fuel listed σ w)(hf:¬p->AN P n l S k fuel listed σ w):AN P n l S k fuel listed σ w:=by grind
variable{dst:Option Tmp}{ty:TypeId}{pos:String}{bK:Array Edge}{g:Option (Nat×Bool)}{f:FuncId}{ats:Array TypeId}{x1 x2 x3 x4 x5 x6 x:Operand}{v1 v2 v3 v4 v5 v6:Value}{cap:Array Value}
theorem C9(hf:∀args w,(callFunc f args).run P w= .ok (.enter f args) w):
 (execOp (ev σ) ⟨dst,.call {callee:= .value (.func f),args:=#[],argTypes:=ats},ty,pos,bK,g⟩).run P w= .ok (.enter f #[]) w:=xU (HU:=[]) hf O
theorem an(hf:∀args w,(callFunc f args).run P w= .ok (.enter f args) w)(h1:ev σ x1=v1):
 (execOp (ev σ) ⟨dst,.call {callee:= .value (.func f),args:=#[x1],argTypes:=ats},ty,pos,bK,g⟩).run P w= .ok (.enter f #[v1]) w:=by grind[xU]
theorem aN(hf:∀args w,(callFunc f args).run P w= .ok (.enter f args) w)(h1:ev σ x1=v1)(h2:ev σ x2=v2):
 (execOp (ev σ) ⟨dst,.call {callee:= .value (.func f),args:=#[x1,x2],argTypes:=ats},ty,pos,bK,g⟩).run P w= .ok (.enter f #[v1,v2]) w:=by grind[xU]
theorem bB(hf:∀args w,(callFunc f args).run P w= .ok (.enter f args) w)(h1:ev σ x1=v1)(h2:ev σ x2=v2)(h3:ev σ x3=v3):
 (execOp (ev σ) ⟨dst,.call {callee:= .value (.func f),args:=#[x1,x2,x3],argTypes:=ats},ty,pos,bK,g⟩).run P w= .ok (.enter f #[v1,v2,v3]) w:=by grind[xU]
theorem jm(hf:∀args w,(callFunc f args).run P w= .ok (.enter f args) w)(h1:ev σ x1=v1)(h2:ev σ x2=v2)(h3:ev σ x3=v3)(h4:ev σ x4=v4):
 (execOp (ev σ) ⟨dst,.call {callee:= .value (.func f),args:=#[x1,x2,x3,x4],argTypes:=ats},ty,pos,bK,g⟩).run P w= .ok (.enter f #[v1,v2,v3,v4]) w:=by grind[xU]
theorem rP(hf:∀args w,(callFunc f args).run P w= .ok (.enter f args) w)(h1:ev σ x1=v1)(h2:ev σ x2=v2)(h3:ev σ x3=v3)(h4:ev σ x4=v4)(h5:ev σ x5=v5):
 (execOp (ev σ) ⟨dst,.call {callee:= .value (.func f),args:=#[x1,x2,x3,x4,x5],argTypes:=ats},ty,pos,bK,g⟩).run P w= .ok (.enter f #[v1,v2,v3,v4,v5]) w:=by grind[xU]
theorem Yh(hf:∀args w,(callFunc f args).run P w= .ok (.enter f args) w)(hx:ev σ x= .func (.func f) #[] cap)(h1:ev σ x1=v1):
 (execOp (ev σ) ⟨dst,.call {callee:= .value x,args:=#[x1],argTypes:=ats},ty,pos,bK,g⟩).run P w= .ok (.enter f (#[v1]++cap)) w:=by grind[O7]
theorem xV{fn:Fn}(h1:ev σ x1=v1):(execOp (ev σ) ⟨dst,.makeFunc fn #[] #[x1],ty,pos,bK,g⟩).run P w= .ok (.value (.func fn #[] #[v1])) w:=by grind[um]
theorem nV{fn:Fn}(h1:ev σ x1=v1)(h2:ev σ x2=v2):(execOp (ev σ) ⟨dst,.makeFunc fn #[] #[x1,x2],ty,pos,bK,g⟩).run P w= .ok (.value (.func fn #[] #[v1,v2])) w:=by grind[um]
theorem LF{fn:Fn}(h1:ev σ x1=v1)(h2:ev σ x2=v2)(h3:ev σ x3=v3):(execOp (ev σ) ⟨dst,.makeFunc fn #[] #[x1,x2,x3],ty,pos,bK,g⟩).run P w= .ok (.value (.func fn #[] #[v1,v2,v3])) w:=by grind[um]
variable{fn:Func}{w0:World}
theorem FP{t:Nat}(h:fn.results=#[.tmp t])(hv:σ t=v)(hb:Below w0.heap.size w0 w):Out P fn (fun u w'=>u=v/\Below w0.heap.size w0 w') σ w:=iY h hv ⟨rfl,hb⟩
theorem jZ{t u:Nat}{y z:Value}(h:fn.results=#[.tmp t,.tmp u])(hy:σ t=y)(hz:σ u=z)(hb:Below w0.heap.size w0 w):Out P fn (fun u w'=>u= .tuple #[y,z]/\Below w0.heap.size w0 w') σ w:=avT h hy hz ⟨rfl,hb⟩
end short
section app
variable{P:Program}{w0 w:World}{L:List a7}
theorem sF{base:Nat}{t ty e:TypeId}{i:TypeInfo}{z:Value}{size bytes:Nat}(ht:P.underlying t=some (.slice e))(hi:P.info? e=some i)(hz:i.zero=some z)
  (hsize:i.size=size) (hby:i.bytes=bytes) (hzs:z.cells.size=size) (hsz:0<size)
  {v:Value} {n:Nat} {xs:List Value} (hown:w.ownsRow base e size v n xs) {y:Value} {m:Nat} {news:List Value} (hS:Sl w y size m news) (h1:∀u∈news,u.oneCell'=true)
  (h63:n+m<=maxLen) (hbytes:(n+m)*bytes<=140737488355328) (hbase:base<=w.heap.size):
  ∃v' w',(Builtin.append_ #[t,t] ty #[v,y]).run P w= .ok v' w'/\w'.ownsRow base e size v' (n+m) (xs++news)/\w.grownBy w' v.ownBlock/\
   (v'.ownBlock=none\/v'.ownBlock=v.ownBlock\/v'.ownBlock=some w.heap.size):=by
 obtain⟨a,c,hy,hnc,ha⟩:=hS.shape
 by_cases hm:m=0
 .subst hm
  have hn:news=[]:=yJ (by simpa using hS.len)
  subst hn
  refine⟨v,w,?_,by simpa using hown,⟨rfl,rfl,rfl,er _,fun _ _ _=>rfl⟩,.inr (.inl O)⟩
  subst hy
  rcases hown.2 with⟨rfl,rfl⟩|⟨g,cap,cur,rfl,hbg,hg,hnc,hcm,hcs,av2⟩
  .cases a<;>simp[Builtin.append_,kr ht,sizeOf,typeInfo,hi,Builtin.lenOf,Builtin.firstCells,loadCells,loadCellsFrom]
  .cases a<;>simp[Builtin.append_,kr ht,sizeOf,typeInfo,hi,Builtin.lenOf,Builtin.firstCells,loadCells,loadCellsFrom,hnc,storeCells]
 have ha':=ha J
 have hyy:y= .slice (some ⟨sb y,so y,none⟩) m c:=by rw[<-ha'];exact hy
 have hnews:∀j u,news[j]?=some u->w.cell? ((⟨sb y,so y,none⟩:Addr).add j)=some u:=fun j u hu=>by rw[HB];exact hS.cell j u hu
 obtain⟨v',w',hr,h2,h3,h4⟩:=run_append_own (P:=P) w base t ty e i z size bytes ht hi hz hsize hby hzs hsz v n xs hown ⟨sb y,so y,none⟩ m c news hS.len hnews h1 h63 hbytes hbase
 rw[hyy]
 refine⟨v',w',hr,h2,h3,?_⟩
 subst hsize
 subst hby
 have hsmall:n+m<=9223372036854775807:=by simp only[maxLen]at h63;omega
 rcases hown.2 with⟨rfl,rfl⟩|⟨g,cap,cur,rfl,hbg,hg,hnc,hcm,hcs,av2⟩
 .have hr2:=run_append_nil (P:=P) w t ty e i z ht hi hz ⟨sb y,so y,none⟩ m c news hS.len hnews J J afs
  rw[hr2]at hr
  injection hr with e1 e2
  subst e1
  exact .inr (.inr O)
 by_cases hroom:n+m<=cap
 .have hfit:n*i.size+news.length<=cur.size:=by rw[hS.len,hcs,<-kT];exact ry _ hroom
  have hr2:=run_append_room (P:=P) w t ty e i ht hi g n cap cur hg ⟨sb y,so y,none⟩ m c news hS.len hnews h1 hroom hfit
  rw[hr2]at hr
  injection hr with e1 e2
  subst e1
  exact .inr (.inl O)
 have holds:∀j u,xs[j]?=some u->w.cell? ((⟨g,0,none⟩:Addr).add j)=some u:=hown.cells (g:=g) O
 have hr2:=run_append_grow (P:=P) w t ty e i z ht hi hz ⟨g,0,none⟩ n cap xs hown.1 holds ⟨sb y,so y,none⟩ m c news hS.len hnews J J (growslice_fits J hbytes)
 rw[hr2]at hr
 injection hr with e1 e2
 subst e1
 exact .inr (.inr O)
theorem Hp.xW{w':World}{i:Nat}{v v':Value}{e:TypeId}{sz n m:Nat}{xs ys:List Value}(h:Hp w0 w L)(hi:L[i]?=some (.row v e sz n xs))
  (hr:w'.ownsRow w0.heap.size e sz v' m ys) (hg:w.grownBy w' v.ownBlock) (hf:v'.ownBlock=none\/v'.ownBlock=v.ownBlock\/v'.ownBlock=some w.heap.size):Hp w0 w' (L.set i (.row v' e sz m ys)):=by
 have hx:=h.get hi
 have hil:=(m8.1 hi).1
 have hLi:L[i]= .row v e sz n xs:=(m8.1 hi).2
 have hp:=QY.1 h.LC
 have afK:∀j (hj:j<L.length),j≠i->∀b,(L[j]).rO=some b->v.ownBlock≠some b:=by
  intro j hj hne b hb he
  rcases Xm hne with hlt|hgt
  .rcases hp j i hj hil hlt with h0|h0
   .rw[hb]at h0;cases h0
   rw[hb,hLi]at h0;exact h0 he.symm
  rcases hp i j hil hj hgt with h0|h0
  .rw[hLi]at h0;simp only[a7.rO]at h0;rw[he]at h0;cases h0
  rw[hb,hLi]at h0;exact h0 he
 refine⟨h.below.grown hg h.size fun k hk=>(hx.lt k hk).1,fun y hy=> ?_,?_⟩
 .obtain⟨j,hj,ET⟩:=yM.1 hy
  rw[yP]at ET
  split at ET
  .subst ET;exact hr
  rename_i hne
  have hjL:j<L.length:=by simpa using hj
  have hyL:y∈L:=ET▸nM hjL
  refine a7.C7 (h.ok y hyL) fun b hb=>hg.block b (a7.Ji (h.ok y hyL) b hb).2 fun e=> ?_
  exact afK j hjL (fun e=>hne e.symm) b (by rw[ET];exact hb) e.symm
 refine QY.2 fun a b ha hb hab=> ?_
 have haL:a<L.length:=by simpa using ha
 have hbL:b<L.length:=by simpa using hb
 rw[yP,yP]
 have key:∀j (hj:j<L.length),j≠i->v'.ownBlock=none\/(L[j]).rO=none\/v'.ownBlock≠(L[j]).rO:=by
  intro j hj hne
  cases hfj:(L[j]).rO with
  |none=>exact .inr (.inl O)
  |some c=>
   rcases hf with h0|h0|h0
   .exact .inl h0
   .refine .inr (.inr fun e=>afK j hj hne c hfj ?_);rw[<-h0,e]
   refine .inr (.inr fun e=> ?_)
   have:=(a7.Ji (h.ok _ (nM hj)) c hfj).2
   rw[h0]at e;injection e with e;omega
 by_cases hia:i=a
 .subst hia
  rw[aS O,aR J]
  rcases key b hbL (by omega)with h0|h0|h0
  .exact .inl h0
  .cases hv:v'.ownBlock with
   |none=>exact .inl hv
   |some c=>exact .inr (by rw[h0];show v'.ownBlock≠none;rw[hv];simp)
  exact .inr h0
 rw[aR hia]
 by_cases hib:i=b
 .subst hib
  rw[aS O]
  rcases key a haL (by omega)with h0|h0|h0
  .cases hv:(L[a]).rO with
   |none=>exact .inl O
   |some c=>exact .inr (by show some c≠v'.ownBlock;rw[h0];simp)
  .exact .inl h0
  exact .inr fun e=>h0 e.symm
 rw[aR hib]
 exact hp a b haL hbL hab
variable{n:Nat}{ops:Array Oper}{k:K}{rest:List Oper}{σ:Env}{ty:TypeId}{pos:String}{bK:Array Edge}{d:Nat}{x y:Operand}
theorem sB{t:TypeId}{v u:Value}{w':World}{v':Value}{dst:Option Tmp}{g:Option (Nat×Bool)}(hx:ev σ x=v)(hy:ev σ y=u)(hr:(Builtin.append_ #[t,t] ty #[v,u]).run P w= .ok v' w'):
  (execOp (ev σ) ⟨dst,.call {callee:= .builtin .append,args:=#[x,y],argTypes:=#[t,t]},ty,pos,bK,g⟩).run P w= .ok (.value v') w':=by
 simp[execOp,resolve,invoke,builtin,hx,hy,hr]
theorem jI{t e:TypeId}{i:Nat}{ie:TypeInfo}{z:Value}{size bytes:Nat}{v u:Value}{m m':Nat}{xs news:List Value}(hd:Nat.blt d n=true)(hH:Hp w0 w L)(hL:L[i]?=some (.row v e size m xs))(hS:Sl w u size m' news)
  (hx:ev σ x=v) (hy:ev σ y=u) (ht:P.underlying t=some (.slice e)) (hi:P.info? e=some ie) (hz:ie.zero=some z)
  (hsize:ie.size=size) (hby:ie.bytes=bytes) (hzs:z.cells.size=size) (hsz:0<size) (h1:∀u∈news,u.oneCell'=true)
  (hbytes:(m+m')*bytes<=140737488355328) (h63:m+m'<=maxLen)
  (hk:∀v' w',Hp w0 w' (L.set i (.row v' e size (m+m') (xs++news)))->RL P n ops k rest (lG σ d v') w'):
  RL P n ops k (⟨some d,.call {callee:= .builtin .append,args:=#[x,y],argTypes:=#[t,t]},ty,pos,bK,none⟩::rest) σ w:=by
 obtain⟨v',w',hr,h2,h3,h4⟩:=sF (P:=P) (ty:=ty) ht hi hz hsize hby hzs hsz (hH.get hL) hS h1 h63 hbytes hH.size
 exact oP hd (sB hx hy hr) (hk v' w' (hH.xW hL h2 h3 h4))
end app
theorem clI(k:IntKind)(n:Int):(Value.int k n).cells.toList=[Value.int k n]:=rfl
theorem clB(b:Bool):(Value.bool b).cells.toList=[Value.bool b]:=rfl
theorem clS(b:ByteArray):(Value.string b).cells.toList=[Value.string b]:=rfl
theorem clP(a:Option Addr):(Value.pointer a).cells.toList=[Value.pointer a]:=rfl
theorem clL(a:Option Addr)(n c:Nat):(Value.slice a n c).cells.toList=[Value.slice a n c]:=rfl
theorem clA(l:List Value):(Value.agg l.toArray).cells.toList=l:=rfl
section more
variable{P:Program}{w0 w:World}{L L':List a7}{fn:Func}{σ:Env}
theorem Hp.conv(h:Hp w0 w L)(e:L=L'):Hp w0 w L':=e▸h
theorem Hp.perm(h:Hp w0 w L)(hp:L.Perm L'):Hp w0 w L':=
 ⟨h.below,fun x hx=>h.ok x (hp.mem_iff.2 hx),hp.pairwise h.LC fun{x y} hxy=>by
  cases hy:y.rO with
  |none=>exact .inl O
  |some b=>
   right
   rcases hxy with h0|h0
   .rw[h0];simp
   rw[hy]at h0;exact fun e=>h0 e.symm⟩
theorem JM{t i:Nat}{v:Value}{e:TypeId}{sz n n':Nat}{xs xs':List Value}(h:fn.results=#[.tmp t])(hv:σ t=v)(hH:Hp w0 w L)(hi:L[i]?=some (.row v e sz n xs))(hn:n=n')(hx:xs=xs'):
  Out P fn (fun u w'=>w'.ownsRow w0.heap.size e sz u n' xs'/\Below w0.heap.size w0 w') σ w:=by
 subst hn;subst hx
 exact iY h hv ⟨hH.get hi,hH.below⟩
theorem eG{xs:List Int}{k:Int}(h:0<=k/\k<xs.length):(xs.map I)[k.toNat*1]?=some (I (xs.getD k.toNat 0)):=by grind
end more
def isD(ops:Array Oper)(j dj:Nat):Bool:=match(ops[j]?).bind (·.dst)with
 |some d=>Nat.beq d dj
 |none=>false
def Yi{α:Type}:Bool->α->α->α
 |true,x,_=>x
 |false,_,y=>y
def gv(ops:Array Oper)(dj:Nat)(b:Bool):Option (Nat×Bool)->Option Bool
 |some (j,want)=>Yi (isD ops j dj) (some (Yi b want (!want))) none
 |none=>none
def pk(dj:Nat)(b:Bool):Op->Op
 | .pick (.tmp c) x y=>Yi (Nat.beq c dj) (.move (Yi b x y)) (.pick (.tmp c) x y)
 |o=>o
def dE(dj:Nat):Option Tmp->Bool
 |some d=>Nat.beq d dj
 |none=>false
def gs(ops:Array Oper)(dj:Nat)(b:Bool):List Oper->List Oper
 |[]=>[]
 |o::r=>match gv ops dj b o.guard with
  |some true=>⟨o.dst,pk dj b o.op,o.type,o.pos,o.after,none⟩::Yi (dE dj o.dst) r (gs ops dj b r)
  |some false=>match o.dst with
   |none=>gs ops dj b r
   |some d=>⟨some d,.move (.const undef),o.type,o.pos,o.after,none⟩::Yi (Nat.beq d dj) r (gs ops dj b r)
  |none=>⟨o.dst,pk dj b o.op,o.type,o.pos,o.after,o.guard⟩::Yi (dE dj o.dst) r (gs ops dj b r)
def gl(n:Nat)(ops:Array Oper)(dj:Nat)(b:Bool):List Oper->List Oper
 |[]=>[]
 |o::r=>match gv ops dj b o.guard,o.dst with
  |some false,some d=>Yi (Yi (Nat.beq d dj) false (Nat.blt d n)) (gl n ops dj b r) (gs ops dj b (o::r))
  |some false,none=>gl n ops dj b r
  |_,_=>gs ops dj b (o::r)
def ge(n:Nat)(ops:Array Oper)(dj:Nat)(b:Bool):List Oper->Env->Env
 |[],σ=>σ
 |o::r,σ=>match gv ops dj b o.guard,o.dst with
  |some false,some d=>Yi (Yi (Nat.beq d dj) false (Nat.blt d n)) (ge n ops dj b r (lG σ d undef)) σ
  |some false,none=>ge n ops dj b r σ
  |_,_=>σ
section
variable{P:Program}{n:Nat}{ops:Array Oper}{k:K}{rest l:List Oper}{σ:Env}{w:World}{dj:Nat}{b:Bool}
theorem HX{a:Act}{o:Oper}{t:Bool}(h:a.tmps[dj]?=some (.bool b))(hg:gv ops dj b o.guard=some t):Region.wanted o (yielded ops a.tmps)=t:=by
 obtain⟨dst,op,ty,pos,bK,g⟩:=o
 cases g with
 |none=>cases hg
 |some jw=>
  obtain⟨j,want⟩:=jw
  simp only[gv]at hg
  cases hi:isD ops j dj with
  |false=>rw[hi]at hg;cases hg
  |true=>
   rw[hi]at hg;simp only[Yi,Xq]at hg;subst hg
   unfold isD at hi;split at hi
   .rename_i d hd
    have:d=dj:=zg
    subst this
    simp only[Region.wanted,yielded,hd,Q9,h]
    cases b<;>cases want<;>rfl
   .cases hi
theorem afL{a:Act}{o:Oper}(h:a.tmps[dj]?=some (.bool b))(g:Option (Nat×Bool)):execOp a.eval ⟨o.dst,pk dj b o.op,o.type,o.pos,o.after,g⟩=execOp a.eval o:=by
 obtain⟨dst,op,ty,pos,bK,g'⟩:=o
 show execOp a.eval ⟨dst,pk dj b op,ty,pos,bK,g⟩=execOp a.eval ⟨dst,op,ty,pos,bK,g'⟩
 unfold pk
 split
 .rename_i c x y
  cases hc:Nat.beq c dj with
  |false=>rfl
  |true=>
   have:c=dj:=by simpa using hc
   subst this
   have e:a.eval (.tmp c)= .bool b:=by
    show a.tmps.getD c undef=_
    rw[wo,h];rfl
   simp only[execOp,e,asBool,Yi]
   cases b<;>rfl
 rfl
theorem acB{o:Oper}{a:Act}{N N':Act->World->Prop}{Q:Exit->Act->World->Prop}(hN:∀(a':Act) v w,a'.tmps=a.tmps->N (a'.put o.dst v) w->N' (a'.put o.dst v) w){r:Result Next}(h:o.upon P a N Q r):o.upon P a N' Q r:=by
 unfold Oper.upon at h⊢
 split at h
 .exact hN _ _ _ O h
 .exact hN _ _ _ O h
 .exact hN {a with defers:=_} _ _ O h
 .refine h.mono fun e w' hr=> ?_
  cases e with
  |returned v=>exact hN _ _ _ O hr
  |panicked c=>exact hr
  |outgrown=>exact hr
 .exact fun c cs=>let⟨v,w',r,s⟩:=h c cs;⟨v,w',hN _ _ _ O r,s⟩
 .exact h
 exact h.elim
theorem afM{a a':Act}{d:Option Tmp}{v:Value}(h:a.tmps[dj]?=some (.bool b))(e:a'.tmps=a.tmps)(hd:dE dj d=false):(a'.put d v).tmps[dj]?=some (.bool b):=by
 cases d with
 |none=>simpa[Act.put,e]using h
 |some d=>
  have hne:d≠dj:=by intro e;subst e;simp[dE]at hd
  simp only[Act.put,e]
  rw[Bz,aR hne];exact h
theorem aoD{Q:Exit->Act->World->Prop}(hL:¬LetsOut Q):∀(l:List Oper) (a:Act) (w:World),a.tmps[dj]?=some (.bool b)->wpList P ops Q (gs ops dj b l) a w->wpList P ops Q l a w
 |[],a,w,_,h=>h
 |o::r,a,w,hb,h=>by
  have next:∀(a':Act) v w,a'.tmps=a.tmps->wpList P ops Q (Yi (dE dj o.dst) r (gs ops dj b r)) (a'.put o.dst v) w->wpList P ops Q r (a'.put o.dst v) w:=by
   intro a' v w' e h'
   cases hd:dE dj o.dst with
   |true=>rw[hd]at h';exact h'
   |false=>rw[hd]at h';exact aoD hL r _ _ (afM hb e hd) h'
  have run:∀g,(Oper.wp P ⟨o.dst,pk dj b o.op,o.type,o.pos,o.after,g⟩ a w (wpList P ops Q (Yi (dE dj o.dst) r (gs ops dj b r))) Q\/(Oper.asks P ⟨o.dst,pk dj b o.op,o.type,o.pos,o.after,g⟩ a w/\LetsOut Q))->
    (o.wp P a w (wpList P ops Q r) Q\/(o.asks P a w/\LetsOut Q)):=by
   intro g hg
   rcases hg with hg|hg
   .left
    unfold Oper.wp at hg⊢
    rw[afL hb]at hg
    exact acB (o:=o) next hg
   right
   unfold Oper.asks at hg⊢
   rw[afL hb]at hg;exact hg
  unfold gs at h
  cases hg:gv ops dj b o.guard with
  |none=>
   rw[hg]at h;simp only[wpList]at h⊢
   have e:Region.wanted ⟨o.dst,pk dj b o.op,o.type,o.pos,o.after,o.guard⟩ (yielded ops a.tmps)=Region.wanted o (yielded ops a.tmps):=by unfold Region.wanted;rfl
   rw[e]at h
   split
   .rename_i hw;rw[aS hw]at h;exact run _ h
   rename_i hw;rw[aR hw]at h;exact next _ _ _ O h
  |some t=>
   rw[hg]at h
   cases t with
   |true=>
    simp only[wpList]at h⊢
    rw[aS (HX hb hg)]
    rw[aS aO]at h
    exact run _ h
   |false=>
    simp only[wpList]at h⊢
    rw[aR (by rw[HX hb hg];simp)]
    cases hd:o.dst with
    |none=>
     rw[hd]at h
     rw[hd]at next
     exact next a undef w O h
    |some d=>
     rw[hd]at h
     rw[hd]at next
     simp only[wpList]at h
     rw[aS aO]at h
     rcases h with h|h
     .exact next _ _ _ O h
     exact(hL h.2).elim
theorem aqY(k:K):¬LetsOut (rB n k):=by
 intro⟨a,w,h⟩
 exact h
theorem LG:∀(l:List Oper) (σ:Env),σ dj= .bool b->RL P n ops k (gl n ops dj b l) (ge n ops dj b l σ) w->RL P n ops k l σ w
 |[],σ,_,h=>h
 |o::r,σ,hb,h=>by
  have stay:RL P n ops k (gs ops dj b (o::r)) σ w->RL P n ops k (o::r) σ w:=fun h a ha=>aoD (aqY k) _ a w (ha.look hb zf) (h a ha)
  unfold gl ge at h
  obtain⟨dst,op,ty,pos,bK,g⟩:=o
  cases hg:gv ops dj b g with
  |none=>simp only[hg]at h;exact stay h
  |some t=>
   cases t with
   |true=>simp only[hg]at h;exact stay h
   |false=>
    simp only[hg]at h
    have hw:∀a,Is n σ a->Region.wanted ⟨dst,op,ty,pos,bK,g⟩ (yielded ops a.tmps)=false:=fun a ha=>HX (ha.look hb zf) hg
    cases dst with
    |none=>
     have h1:=LG r σ hb h
     intro a ha
     simp only[wpList,hw a ha]
     exact h1 a ha
    |some d=>
     simp only at h
     cases hd:Nat.beq d dj with
     |true=>rw[hd]at h;exact stay h
     |false=>
      rw[hd]at h
      cases hn:Nat.blt d n with
      |false=>rw[hn]at h;exact stay h
      |true=>
       rw[hn]at h
       have hne:dj≠d:=by intro e;subst e;simp at hd
       have h1:=LG r (lG σ d undef) (by rw[Yb _ _ hne];exact hb) h
       intro a ha
       simp only[wpList,hw a ha]
       exact h1 _ (ha.put hn undef)
theorem bZ{j:Nat}{want:Bool}{dst:Option Tmp}{op:Op}{ty:TypeId}{pos:String}{bK:Array Edge}(hj:(ops[j]?).bind (·.dst)=some dj)(hb:σ dj= .bool b)
 (h:RL P n ops k (gl n ops dj b (⟨dst,op,ty,pos,bK,some (j,want)⟩::rest)) (ge n ops dj b (⟨dst,op,ty,pos,bK,some (j,want)⟩::rest) σ) w):RL P n ops k (⟨dst,op,ty,pos,bK,some (j,want)⟩::rest) σ w:=LG _ _ hb h
theorem fO{c:Bool}(dj:Nat)(hb:σ dj= .bool c)(ht:c=true->RL P n ops k (gl n ops dj true l) (ge n ops dj true l σ) w)(hf:c=false->RL P n ops k (gl n ops dj false l) (ge n ops dj false l σ) w):RL P n ops k l σ w:=by
 cases hc:c with
 |true=>exact LG _ _ (hc▸hb) (ht hc)
 |false=>exact LG _ _ (hc▸hb) (hf hc)
theorem bM{p:Prop}[Decidable p](dj:Nat)(hb:σ dj= .bool (decide p))(ht:p->RL P n ops k (gl n ops dj true l) (ge n ops dj true l σ) w)(hf:¬p->RL P n ops k (gl n ops dj false l) (ge n ops dj false l σ) w):RL P n ops k l σ w:=by
 by_cases hc:p
 .exact LG _ _ (by rw[hb,gQ hc]) (ht hc)
 exact LG _ _ (by rw[hb,gO hc]) (hf hc)
theorem uQ{d:Nat}{ty:TypeId}{pos:String}{bK:Array Edge}(h:RL P n ops k rest (lG σ d undef) w)(hd:Nat.blt d n=true:=by rfl):RL P n ops k (⟨some d,.move (.const undef),ty,pos,bK,none⟩::rest) σ w:=
 oP hd (run_move O) h
end
end
end Go.Proofs.YtlhjdflgjbkpmaaGreatDoor.E
namespace Go.Proofs.YtlhjdflgjbkpmaaGreatDoor.M
def zj(n:Int):Bool:=decide (1<=n/\n<=64)
def below(n:Int):BitVec 64:=if n<=0 then 0#64 else if 64<=n then~~~0#64 else(1#64<<<(BitVec.ofInt 64 n).toNat)-1#64
theorem RP{n:Int}(h:n<=0):below n=0#64:=by simp[below,h]
theorem acC{n:Int}(h:64<=n):below n= ~~~0#64:=by grind[below]
theorem acD{n:Int}(h:¬n<=0)(h':¬64<=n):below n=(1#64<<<(BitVec.ofInt 64 n).toNat)-1#64:=by grind[below]
def uR(n k:Int):BitVec 64×Bool:=if 1<=n/\n<=64/\0<=k/\k<n then(below k,true)else(0#64,false)
theorem alB{n:Int}(h:(!zj n)=false):1<=n/\n<=64:=by simpa[zj]using h
theorem alC{n:Int}(h:(!zj n)=true):¬(1<=n/\n<=64):=by grind[zj]
theorem B6{n k:Int}(h:¬(1<=n/\n<=64/\0<=k/\k<n)):uR n k=(0#64,false):=by rw[uR,aR h]
theorem uA{n k:Int}(h:1<=n/\n<=64/\0<=k/\k<n):uR n k=(below k,true):=by rw[uR,aS h]
def level(n:Int)(s:BitVec 64):Int×Bool:=
 if 1<=n/\n<=64 then
  match(List.range n.toNat).find? (fun k:Nat=>s==below (k:Int))with
  |some k=>((k:Int),true)
  |none=>(0,false)
 else(0,false)
theorem LH{n:Int}(s:BitVec 64)(h:¬(1<=n/\n<=64)):level n s=(0,false):=by grind[level]
theorem LI{n k:Int}{s:BitVec 64}(h:1<=n/\n<=64)(h0:0<=k)(hk:k<n)(hs:s=below k)(hf:∀j:Int,0<=j->j<k->s≠below j):level n s=(k,true):=by
 have hfind:(List.range n.toNat).find? (fun i:Nat=>s==below (i:Int))=some k.toNat:=by
  rw[List.find?_range_eq_some]
  refine⟨?_,iP,?_⟩
  .rw[show((k.toNat:Int))=k by omega];simpa using hs
  intro j hj
  have:=hf j J J
  simpa using this
 simp only[level,aS h,hfind]
 rw[show((k.toNat:Int))=k by omega]
theorem EU{n:Int}{s:BitVec 64}(h:1<=n/\n<=64)(hf:∀j:Int,0<=j->j<n->s≠below j):level n s=(0,false):=by grind[below,level]
theorem nW{n:Int}(h:0<=n/\n<18446744073709551616):(BitVec.ofInt 64 n).toNat=n.toNat:=by grind
theorem fh(n:Int)(i:Nat):(below n).getLsbD i=decide (i<64/\(i:Int)<n):=by
 unfold below
 by_cases h:n<=0
 .rw[aS h];simp;omega
 rw[aR h]
 by_cases h':64<=n
 .rw[aS h',Q5,Xi,Bool.not_false,XK,Rc];omega
 rw[aR h',nW J]
 have e:(1#64<<<n.toNat)-1#64=BitVec.ofNat 64 (2^n.toNat-1):=by
  apply Hr
  have h1:2^n.toNat<2^64:=Nat.pow_lt_pow_right J J
  have h2:0<2^n.toNat:=Nat.two_pow_pos _
  have h3:(1#64<<<n.toNat).toNat=2^n.toNat:=by
   simp[QZ,Rb];exact h1
  rw[Ra,h3,Xk,Xk]
  generalize 2^n.toNat=X at h1 h2
  omega
 rw[e,Xh,aeY]
 by_cases a:i<64<;>by_cases b:i<n.toNat<;>simp[a,b]<;>omega
def nX(p:Nat->Bool):Nat->BitVec 64
 |0=>0#64
 |i+1=>if p i then nX p i|||(1#64<<<i)else nX p i
theorem mE(i k:Nat):(1#64<<<i).getLsbD k=(decide (k<64)&&decide (k=i)):=by grind
theorem j3(p:Nat->Bool)(j i:Nat):(nX p j).getLsbD i=(decide (i<j)&&decide (i<64)&&p i):=by
 induction j with
 |zero=>simp[nX]
 |succ j ih=>
  unfold nX
  by_cases hp:p j=true
  .rw[aS hp,Xs,ih,mE]
   by_cases h2:i=j
   .subst h2;by_cases h1:i<64<;>simp[h1,hp]
   by_cases h1:i<64<;>by_cases h3:i<j<;>simp[h1,h2,h3]<;>omega
  rw[aR hp,ih]
  by_cases h2:i=j
  .subst h2;simp[hp]
  by_cases h1:i<64<;>by_cases h3:i<j<;>simp[h1,h3]<;>omega
def kO(l:List Int):BitVec 64:=nX (fun i=>l.contains (i:Int)) 64
theorem gS(l:List Int)(i:Nat):(kO l).getLsbD i=(decide (i<64)&&l.contains (i:Int)):=by grind[kO,j3]
def zk(i:Int):Bool:=decide (0<=i/\i<64)
def hasB(s:BitVec 64)(i:Int):Bool:=zk i&&s.getLsbD i.toNat
def uS(s:BitVec 64)(i:Int):BitVec 64:=if zk i then s|||(1#64<<<(BitVec.ofInt 64 i).toNat)else s
def afN(s:BitVec 64)(i:Int):BitVec 64:=if zk i then s&&& ~~~(1#64<<<(BitVec.ofInt 64 i).toNat)else s
def sG(s:BitVec 64)(j:Nat):List Int:=((List.range j).filter (s.getLsbD ·)).map fun(i:Nat)=>(i:Int)
def gA(s:BitVec 64):List Int:=sG s 64
def dX(a b:BitVec 64):Bool:=decide (a&&& ~~~b=0#64)
theorem xn(s:BitVec 64)(i:Int)(k:Nat):(uS s i).getLsbD k=(s.getLsbD k||(decide (k<64)&&decide ((k:Int)=i))):=by grind[uS,zk,mE,nW]
theorem Ow(s:BitVec 64)(i:Int)(k:Nat):(afN s i).getLsbD k=(s.getLsbD k&& !decide ((k:Int)=i)):=by grind[afN,zk,mE,nW]
theorem ew{a b:BitVec 64}(h:∀i,i<64->a.getLsbD i=b.getLsbD i):a=b:=by grind
theorem acE(l:List Int)(i:Int):uS (kO l) i=kO (l++[i]):=ew fun k hk=>by
 rw[xn,gS,gS]
 simp[hk,EC]
theorem aaw:kO []=0#64:=ew fun k hk=>by rw[gS];simp
theorem acF(s:BitVec 64)(j:Nat)(i:Int):i∈sG s j↔0<=i/\i<j/\s.getLsbD i.toNat=true:=by grind[sG]
theorem fN(s:BitVec 64)(i:Int):i∈gA s↔hasB s i=true:=by grind[gA,acF,hasB,zk]
theorem alD(s:BitVec 64):kO (gA s)=s:=ew fun k hk=>by
 rw[gS]
 have:=fN s (k:Int)
 have hc:(gA s).contains (k:Int)=hasB s k:=by
  rw[gP,<-this];simp
 rw[hc,hasB,zk];simp[hk];omega
theorem LJ(s:BitVec 64)(j:Nat):sG s (j+1)=sG s j++(if s.getLsbD j then[(j:Int)]else[]):=by grind[sG,List.range_succ]
theorem HY(s:BitVec 64)(j:Nat):(sG s j).length<=j:=by grind[sG]
theorem FQ(s:BitVec 64):(gA s).length<=64:=HY s 64
theorem FR(a b:BitVec 64):dX a b=true↔∀i,i<64->a.getLsbD i=true->b.getLsbD i=true:=by
 unfold dX
 rw[eo]
 constructor
 .intro h i hi ha
  have:=aJ (fun z=>BitVec.getLsbD z i) h
  simp[hi,ha]at this
  exact this
 intro h
 refine ew fun i hi=> ?_
 have:=h i hi
 simp only[rJ,Q5,hi,decide_true,l8,Xi]
 cases ha:a.getLsbD i
 .rfl
 rw[this ha];rfl
theorem alE(s:BitVec 64){i:Int}(h:zk i=true):decide (s>>>(BitVec.ofInt 64 i).toNat&&&1#64=1#64)=hasB s i:=by
 have h':0<=i/\i<64:=by simpa[zk]using h
 rw[hasB,h,l8,nW J]
 have key:s>>>i.toNat&&&1#64=if s.getLsbD i.toNat then 1#64 else 0#64:=by
  refine ew fun k hk=> ?_
  by_cases hb:s.getLsbD i.toNat=true
  .rw[aS hb]
   simp only[rJ,ae1]
   by_cases h0:k=0
   .subst h0;simp[hb]
   simp[BitVec.getLsbD_one,h0]
  rw[aR hb]
  simp only[rJ,ae1]
  by_cases h0:k=0
  .subst h0;simpa using hb
  simp[BitVec.getLsbD_one,h0]
 rw[key]
 by_cases hb:s.getLsbD i.toNat=true
 .rw[aS hb,hb];rfl
 rw[aR hb];simp at hb;rw[hb];rfl
theorem Yj(s:BitVec 64){i:Int}(h:zk i=false):hasB s i=false:=by rw[hasB,h];rfl
theorem Kk(s:BitVec 64)(k:Nat):(s>>>k)%2#64=1#64↔s.getLsbD k=true:=by
 have:(s>>>k)%2#64=1#64↔(s>>>k).toNat%2=1:=by
  rw[<-Xx];simp
 rw[this]
 have h2:(s>>>k).getLsbD 0=s.getLsbD k:=aF
 rw[<-h2,BitVec.getLsbD,Nat.testBit_zero,eo]
theorem half(s:BitVec 64)(k:Nat):(s>>>k)/2#64=s>>>(k+1):=by
 apply Hr
 simp only[BitVec.toNat_udiv,W8,Nat.shiftRight_add]
 rfl
def Ax(l:List Int)(j:Nat):BitVec 64:=nX (fun i=>l.contains (i:Int)) j
theorem alF{p:Nat->Bool}{j:Nat}(hj:j<64):nX p j+(1#64<<<j)=nX p j|||(1#64<<<j):=by
 refine BitVec.add_eq_or_of_and_eq_zero _ _ (ew fun k hk=> ?_)
 rw[rJ,j3,mE]
 by_cases h:k=j
 .subst h;simp
 simp[h]
theorem acG{l:List Int}{j:Nat}(hj:j<64)(h:(j:Int)∈l):Ax l j+(1#64<<<j)=Ax l (j+1):=by grind[Ax,alF,nX]
theorem Yk{l:List Int}{i k:Int}(h0:0<=i)(hi:i<64)(hk:0<=k)(hkl:k<l.length)(h:l.getD k.toNat 0=i):Ax l i.toNat+(1#64<<<i.toNat)=Ax l (i+1).toNat:=by grind[acG]
theorem afO{l:List Int}{j:Nat}(h:¬(j:Int)∈l):Ax l j=Ax l (j+1):=by grind[Ax,nX]
theorem acH{l:List Int}{i:Int}(h0:0<=i)(hf:∀j:Int,0<=j->j<l.length->l.getD j.toNat 0≠i):Ax l i.toNat=Ax l (i+1).toNat:=by
 rw[show(i+1).toNat=i.toNat+1 by omega]
 refine afO fun hm=> ?_
 rw[show((i.toNat:Nat):Int)=i by omega]at hm
 obtain⟨j,hj,he⟩:=yM.1 hm
 refine hf j J J ?_
 rw[ef,eS,ep hj];exact he
theorem aly(j:Nat):(1#64<<<j)*2#64=1#64<<<(j+1):=by
 apply Hr
 have h1:(1#64).toNat=1:=rfl
 have h2:(2#64).toNat=2:=rfl
 rw[BitVec.toNat_mul,QZ,QZ,Rb,Rb,h1,h2,Rp,Rp,Nat.mod_mul_mod]
 rfl
theorem O8{l:List Int}{k:Int}(h0:0<=k)(h:k<l.length):l.take (k+1).toNat=l.take k.toNat++[l.getD k.toNat 0]:=by
 rw[show(k+1).toNat=k.toNat+1 by omega,DY J,eS,ep J];rfl
theorem LK{l:List Int}{k:Int}(h:¬k<l.length):l.take k.toNat=l:=iV J
theorem FT{l:List Int}{n:Int}(h:∀i:Int,0<=i->i<64->(i∈l↔i<n)):kO l=below n:=ew fun k hk=>by
 rw[gS,fh]
 have:=h k J J
 rw[gP];simp[hk,this]
def upto(j:Int):List Int:=(List.range j.toNat).map fun(i:Nat)=>(i:Int)
theorem gT{j:Int}(h:0<=j):upto j++[j]=upto (j+1):=by
 unfold upto
 rw[show(j+1).toNat=j.toNat+1 by omega,xa,gz,EE,show((j.toNat:Nat):Int)=j by omega]
theorem sH{j:Int}:(upto j).length=j.toNat:=by simp[upto]
theorem cN{j i:Int}:i∈upto j↔0<=i/\i<j:=by
 simp only[upto,fX,pX]
 constructor
 .rintro⟨a,h1,rfl⟩;omega
 rintro⟨h1,h2⟩;exact⟨i.toNat,J,J⟩
theorem acI{s:BitVec 64}{j:Int}(h0:0<=j)(h:(s>>>j.toNat)%2#64=1#64):sG s j.toNat++[j]=sG s (j+1).toNat:=by
 rw[show(j+1).toNat=j.toNat+1 by omega,LJ,aS ((Kk s _).1 h),show((j.toNat:Nat):Int)=j by omega]
theorem afP{s:BitVec 64}{j:Int}(h0:0<=j)(h:¬(s>>>j.toNat)%2#64=1#64):sG s j.toNat=sG s (j+1).toNat:=by
 rw[show(j+1).toNat=j.toNat+1 by omega,LJ,aR (fun e=>h ((Kk s _).2 e)),lY]
theorem O9{s:BitVec 64}{j:Int}(h:¬j<64)(h':j<=64):sG s j.toNat=gA s:=by grind[sG,gA]
theorem dh{l:List Int}{k:Int}(h0:0<=k)(h:k<l.length):l.getD k.toNat 0∈l:=by grind
theorem TW(a b:BitVec 64):dX a b=(gA a).all (hasB b ·):=by
 rw[gP,FR,iN]
 constructor
 .intro h i hi
  have:=(fN a i).1 hi
  simp only[hasB,zk,cG,eo]at this⊢
  exact⟨this.1,h _ J this.2⟩
 intro h i hi ha
 have:=h i ((fN a i).2 (by simp[hasB,zk,ha];omega))
 simp only[hasB,zk,cG,eo]at this
 simpa using this.2
def aCV(n:Int):BitVec 64:=if 1<=n/\n<=64 then below (n-1)else 0#64
theorem TY{n k:Int}(h:(uR n k).2=true):1<=n/\n<=64/\0<=k/\k<n:=by grind[B6]
theorem Yl{n k:Int}(h:(uR n k).2=false):¬(1<=n/\n<=64/\0<=k/\k<n):=by grind[uA]
theorem TZ{n k:Int}{s:BitVec 64}(h0:0<=k)(hi:(uR n k).2=true)(hne:¬(uR n k).1=s)(hf:n<=64->∀j:Int,0<=j->j<k->s≠below j):n<=64->∀j:Int,0<=j->j<k+1->s≠below j:=by grind[uA,TY]
theorem T0{n k:Int}{s:BitVec 64}(h0:0<=k)(hk:k<n)(hf:n<=64->∀j:Int,0<=j->j<k->s≠below j)(hi:(uR n k).2=false):n<=64->∀j:Int,0<=j->j<k+1->s≠below j:=by
 intro hn
 have:=Yl hi
 omega
theorem acJ{n k:Int}{s:BitVec 64}(h0:0<=k)(hi:(uR n k).2=true)(hf:n<=64->∀j:Int,0<=j->j<k->s≠below j)(he:(uR n k).1=s):level n s=(k,true):=by grind[TY,uA,LI]
theorem DZ{n k:Int}{s:BitVec 64}(h0:0<=k)(hk:k<=n\/k=0)(h6:k<=64)(hf:n<=64->∀j:Int,0<=j->j<k->s≠below j)(he:¬(k<n/\k<64)):level n s=(0,false):=by grind[EU,LH]
theorem acK{j k:Int}(h0:0<=j)(hjk:j<k)(hk:k<=64):below k≠below j:=fun e=>by
 have:=aJ (fun z=>BitVec.getLsbD z j.toNat) e
 simp only[fh]at this
 rw[gQ J,gO J]at this
 cases this
theorem Ym{n k:Int}(h:1<=n/\n<=64/\0<=k/\k<n):level n (uR n k).1=(k,true):=by grind[uA,LI,acK]
theorem afQ(i j:Int):below i|||below j=below (max i j):=ew fun k hk=>by
 rw[Xs,fh,fh,fh,gP];simp;omega
theorem acL(i j:Int):below i&&&below j=below (min i j):=ew fun k hk=>by
 rw[rJ,fh,fh,fh,gP];simp;omega
def pop(s:BitVec 64):Int:=
 let x:=(s>>>1&&&6148914691236517205#64)+(s&&&6148914691236517205#64)
 let x:=(x>>>2&&&3689348814741910323#64)+(x&&&3689348814741910323#64)
 let x:=(x>>>4+x)&&&1085102592571150095#64
 let x:=x+x>>>8
 let x:=x+x>>>16
 let x:=x+x>>>32
 (x&&&127#64).toInt
theorem zl:∀{l m:List Int},l.Pairwise (· <·)->m.Pairwise (· <·)->(∀x,x∈l↔x∈m)->l=m
 |[],[],_,_,_=>rfl
 |[],b::m,_,_,h=>by have:=(h b).2 aF;simp at this
 |a::l,[],_,_,h=>by have:=(h a).1 aF;simp at this
 |a::l,b::m,hl,hm,h=>by
  have hl':=lA.1 hl
  have hm':=lA.1 hm
  have hab:a=b:=by
   rcases cQ.1 ((h a).1 aF)with h1|h1
   .exact h1
   rcases cQ.1 ((h b).2 aF)with h2|h2
   .exact h2.symm
   have:=hm'.1 a h1;have:=hl'.1 b h2;omega
  subst hab
  congr 1
  refine zl hl'.2 hm'.2 fun x=> ?_
  constructor
  .intro hx
   rcases cQ.1 ((h x).1 (fC _ hx))with h1|h1
   .have:=hl'.1 x hx;omega
   exact h1
  intro hx
  rcases cQ.1 ((h x).2 (fC _ hx))with h1|h1
  .have:=hm'.1 x hx;omega
  exact h1
theorem rQ(s:BitVec 64):(gA s).Pairwise (· <·):=by grind[gA,sG,List.pairwise_lt_range]
theorem zm{s:BitVec 64}:gA s=[]↔s=0#64:=by
 constructor
 .intro h;rw[<-alD s,h,aaw]
 rintro rfl;simp[gA,sG]
def Low(s:BitVec 64)(j:Nat):Prop:=j<64/\s.getLsbD j=true/\∀i,i<j->s.getLsbD i=false
theorem Yn{s:BitVec 64}(h:s≠0#64):∃j,Low s j:=by
 have hne:gA s≠[]:=fun e=>h (zm.1 e)
 obtain⟨a,l,e⟩:=List.exists_cons_of_ne_nil hne
 have ha:=(fN s a).1 (by rw[e];simp)
 simp only[hasB,zk,cG,eo]at ha
 refine⟨a.toNat,J,ha.2,fun i hi=> ?_⟩
 cases hb:s.getLsbD i with
 |false=>rfl
 |true=>
  have hm:=(fN s (i:Int)).2 (by simp[hasB,zk,hb];omega)
  rw[e]at hm
  have hs:=rQ s
  rw[e]at hs
  rcases cQ.1 hm with h1|h1
  .omega
  have:=(lA.1 hs).1 _ h1;omega
theorem afR{s:BitVec 64}{j:Nat}(h:Low s j):∃m,s.toNat=2^j*(2*m+1):=by
 obtain⟨hj,hb,hz⟩:=h
 have h1:s.toNat%2^j=0:=by
  apply Nat.eq_of_testBit_eq
  intro i
  rw[Nat.testBit_mod_two_pow,Nat.zero_testBit]
  by_cases hi:i<j
  .have:=hz i hi;rw[BitVec.getLsbD]at this;simp[this]
  simp[hi]
 have h2:s.toNat/2^j%2=1:=by
  rw[BitVec.getLsbD,Nat.testBit_eq_decide_div_mod_eq]at hb
  simpa using hb
 refine⟨s.toNat/2^j/2,?_⟩
 have h3:=XB s.toNat (2^j)
 have h4:=XB (s.toNat/2^j) 2
 rw[h2]at h4
 rw[h4];omega
theorem Jk{s:BitVec 64}{j:Nat}(h:Low s j){i:Nat}(hi:i<64):(s-1#64).getLsbD i=if i<j then true else if i=j then false else s.getLsbD i:=by
 obtain⟨m,hm⟩:=afR h
 have hp:0<2^j:=Nat.two_pow_pos j
 have hlt:=s.isLt
 have h1:(s-1#64).toNat=2^j*(2*m)+(2^j-1):=by
  rw[Ra]
  have e:(1#64).toNat=1:=rfl
  have e2:2^j*(2*m+1)=2^j*(2*m)+2^j:=by rw[Nat.mul_add,lE]
  rw[e];omega
 rw[BitVec.getLsbD,h1,aeZ _ J]
 by_cases h2:i<j
 .rw[aS h2,aS h2,aeY];simp[h2]
 rw[aR h2,aR h2]
 by_cases h3:i=j
 .subst h3;rw[aS O,Rm];simp
 rw[aR h3,BitVec.getLsbD,hm]
 have e2:2^j*(2*m+1)=2^j*(2*m+1)+0:=J
 rw[e2,aeZ _ hp,aR h2]
 obtain⟨k,hk⟩:∃k,i-j=k+1:=⟨i-j-1,J⟩
 rw[hk,Nat.testBit_succ,Nat.testBit_succ]
 congr 1;omega
theorem HZ{s:BitVec 64}{j:Nat}(h:Low s j){i:Nat}(hi:i<64):(s&&&(s-1#64)).getLsbD i=(s.getLsbD i&& !decide (i=j)):=by grind[Low,Jk]
theorem alG{s:BitVec 64}{j:Nat}(h:Low s j):gA s=(j:Int)::gA (s&&&(s-1#64)):=by
 refine zl (rQ s) (lA.2 ⟨fun x hx=> ?_,rQ _⟩) fun x=> ?_
 .have:=(fN _ x).1 hx
  simp only[hasB,zk,cG,eo]at this
  obtain⟨⟨h0,h1⟩,h2⟩:=this
  rw[HZ h J]at h2
  simp only[cG,BE,wv]at h2
  rcases Nat.lt_or_ge x.toNat j with hlt|hge
  .rw[h.2.2 _ hlt]at h2;cases h2.1
  omega
 rw[fN,cQ,fN]
 simp only[hasB,zk,cG,eo]
 constructor
 .rintro⟨h1,h2⟩
  by_cases hx:x=j
  .exact .inl hx
  refine .inr ⟨h1,?_⟩
  rw[HZ h J,h2];simp;omega
 rintro(rfl|⟨h1,h2⟩)
 .have:=h.1;exact⟨J,by simpa using h.2.1⟩
 rw[HZ h J]at h2
 simp only[cG]at h2
 exact⟨h1,h2.1⟩
theorem alH{s:BitVec 64}{j:Nat}(h:Low s j):s&&& -s=1#64<<<j:=by
 have hn: -s= ~~~(s-1#64):=by
  apply Hr
  rw[BitVec.toNat_neg,BitVec.toNat_not,Ra]
  have e:(1#64).toNat=1:=rfl
  have:=s.isLt
  rw[e];omega
 refine ew fun i hi=> ?_
 rw[hn,rJ,Q5,Jk h hi,mE]
 by_cases h1:i<j
 .rw[aS h1,h.2.2 i h1];simp;omega
 rw[aR h1]
 by_cases h2:i=j
 .rw[aS h2,h2,h.2.1];simp
 rw[aR h2];cases s.getLsbD i<;>simp[h2]
def Ay:List Int:=[0,1,56,2,57,49,28,3,61,58,42,50,38,29,17,4,62,47,59,36,45,43,51,22,53,39,33,30,24,18,12,5,63,55,48,27,60,41,37,16,46,35,44,21,52,32,23,11,54,26,40,15,34,20,31,10,25,14,19,9,13,8,7,6]
def tz(s:BitVec 64):Int:=if s=0#64 then 64 else Ay.getD (((s&&& -s)*285870213051353865#64)>>>58).toNat 0
theorem afS(x:BitVec 64):0<=((x>>>58).toNat:Int)/\((x>>>58).toNat:Int)<(64:Nat):=by
 have:(x>>>58).toNat<64:=by
  rw[W8,ae2]
  have:=x.isLt
  omega
 omega
theorem aqZ{s:BitVec 64}{j:Nat}(h:Low s j):tz s=j:=by
 have hne:s≠0#64:=fun e=>by have:=h.2.1;rw[e]at this;simp at this
 rw[tz,aR hne,alH h]
 have key:∀k:Fin 64,Ay.getD (((1#64<<<k.val)*285870213051353865#64)>>>58).toNat 0=(k.val:Int):=by decide+kernel
 exact key ⟨j,h.1⟩
theorem RQ{s:BitVec 64}(h:s≠0#64):gA s=tz s::gA (s&&&(s-1#64)):=by
 obtain⟨j,hj⟩:=Yn h
 rw[aqZ hj];exact alG hj
theorem RR{s:BitVec 64}(h:s≠0#64):(gA (s&&&(s-1#64))).length<(gA s).length:=by
 rw[RQ h];simp
def av3:List Nat->Nat
 |[]=>0
 |d::r=>2^8*av3 r+d
def aLS(x:Nat):List Nat:=[x%256,x/256%256,x/65536%256,x/16777216%256,x/4294967296%256,x/1099511627776%256,x/281474976710656%256,x/72057594037927936%256]
def g1(d:Nat):Nat:=((d>>>1)&&&85)+(d&&&85)
def g2(d:Nat):Nat:=((d>>>2)&&&51)+(d&&&51)
def pc8(d:Nat):Nat:=(List.range 8).countP d.testBit
def aLT(s:BitVec 64)(k:Int):Int×Bool:=if 0<=k/\k<(gA s).length then((gA s).getD k.toNat 0,true)else(0,false)
def kAt(k:Int)(n:Nat):Int:=if k-n< -9223372036854775808 then k-n+18446744073709551616 else k-n
theorem av4{s:BitVec 64}(h:s≠0#64):Ay.getD (((s&&& -s)*285870213051353865#64)>>>58).toNat 0=tz s:=by rw[tz,aR h]
theorem alI{a b:BitVec 64}{k:Int}(h0:0<=k)(hk:k<(gA a).length)(h:(!hasB b ((gA a).getD k.toNat 0))=true):dX a b=false:=by grind[TW,gA]
theorem afT{a b:BitVec 64}(hf:∀j:Int,0<=j->j<(gA a).length->hasB b ((gA a).getD j.toNat 0)=true):dX a b=true:=by
 rw[TW,iN]
 intro x hx
 obtain⟨i,hi,rfl⟩:=th hx
 have:=hf i J J
 simpa[eS,hi]using this
def aCW(s:BitVec 64):Int×Bool:=if s=0#64 then(0,false)else(tz s,true)
theorem H6(a b:BitVec 64):dX a (a|||b)=true:=by grind[FR]
theorem FU(a b:BitVec 64):dX (a&&&b) a=true:=by grind[FR]
end Go.Proofs.YtlhjdflgjbkpmaaGreatDoor.M
namespace Go.Proofs.YtlhjdflgjbkpmaaGreatDoor.E
section
open Go Go.RowKit Go.Proofs.YtlhjdflgjbkpmaaGreatDoor.M
def oG(w:World):Prop:=∀j,j<64->w.cell? ⟨0,j,none⟩=some (.int .u8 (Ay.getD j 0))
theorem oG.below{w w':World}(h:oG w)(hb:Below w.heap.size w w'):oG w':=fun j hj=>by
 have h1:=h j hj
 rw[hb.cell (World.block_lt_of_cell? w _ h1)];exact h1
theorem oG.hp{w0 w:World}{L:List a7}(h:oG w0)(hH:Hp w0 w L):oG w:=h.below hH.below
theorem oG.at{w:World}(h:oG w)(x:BitVec 64):w.cell? ⟨0,0+(((x>>>58).toNat:Int)).toNat*1,none⟩=some (.int .u8 (Ay.getD (x>>>58).toNat 0)):=by
 have h2:=h (x>>>58).toNat (by have:=afS x;omega)
 generalize(x>>>58).toNat=j at*
 simpa using h2
theorem afU(j:Nat):0<=Ay.getD j 0/\Ay.getD j 0<=63:=by
 by_cases h:j<64
 .have key:∀k:Fin 64,0<=Ay.getD k.val 0/\Ay.getD k.val 0<=63:=by decide+kernel
  exact key ⟨j,h⟩
 have:Ay.getD j 0=0:=by
  rw[eS,ny (by simp[Ay];omega)];rfl
 omega
theorem alJ{x:Int}(h:0<=x/\x<=63): -9223372036854775808<=x/\x<=9223372036854775807:=J
theorem Hp.EV{w0 w:World}{L:List a7}{b:Nat}{c:List Value}{e:TypeId}(h:Hp w0 w (.blk b (.cells c.toArray e (0,0))::L))(n sz:Nat)(hc:c.length=n*sz)(hn:n<=maxLen):
  Hp w0 w (.row (.slice (some ⟨b,0,none⟩) n n) e sz n c::L):=by
 refine⟨h.below,fun x hx=> ?_,?_⟩
 .rcases cQ.1 hx with rfl|hx
  .have h1:=h.ok _ (tQ ..)
   exact⟨hc,.inr ⟨b,n,c.toArray,rfl,h1.1,h1.2,er _,hn,by simpa using hc,by simp[<-hc]⟩⟩
  exact h.ok x (fC _ hx)
 exact List.Pairwise.cons (fun y hy=>(lA.1 h.LC).1 y hy) (lA.1 h.LC).2
section drawn
variable{P:Program}{n:Nat}{l:List Oper}{S:World->Prop}{k:K}{xs:List (Nat×K)}{r:K}{σ:Env}{w w0:World}{L L' WN:List a7}{fuel i d:Nat}{listed:Array Bool}{op:Op}{ty:TypeId}{pos:String}{bK:Array Edge}{g:Option (Nat×Bool)}{v:Value}{dst:Option Tmp}
theorem gK{id:Nat}(hm:P.follows .mixedOrders=true)(hH:Hp w0 w L)(hs:L'.Sublist L)
  (h:∀w',Hp w0 w' L->AN P n l (fun w=>Hp w0 w L') k l.length (Array.replicate l.length false) σ w'):CW P n (.region id l.toArray true) k xs r σ w:=by
 intro a ha
 refine yT (fun e a' w' hq=> ?_) (XI (id:=id) (Q:=rB n k) hm (XJ (S:=fun w=>Hp w0 w L') _ _ _ _ ?_))
 .cases e with
  |normal=>exact hq
  |exit id=>exact hq.elim
  |ret=>exact hq.elim
  |goto l=>exact hq.elim
  |panic c=>exact hq.elim
  |outgrown=>exact hq.elim
 have:=h _ hH.drew a ha
 simpa using this
theorem gD(i j:Nat)(hr:Region.ready .any l.toArray listed=[i,j])(h1:AO P n l S k fuel listed σ w i)(h2:AO P n l S k fuel listed σ w j):AN P n l S k (fuel+1) listed σ w:=by simp_all[afJ]
theorem cr(hi:l[i]?=some ⟨some d,op,ty,pos,bK,g⟩)(hg:∀a,Is n σ a->Region.wanted ⟨some d,op,ty,pos,bK,g⟩ (yielded l.toArray a.tmps)=true)(hd:Nat.blt d n=true)
  (hH:Hp w0 w WN) (hs:L'.Sublist WN) (hr:(execOp (ev σ) ⟨some d,op,ty,pos,bK,g⟩).run P w= .ok (.value v) w)
  (h:AN P n l (fun w=>Hp w0 w L') k fuel (listed.setIfInBounds i true) (lG σ d v) w):AO P n l (fun w=>Hp w0 w L') k fuel listed σ w i:=
 B4 hi hg hd hr (hH.sub hs) h
theorem dU{j b:Nat}{c c':Array Value}{e:TypeId}(hi:l[i]?=some ⟨none,op,ty,pos,bK,g⟩)(hg:∀a,Is n σ a->Region.wanted ⟨none,op,ty,pos,bK,g⟩ (yielded l.toArray a.tmps)=true)
  (hH:Hp w0 w WN) (hj:WN[j]?=some (.blk b (.cells c e (0,0)))) (hs:L'.Sublist (WN.set j (.blk b (.cells c' e (0,0)))))
  (hr:(execOp (ev σ) ⟨none,op,ty,pos,bK,g⟩).run P w= .ok .skip (w.setRow b c'))
  (h:∀w',Hp w0 w' (WN.set j (.blk b (.cells c' e (0,0))))->AN P n l (fun w=>Hp w0 w L') k fuel (listed.setIfInBounds i true) σ w'):AO P n l (fun w=>Hp w0 w L') k fuel listed σ w i:=
 LD hi hg hr ((hH.set hj).sub hs) (h _ (hH.set hj))
end drawn
theorem bj{w:World}{base:Nat}{e:TypeId}{sz n:Nat}{v:Value}{xs:List Value}(h:w.ownsRow base e sz v n xs):v.cells=#[v]/\v.oneCell'=true:=by
 rcases h.2 with⟨rfl,_⟩|⟨g,cap,cur,rfl,_⟩<;>exact⟨rfl,rfl⟩
theorem Sl.conv{w:World}{v:Value}{sz n n':Nat}{c c':List Value}(h:Sl w v sz n c)(hn:n=n')(hc:c=c'):Sl w v sz n' c':=by subst hn hc;exact h
def q7(v:Value)(k:Nat):Value:=
 match v with
 | .slice a _ c=> .slice a k c
 |v=>v
theorem Sl.cut{w:World}{v:Value}{sz n:Nat}{cells:List Value}(h:Sl w v sz n cells)(k:Nat)(hk:k<=n):Sl w (q7 v k) sz k (cells.take (k*sz)):=by
 obtain⟨a,cap,hv,hnc,ha⟩:=h.shape
 subst hv
 have e1:sb (.slice a k cap)=sb (.slice a n cap):=by cases a<;>rfl
 have e2:so (.slice a k cap)=so (.slice a n cap):=by cases a<;>rfl
 refine⟨⟨a,cap,rfl,J,fun h0=> ?_⟩,?_,fun j c hc=> ?_,kM hk h.small⟩
 .show a=some ⟨sb (.slice a k cap),so (.slice a k cap),none⟩
  rw[e1,e2];exact ha J
 .rw[eP,h.len];exact rz (ry _ hk)
 show w.cell? ⟨sb (.slice a k cap),so (.slice a k cap)+j,none⟩=some c
 rw[e1,e2]
 rw[uF]at hc
 split at hc
 .exact h.cell j c hc
 .cases hc
section av5
variable{P:Program}{σ:Env}{w:World}{dst:Option Tmp}{ty t:TypeId}{pos:String}{bK:Array Edge}{g:Option (Nat×Bool)}{x y:Operand}{v:Value}{sz n:Nat}{cells:List Value}{k:IntKind}{i:Int}
theorem wx{e:TypeId}(hS:Sl w v sz n cells)(hu:P.underlying t=some (.slice e))(hs:∀w,(sizeOf e).run P w= .ok sz w)(hx:ev σ x=v)(hy:ev σ y= .int k i)(hi:0<=i/\i<=n):
  (execOp (ev σ) ⟨dst,.slice t x none (some y) none,ty,pos,bK,g⟩).run P w= .ok (.value (q7 v i.toNat)) w:=by
 obtain⟨a,cap,hv,hnc,ha⟩:=hS.shape
 subst hv
 have h1:0<=i/\i<=(cap:Int):=J
 have h2:(Instr.slice t (.slice a n cap) none (some (.int k i)) none).run P w= .ok (.slice a i.toNat cap) w:=by
  simp[Instr.slice,Instr.sliceBounds,Instr.sliceBound,kr hu,asIntOf,h1,hs]
  intro h;cases a<;>rfl
 have h3:(Instr.sliceAt t (.slice a n cap) none (some (.int k i)) none).run P w= .ok (.slice a i.toNat cap) w:=by
  simp[Instr.sliceAt,kr hu,h2]
 simp[execOp,hx,hy,h3,q7]
end av5
end
end Go.Proofs.YtlhjdflgjbkpmaaGreatDoor.E
namespace Go.Proofs.YtlhjdflgjbkpmaaGreatDoor.M
theorem nt{b:Bool}(h:(!b)=true):b=false:=by cases b;rfl;cases h
theorem nf{b:Bool}(h:(!b)=false):b=true:=by cases b;cases h;rfl
structure Rl where
 n:Int
 up:Nat->BitVec 64
def Rl.put(r:Rl)(i:Nat)(x:BitVec 64):Rl:=⟨r.n,fun j=>if j=i then x else r.up j⟩
def Rl.eq(a b:Rl):Prop:=a.n=b.n/\∀i,i<64->a.up i=b.up i
instance(a b:Rl):Decidable (a.eq b):=inferInstanceAs (Decidable (a.n=b.n/\∀i,i<64->a.up i=b.up i))
def Rl.none:Rl:=⟨0,fun _=>0#64⟩
def pts(r:Rl):Int:=max 0 (min r.n 64)
theorem dr(r:Rl):0<=pts r/\pts r<=64:=by unfold pts;omega
def A2(r:Rl)(i:Int):Bool:=decide (0<=i/\i<pts r)
def bH(r:Rl)(i j:Int):Bool:=A2 r i&&A2 r j&&(r.up i.toNat).getLsbD j.toNat
theorem qC{r:Rl}{i:Int}:A2 r i=true↔0<=i/\i<pts r:=by simp[A2]
theorem aq0{r:Rl}{i:Int}(h:A2 r i=true):0<=i/\i<64:=by have:=dr r;have:=qC.1 h;omega
theorem afV{r:Rl}{i:Int}(h:A2 r i=true):zk i=true:=by grind[aq0,zk]
theorem alK{r:Rl}{i j:Int}(hi:A2 r i=true)(hj:A2 r j=true):hasB (r.up i.toNat) j=bH r i j:=by grind[bH,hasB,afV]
theorem Kl{r:Rl}{i j:Int}(hi:A2 r i=false):bH r i j=false:=by rw[bH,hi];rfl
theorem RT{r:Rl}{i j:Int}(hj:A2 r j=false):bH r i j=false:=by rw[bH,hj];simp
theorem alL{r:Rl}{i j:Int}(hi:0<=i)(hj:0<=j)(hi2:i<pts r)(hj2:j<pts r):decide ((r.up i.toNat>>>(BitVec.ofInt 64 j).toNat)%2#64=1#64)=bH r i j:=by grind[Rl,pts,bH,dr,alK,qC,hasB,afV,nW,Kk]
theorem Km{r:Rl}{i j:Int}(h:¬(0<=i/\0<=j/\i<pts r/\j<pts r)):bH r i j=false:=by grind[bH,A2,qC]
def uT(r:Rl)(i:Int):BitVec 64:=r.up i.toNat&&&below (pts r)
def zn(r:Rl)(i:Int):BitVec 64:=afN (uT r i) i
def D0(n:Int)(f:Nat->BitVec 64)(k:Int):Rl:=⟨n,fun i=>if(i:Int)<k then f i else 0#64⟩
theorem xo{n:Int}{f h:Nat->BitVec 64}(e:∀i,f i=h i):(⟨n,f⟩:Rl)=⟨n,h⟩:=by rw[show f=h from funext e]
theorem H7(n:Int)(f:Nat->BitVec 64):(⟨n,fun _=>0#64⟩:Rl)=D0 n f 0:=by grind[Rl,D0,xo]
theorem LL{n:Int}{f:Nat->BitVec 64}{k:Int}{x:BitVec 64}(h:0<=k)(hx:x=f k.toNat):(D0 n f k).put k.toNat x=D0 n f (k+1):=xo fun i=>by
 show(if i=k.toNat then x else if(i:Int)<k then f i else 0#64)=if(i:Int)<k+1 then f i else 0#64
 by_cases h1:i=k.toNat
 .subst h1;rw[aS O,aS J,hx]
 rw[aR h1]
 by_cases h2:(i:Int)<k
 .rw[aS h2,aS J]
 rw[aR h2,aR J]
def ey(r:Rl):Rl:=D0 (pts r) (fun i=>uT r i) (pts r)
theorem aax(r:Rl)(i:Int)(j:Nat):(uT r i).getLsbD j=((r.up i.toNat).getLsbD j&&decide (j<64/\(j:Int)<pts r)):=by grind[uT,fh]
theorem uo(r:Rl){i:Int}(hi:0<=i/\i<pts r)(j:Nat):(uT r i).getLsbD j=bH r i j:=by grind[dr,aax,bH,qC,A2,pts]
def qD(r:Rl)(i k:Int):List Int:=(upto k).filter (bH r i ·)
theorem acM{r:Rl}{i k:Int}(h0:0<=k)(h:bH r i k=true):qD r i k++[k]=qD r i (k+1):=by grind[qD,gT]
theorem acN{r:Rl}{i k:Int}(h0:0<=k)(h:bH r i k=false):qD r i k=qD r i (k+1):=by grind[qD,gT]
theorem Pa{r:Rl}{i k:Int}:(qD r i k).length<=k.toNat:=by grind[Rl,qD,bH,upto,sH]
theorem acO{r:Rl}{i:Int}(hi:0<=i/\i<pts r):kO (qD r i (pts r))=uT r i:=ew fun j hj=>by
 rw[gS,uo r hi,gQ hj,l8,gP]
 simp only[qD,EC,eo,xb,cN]
 refine⟨fun h=>h.2,fun h=>⟨?_,h⟩⟩
 have:A2 r j=true:=by
  simp only[bH,cG]at h;exact h.1.2
 exact qC.1 this
def wz(f:Int->BitVec 64)(l:List Int):BitVec 64:=l.foldl (fun a i=>a|||f i) 0#64
theorem LM{f:Int->BitVec 64}{l:List Int}{k:Int}(h0:0<=k)(h:k<l.length):wz f (l.take k.toNat)|||f (l.getD k.toNat 0)=wz f (l.take (k+1).toNat):=by grind[O8,wz]
theorem T1(f:Int->BitVec 64):∀(l:List Int) (a:BitVec 64) (j:Nat),(l.foldl (fun a i=>a|||f i) a).getLsbD j=(a.getLsbD j||l.any fun i=>(f i).getLsbD j)
 |[],a,j=>by simp
 |i::l,a,j=>by rw[rA,T1 f l,Xs,List.any_cons,Bool.or_assoc]
theorem H8(f:Int->BitVec 64)(l:List Int)(j:Nat):(wz f l).getLsbD j=l.any fun i=>(f i).getLsbD j:=by rw[wz,T1];simp
theorem Yo{s:BitVec 64}{k:Int}(h0:0<=k)(h:k<(gA s).length):hasB s ((gA s).getD k.toNat 0)=true:=by grind[fN,List.getElem?_eq_getElem,List.getElem_mem]
theorem zo{s:BitVec 64}{i:Int}(h:hasB s i=true):0<=i/\i<64:=by grind[hasB,zk]
theorem Pb{s:BitVec 64}{k:Int}(h0:0<=k)(h:k<(gA s).length):0<=(gA s).getD k.toNat 0/\(gA s).getD k.toNat 0<64:=zo (Yo h0 h)
def upR(r:Rl)(s:BitVec 64):BitVec 64:=wz (uT r) (gA (s&&&below (pts r)))
def xp(r:Rl)(s:BitVec 64)(k:Int):BitVec 64:=nX (fun i=>decide (uT r i&&&s≠0#64)) k.toNat
def D1(r:Rl)(s:BitVec 64):BitVec 64:=xp r s (pts r)
theorem afX{p:Nat->Bool}{k:Int}(h0:0<=k)(hk:k<64)(h:p k.toNat=true):uS (nX p k.toNat) k=nX p (k+1).toNat:=ew fun j hj=>by
 rw[xn,j3,j3]
 by_cases h1:(j:Int)=k
 .have:j=k.toNat:=J
  subst this
  have h2:k.toNat<(k+1).toNat:=J
  rw[gQ h2,gQ hj,gQ h1,h];simp
 have h3:(j<k.toNat)↔(j<(k+1).toNat):=J
 rw[gO h1,show decide (j<k.toNat)=decide (j<(k+1).toNat)from Rc.2 h3];simp
theorem afY{p:Nat->Bool}{k:Int}(h0:0<=k)(h:p k.toNat=false):nX p k.toNat=nX p (k+1).toNat:=ew fun j hj=>by
 rw[j3,j3]
 by_cases h1:j=k.toNat
 .subst h1;rw[h];simp
 have h3:(j<k.toNat)↔(j<(k+1).toNat):=J
 rw[show decide (j<k.toNat)=decide (j<(k+1).toNat)from Rc.2 h3]
theorem afZ{r:Rl}{s:BitVec 64}{k:Int}(h0:0<=k)(hk:k<64)(h:uT r k&&&s≠0#64):uS (xp r s k) k=xp r s (k+1):=by grind[Rl,uT,uS,xp,afX]
theorem af0{r:Rl}{s:BitVec 64}{k:Int}(h0:0<=k)(h:¬uT r k&&&s≠0#64):xp r s k=xp r s (k+1):=by grind[Rl,uT,xp,afY]
def pL(u:Nat->BitVec 64)(k:Int):Nat->BitVec 64:=fun i=>if(i:Int)<k then uS (u i) i else u i
theorem acP(n:Int)(u:Nat->BitVec 64):(⟨n,u⟩:Rl)=⟨n,pL u 0⟩:=by grind[Rl,pL,xo]
theorem af1{n k:Int}{u:Nat->BitVec 64}(h0:0<=k):Rl.put ⟨n,pL u k⟩ k.toNat (uS (pL u k k.toNat) k)=⟨n,pL u (k+1)⟩:=xo fun i=>by
 show(if i=k.toNat then uS (pL u k k.toNat) k else pL u k i)=pL u (k+1) i
 unfold pL
 by_cases h1:i=k.toNat
 .subst h1
  rw[aS O,aR J,aS J,fW h0]
 rw[aR h1]
 by_cases h2:(i:Int)<k
 .rw[aS h2,aS J]
 rw[aR h2,aR J]
def jJ(m:Nat)(k:Int)(u:Nat->BitVec 64):Nat->BitVec 64:=fun i=>if(i:Int)<k/\(u i).getLsbD m=true then u i|||u m else u i
theorem acQ(m:Nat)(n:Int)(u:Nat->BitVec 64):(⟨n,u⟩:Rl)=⟨n,jJ m 0 u⟩:=by grind[Rl,jJ,xo]
theorem af2(m:Nat)(k:Int)(u:Nat->BitVec 64):jJ m k u m=u m:=by grind[jJ]
theorem T2{n m k:Int}{u:Nat->BitVec 64}(m0:0<=m)(h0:0<=k)(h:hasB (jJ m.toNat k u k.toNat) m=true):
  Rl.put ⟨n,jJ m.toNat k u⟩ k.toNat (jJ m.toNat k u k.toNat|||jJ m.toNat k u m.toNat)=⟨n,jJ m.toNat (k+1) u⟩:=xo fun i=>by
 rw[hasB,cG]at h
 have e:jJ m.toNat k u k.toNat=u k.toNat:=aR J
 rw[e]at h⊢
 rw[af2]
 show(if i=k.toNat then u k.toNat|||u m.toNat else jJ m.toNat k u i)=jJ m.toNat (k+1) u i
 unfold jJ
 by_cases h1:i=k.toNat
 .subst h1
  rw[aS O,aS ⟨J,h.2⟩]
 rw[aR h1]
 have:((i:Int)<k)↔((i:Int)<k+1):=J
 simp only[this]
theorem af3{n m k:Int}{u:Nat->BitVec 64}(m0:0<=m/\m<64)(h0:0<=k)(h:hasB (jJ m.toNat k u k.toNat) m=false):(⟨n,jJ m.toNat k u⟩:Rl)=⟨n,jJ m.toNat (k+1) u⟩:=by grind[xo,jJ,hasB,zk]
def wall(n:Int)(u:Nat->BitVec 64):Nat->Nat->BitVec 64
 |0=>u
 |m+1=>jJ m n (wall n u m)
theorem acR{n m:Int}{u:Nat->BitVec 64}(h:0<=m):(⟨n,jJ m.toNat n (wall n u m.toNat)⟩:Rl)=⟨n,wall n u (m+1).toNat⟩:=by
 rw[show(m+1).toNat=m.toNat+1 by omega];rfl
def gX(r:Rl):Rl:=⟨pts r,wall (pts r) (pL (ey r).up (pts r)) (pts r).toNat⟩
theorem aq1{l:List Int}{x k:Int}(h0:0<=k)(h:k<l.length)(e:l.getD k.toNat 0=x):l.contains x=true:=by grind
theorem av6{l:List Int}{x:Int}(hf:∀j:Int,0<=j->j<l.length->l.getD j.toNat 0≠x):l.contains x=false:=by
 rw[EC,wv]
 intro h
 obtain⟨i,hi,rfl⟩:=th h
 refine hf i J J ?_
 simp[eS,hi]
end Go.Proofs.YtlhjdflgjbkpmaaGreatDoor.M
namespace Go.Proofs.YtlhjdflgjbkpmaaGreatDoor.E
section
open Go Go.RowKit Go.Proofs.YtlhjdflgjbkpmaaGreatDoor.M
def vP(r:Rl):List Value:=I r.n::(List.range 64).map fun i=>U (r.up i)
@[irreducible] def dP(r:Rl):Array Value:=(vP r).toArray
theorem ja(r:Rl):dP r=(vP r).toArray:=by unfold dP;rfl
theorem o7(r:Rl):(vP r).length=65:=by simp[vP]
theorem HP(r:Rl):(dP r).size=65:=by rw[ja];simp[vP]
theorem fy(r:Rl):(dP r)[0]?=some (I r.n):=by rw[ja];simp[vP]
theorem wA(r:Rl){i:Nat}(h:i<64):(dP r)[0+1+i*1]?=some (U (r.up i)):=by
 rw[ja,show 0+1+i*1=i+1 by omega];simp[vP,h]
theorem LN(r:Rl):∀u∈dP r,u.oneCell'=true:=by
 rw[ja];simp[vP]
 exact⟨rfl,fun _ _=>rfl⟩
theorem xX(r:Rl)(i:Nat)(x:BitVec 64):(dP r).setIfInBounds (0+1+i*1) (U x)=dP (r.put i x):=by
 rw[ja,ja]
 apply Q6
 intro j
 rw[Bz]
 simp only[EB,Aq,o7]
 cases j with
 |zero=>
  rw[aR J]
  simp[vP,Rl.put]
 |succ j=>
  simp only[vP,List.getElem?_cons_succ,pW]
  by_cases h:i=j
  .subst h
   rw[aS J]
   by_cases h2:i<64
   .rw[aS J];simp[h2,Rl.put]
   rw[aR J];simp[h2]
  rw[aR J]
  by_cases h2:j<64
  .have h3:¬j=i:=fun e=>h e.symm
   simp[h2,Rl.put,h3]
  simp[h2]
section runs
variable{P:Program}{σ:Env}{w:World}{dst:Option Tmp}{ty t u:TypeId}{pos:String}{bK:Array Edge}{g:Option (Nat×Bool)}{x y:Operand}{b:Nat}{e:TypeId}{r:Rl}{fr:Nat×Nat}
theorem dx{ps:List (Nat×Operand)}{vs:List (Nat×Value)}{cells:Array Value}(h:ps.map (fun p=>(p.1,ev σ p.2))=vs)(hb:P.built t vs=some cells):
 (execOp (ev σ) ⟨dst,.build t ps.toArray,ty,pos,bK,g⟩).run P w= .ok (.value (.agg cells)) w:=Go.Proofs.YtlhjdflgjbkpmaaGreatDoor.E.run_build h hb
theorem bp{c:List Value}(hg:w.heap[b]?=some (.cells c.toArray e fr)):w.rangeAt b 0 c:=fun j v hj=>by
 unfold World.cell?
 simp only[hg]
 simpa using hj
theorem aQ{d:TypeDesc}(hu:P.underlying t=some d)(hd:d.isRow=true)(hi:(P.info? t).map (·.size)=some 65)(hx:ev σ x= .pointer (some ⟨b,0,none⟩))
 (hg:w.heap[b]?=some (.cells (dP r) e fr)):(execOp (ev σ) ⟨dst,.load t x,ty,pos,bK,g⟩).run P w= .ok (.value (.agg (dP r))) w:=by grind[ja,cM,o7,bp]
theorem mN{r0:Rl}(hi:(P.info? t).map (·.size)=some 65)(hx:ev σ x= .pointer (some ⟨b,0,none⟩))(hy:ev σ y= .agg (dP r))(hg:w.heap[b]?=some (.cells (dP r0) e (0,0))):
 (execOp (ev σ) ⟨dst,.store t x y,ty,pos,bK,g⟩).run P w= .ok .skip (w.setRow b (dP r)):=by grind[dF,HP,LN]
theorem aCX(a b:BitVec 64):(((a.toNat:Nat):Int)==((b.toNat:Nat):Int))=decide (a=b):=by grind[BitVec.eq_of_toNat_eq]
theorem aoG(d:Nat){t e:TypeId}{len:Nat}(f h:Nat->BitVec 64)(hu:P.underlying t=some (.array len e))(he:P.underlying e=some (.int .u64))(hs:∀w,(sizeOf e).run P w= .ok 1 w)(ha:∀w,(isAgg e).run P w= .ok false w):
  (Op.equalIn (d+1+1) t (.agg ((List.range len).map fun i=>U (f i)).toArray) (.agg ((List.range len).map fun i=>U (h i)).toArray)).run P w= .ok (decide (∀i,i<len->f i=h i)) w:=by
 unfold Op.equalIn
 simp only[rK,kr hu,uG,hs]
 rw[Std.Legacy.Range.forIn_eq_forIn_range']
 have key:∀(n s:Nat),s+n<=len->(Sem.run P (forIn (List.range' s n 1) ((none:Option Bool),()) fun i __s=>do
      let __do_lift<-part e (List.map (fun i=>U (f i)) (List.range len)).toArray (i*1)
      let T3<-part e (List.map (fun i=>U (h i)) (List.range len)).toArray (i*1)
      let __do_lift<-Op.equalIn (d+1) e __do_lift T3
      if(!__do_lift)=true then pure (ForInStep.done (some false,()))else pure (ForInStep.yield (none,()))) w)
   = .ok (if∀i,i<n->f (s+i)=h (s+i)then(none,())else(some false,())) w:=by
  intro n
  induction n with
  |zero=>
   intro s hs2
   have:∀i,i<0->f (s+i)=h (s+i):=fun i b=>by omega
   rw[aS this];rfl
  |succ n ih=>
   intro s hs2
   have hp:∀g:Nat->BitVec 64,(part e (List.map (fun i=>U (g i)) (List.range len)).toArray (s*1)).run P w= .ok (U (g s)) w:=fun g=>by
    simp[part,ha,show s<len by omega]
   rw[List.range'_succ,List.forIn_cons]
   simp only[rK,hp,uG,K8 w d e .u64 .u64 _ _ he,aCX]
   by_cases h1:f s=h s
   .rw[gQ h1]
    simp only[Bool.not_true,tR,xj,Sem.run_pure,uG]
    rw[ih (s+1) J]
    by_cases h2:∀i,i<n->f (s+1+i)=h (s+1+i)
    .have h3:∀i,i<n+1->f (s+i)=h (s+i):=fun i a=>by
      cases i with
      |zero=>exact h1
      |succ i=>have:=h2 i J;rwa[show s+1+i=s+(i+1)by omega]at this
     rw[aS h2,aS h3]
    have h3:¬∀i,i<n+1->f (s+i)=h (s+i):=fun h3=>h2 fun i a=>by
     have:=h3 (i+1) J;rwa[show s+(i+1)=s+1+i by omega]at this
    rw[aR h2,aR h3]
   rw[gO h1]
   have h3:¬∀i,i<n+1->f (s+i)=h (s+i):=fun h3=>h1 (h3 0 J)
   rw[aR h3]
   simp only[Bool.not_false,uL,Sem.run_pure,uG]
 have k2:=key len 0 J
 have e0:(Std.Legacy.Range.mk 0 len 1 az).size=len:=by simp[Std.Legacy.Range.size]
 simp only[e0]
 rw[k2]
 by_cases h2:∀i,i<len->f i=h i
 .have h3:∀i,i<len->f (0+i)=h (0+i):=fun i b=>by rw[ia];exact h2 i b
  rw[aS h3,gQ h2];rfl
 have h3:¬∀i,i<len->f (0+i)=h (0+i):=fun h3=>h2 fun i b=>by have:=h3 i b;rwa[ia]at this
 rw[aR h3,gO h2];rfl
theorem acS(r:Rl):(dP r).extract 1 (1+64)=((List.range 64).map fun i=>U (r.up i)).toArray:=by grind[ja,vP]
structure alM(P:Program)(t:TypeId)(f0 f1:Field)(e:TypeId):Prop where
 u:P.underlying t=some (.struct (P.fieldsOf t))
 f:P.fieldsOf t=#[f0,f1]
 n0:f0.name≠ "_"
 n1:f1.name≠ "_"
 o0:f0.offset=0
 o1:f1.offset=1
 u0:P.underlying f0.type=some (.int .i64)
 a0:∀w,(isAgg f0.type).run P w= .ok false w
 u1:P.underlying f1.type=some (.array 64 e)
 a1:∀w,(isAgg f1.type).run P w= .ok true w
 s1:∀w,(sizeOf f1.type).run P w= .ok 64 w
 ue:P.underlying e=some (.int .u64)
 se:∀w,(sizeOf e).run P w= .ok 1 w
 ae:∀w,(isAgg e).run P w= .ok false w
 st:P.stoodInHeld t=false
 eg:P.eqGuardType P.depth t=false
theorem alM.eql{f0 f1:Field}(T:alM P t f0 f1 e)(a b:Rl)(w:World):(Op.equalIn 10000 t (.agg (dP a)) (.agg (dP b))).run P w= .ok (decide (a.eq b)) w:=by
 rw[Xn w 9999 t _ _ T.u T.st,T.f]
 have p0:∀r:Rl,(part f0.type (dP r) f0.offset).run P w= .ok (I r.n) w:=fun r=>by
  rw[T.o0];have:=fy r;simp[part,T.a0,this]
 have p1:∀r:Rl,(part f1.type (dP r) f1.offset).run P w= .ok (.agg ((List.range 64).map fun i=>U (r.up i)).toArray) w:=fun r=>by
  rw[T.o1,<-acS];simp[part,T.a1,T.s1]
 have e0:(Op.equalIn 9999 f0.type (I a.n) (I b.n)).run P w= .ok (a.n==b.n) w:=K8 w 9998 _ .i64 .i64 _ _ T.u0
 have e1:(Op.equalIn 9999 f1.type (.agg ((List.range 64).map fun i=>U (a.up i)).toArray) (.agg ((List.range 64).map fun i=>U (b.up i)).toArray)).run P w= .ok (decide (∀i:Nat,i<64->a.up i=b.up i)) w:=
  aoG 9997 _ _ T.u1 T.ue T.se T.ae
 simp only[Op.eqFields,T.n0,T.n1,ne_eq,Xt,uL,rK,p0,e0,uG]
 by_cases h0:a.n=b.n
 .by_cases h1:∀i,i<64->a.up i=b.up i
  .rw[gQ h1]at e1
   rw[gQ (show a.eq b from⟨h0,h1⟩)];simp[h0,p1,e1]
  rw[gO h1]at e1
  rw[gO (show¬a.eq b from fun h=>h1 h.2)];simp[h0,p1,e1]
 rw[gO (show¬a.eq b from fun h=>h0 h.1)];simp[h0]
theorem EW{f0 f1:Field}{a b:Rl}(T:alM P t f0 f1 e)(hx:ev σ x= .agg (dP a))(hy:ev σ y= .agg (dP b)):
  (execOp (ev σ) ⟨dst,.binOp .eql t x y u,ty,pos,bK,g⟩).run P w= .ok (.value (.bool (decide (a.eq b)))) w:=by
 have h:=run_eql_struct (P:=P) w t (dP a) (dP b)
 rw[T.eql]at h
 simp only[execOp,hx,hy,rK,Rf w .eql t x y _ _ T.eg,uG]
 simp[h]
structure aoH(P:Program)(t:TypeId)(f0 f1:Field):Prop where
 u:P.underlying t=some (.struct (P.fieldsOf t))
 f:P.fieldsOf t=#[f0,f1]
 n0:f0.name≠ "_"
 n1:f1.name≠ "_"
 o0:f0.offset=0
 o1:f1.offset=1
 u0:P.underlying f0.type=some (.int .i64)
 a0:∀w,(isAgg f0.type).run P w= .ok false w
 u1:P.underlying f1.type=some (.int .i64)
 a1:∀w,(isAgg f1.type).run P w= .ok false w
 st:P.stoodInHeld t=false
 eg:P.eqGuardType P.depth t=false
theorem aoH.eql{f0 f1:Field}(T:aoH P t f0 f1)(a b c d:Int)(w:World):(Op.equalIn 10000 t (.agg #[I a,I b]) (.agg #[I c,I d])).run P w= .ok (decide ((a,b)=(c,d))) w:=by
 rw[Xn w 9999 t _ _ T.u T.st,T.f]
 have p0:∀x y:Int,(part f0.type #[I x,I y] f0.offset).run P w= .ok (I x) w:=fun x y=>by
  rw[T.o0];simp[part,T.a0]
 have p1:∀x y:Int,(part f1.type #[I x,I y] f1.offset).run P w= .ok (I y) w:=fun x y=>by
  rw[T.o1];simp[part,T.a1]
 have e0:(Op.equalIn 9999 f0.type (I a) (I c)).run P w= .ok (a==c) w:=K8 w 9998 _ .i64 .i64 _ _ T.u0
 have e1:(Op.equalIn 9999 f1.type (I b) (I d)).run P w= .ok (b==d) w:=K8 w 9998 _ .i64 .i64 _ _ T.u1
 simp only[Op.eqFields,T.n0,T.n1,ne_eq,Xt,uL,rK,p0,e0,uG]
 by_cases h0:a=c
 .subst h0
  by_cases h1:b=d
  .subst h1;simp[p1,e1]
  simp[p1,e1,h1]
 simp[h0]
theorem af4{w0 w:World}{fn:Func}{L:List a7}{i p:Nat}{q:Value->World->Prop}{d:TypeDesc}{ty:TypeId}(h:fn.results=#[.cell p ty])(hp:σ p= .pointer (some ⟨b,0,none⟩))(hH:Hp w0 w L)
  (hi:L[i]?=some (.blk b (.cells (dP r) e fr))) (hu:P.underlying ty=some d) (hd:d.isRow=true) (hz:(P.info? ty).map (·.size)=some 65) (hq:q (.agg (dP r)) w):Out P fn q σ w:=
 fun n a ha=>⟨_,results_cell_row h _ w b e (dP r) fr d (by rw[ha.get,hp]) (hH.blk hi) hu (by cases d<;>simp_all) (by rw[HP];exact hz),hq⟩
def prL(l:List (Int×Int)):List Value:=l.flatMap fun p=>[I p.1,I p.2]
@[simp] theorem av7(l:List (Int×Int))(a b:Int):prL (l++[(a,b)])=prL l++[I a,I b]:=by simp[prL]
end runs
end
end Go.Proofs.YtlhjdflgjbkpmaaGreatDoor.E
namespace Go.Proofs.YtlhjdflgjbkpmaaGreatDoor.M
theorem af5(m:Nat)(n:Int)(u:Nat->BitVec 64)(i j:Nat):(jJ m n u i).getLsbD j=((u i).getLsbD j||(decide ((i:Int)<n)&&(u i).getLsbD m&&(u m).getLsbD j)):=by grind[jJ]
structure Thr(n:Int)(u0 u:Nat->BitVec 64)(m:Nat):Prop where
 EX:∀i j:Nat,(u i).getLsbD j=true->(i:Int)<n/\(j:Int)<n
 base:∀i j:Nat,(u0 i).getLsbD j=true->(u i).getLsbD j=true
 thr:∀k:Nat,k<m->∀i j:Nat,(u i).getLsbD k=true->(u k).getLsbD j=true->(u i).getLsbD j=true
 sound:∀S:Nat->Prop,(∀x y:Nat,S x->(u0 x).getLsbD y=true->S y)->∀x y:Nat,S x->(u x).getLsbD y=true->S y
theorem Thr.pass{n:Int}{u0 u:Nat->BitVec 64}{m:Nat}(h:Thr n u0 u m):Thr n u0 (jJ m n u) (m+1):=by
 have bit:∀i j:Nat,(jJ m n u i).getLsbD j=true↔((u i).getLsbD j=true\/((u i).getLsbD m=true/\(u m).getLsbD j=true)):=fun i j=>by
  rw[af5]
  simp only[pE,cG,eo]
  constructor
  .rintro(h1|⟨⟨h1,h2⟩,h3⟩)
   .exact .inl h1
   exact .inr ⟨h2,h3⟩
  rintro(h1|⟨h1,h2⟩)
  .exact .inl h1
  exact .inr ⟨⟨(h.EX _ _ h1).1,h1⟩,h2⟩
 refine⟨fun i j hb=> ?_,fun i j hb=>(bit i j).2 (.inl (h.base i j hb)),fun k hk i j h1 h2=> ?_,fun S hS x y hx hb=> ?_⟩
 .rcases(bit i j).1 hb with h1|⟨h1,h2⟩
  .exact h.EX i j h1
  exact⟨(h.EX i m h1).1,(h.EX m j h2).2⟩
 .rw[bit]at*
  by_cases e:k=m
  .subst e
   have a1:(u i).getLsbD k=true:=by rcases h1 with h1|h1;exact h1;exact h1.1
   have a2:(u k).getLsbD j=true:=by rcases h2 with h2|h2;exact h2;exact h2.2
   exact .inr ⟨a1,a2⟩
  have hk':k<m:=J
  rcases h1 with h1|⟨h1,h1'⟩<;>rcases h2 with h2|⟨h2,h2'⟩
  .exact .inl (h.thr k hk' i j h1 h2)
  .exact .inr ⟨h.thr k hk' i m h1 h2,h2'⟩
  .exact .inr ⟨h1,h.thr k hk' m j h1' h2⟩
  exact .inr ⟨h1,h2'⟩
 rcases(bit x y).1 hb with h1|⟨h1,h2⟩
 .exact h.sound S hS x y hx h1
 exact h.sound S hS m y (h.sound S hS x m hx h1) h2
theorem Thr.wall{n:Int}{u0:Nat->BitVec 64}(hi:∀i j:Nat,(u0 i).getLsbD j=true->(i:Int)<n/\(j:Int)<n):∀m,Thr n u0 (wall n u0 m) m
 |0=>⟨hi,fun _ _ h=>h,fun k hk=>J,fun S hS x y hx hb=>hS x y hx hb⟩
 |m+1=>(Thr.wall hi m).pass
theorem FV(r:Rl)(i j:Nat):(pL (ey r).up (pts r) i).getLsbD j=true↔((i:Int)<pts r/\(j:Int)<pts r/\(bH r i j=true\/i=j)):=by grind[Rl,pL,ey,pts,bH,dr,D0,uT,xn,uo,qC]
theorem Da(r:Rl):Thr (pts r) (pL (ey r).up (pts r)) (gX r).up (pts r).toNat:=Thr.wall (fun i j h=>by have:=(FV r i j).1 h;exact⟨this.1,this.2.1⟩) _
theorem aay{r:Rl}{u:Nat->BitVec 64}:pts ⟨pts r,u⟩=pts r:=by unfold pts;simp;omega
theorem zh(r:Rl):pts (gX r)=pts r:=aay
theorem H9(r:Rl):pts (ey r)=pts r:=aay
theorem jB{r:Rl}{i j:Int}(h:bH r i j=true):(0<=i/\i<pts r)/\(0<=j/\j<pts r)/\(r.up i.toNat).getLsbD j.toNat=true:=by grind[bH,qC]
theorem Kn{r:Rl}{i j:Int}(hi:0<=i/\i<pts r)(hj:0<=j/\j<pts r)(h:(r.up i.toNat).getLsbD j.toNat=true):bH r i j=true:=by grind[bH,qC]
theorem aaz{r:Rl}{i j:Nat}:((gX r).up i).getLsbD j=true↔bH (gX r) i j=true:=by
 constructor
 .intro h
  have:=(Da r).EX i j h
  exact Kn HR HR xl
 intro h
 have:=(jB h).2.2;simpa using this
theorem xY{r:Rl}{i:Int}(h:0<=i/\i<pts r):bH (gX r) i i=true:=
 Kn HR HR ((Da r).base _ _ ((FV r _ _).2 ⟨J,J,.inr O⟩))
theorem FW{r:Rl}{i j:Int}(h:bH r i j=true):bH (gX r) i j=true:=by
 obtain⟨h1,h2,-⟩:=jB h
 refine Kn HR HR ((Da r).base _ _ ((FV r _ _).2 ⟨J,J,.inl ?_⟩))
 rw[fW h1.1,fW h2.1];exact h
theorem mO{r:Rl}{i j k:Int}(h1:bH (gX r) i j=true)(h2:bH (gX r) j k=true):bH (gX r) i k=true:=by
 obtain⟨a1,a2,a3⟩:=jB h1
 obtain⟨b1,b2,b3⟩:=jB h2
 exact Kn a1 b2 ((Da r).thr _ (by rw[zh]at a2;omega) _ _ a3 b3)
theorem Db{r:Rl}{i j:Int}(h:bH (gX r) i j=true)(S:Int->Prop)(hS:∀x y,S x->bH r x y=true->S y)(hi:S i):S j:=by
 obtain⟨a1,a2,a3⟩:=jB h
 have:=(Da r).sound (fun x=>S (x:Int)) (fun x y hx hb=>by
  obtain⟨-,-,h1|h1⟩:=(FV r x y).1 hb
  .exact hS _ _ hx h1
  subst h1;exact hx) i.toNat j.toNat (by rw[fW a1.1];exact hi) a3
 rwa[fW a2.1]at this
def scan(r:Rl)(x:Int)(l:List Int):Nat->List Int
 |0=>l
 |b+1=>if(bH r x b&& !(scan r x l b).contains (b:Int))=true then scan r x l b++[(b:Int)]else scan r x l b
def WO(r:Rl):Nat->Nat->List Int->List Int
 |0,_,l=>l
 |f+1,a,l=>if a<l.length then WO r f (a+1) (scan r (l.getD a 0) l (pts r).toNat)else l
def xq(r:Rl)(i:Int):List Int:=if A2 r i then WO r 65 0 [i]else[]
theorem O6{r:Rl}{i:Int}(h:¬(0<=i/\i<pts r)):xq r i=[]:=aR fun h'=>h (qC.1 h')
def T4(r:Rl)(l:List Int):Prop:=l.Nodup/\∀x∈l,0<=x/\x<pts r
theorem Dc:∀(n:Nat) (l:List Int),l.Nodup->(∀x∈l,0<=x/\x<(n:Int))->l.length<=n
 |0,l,_,h=>by
  cases l with
  |nil=>simp
  |cons x l=>have:=h x aF;omega
 |n+1,l,hn,h=>by
  by_cases hm:(n:Int)∈l
  .have h1:=W9 hm
   have h2:=Dc n (l.erase (n:Int)) (hn.erase _) fun x hx=>by
    have h3:=(hn.mem_erase_iff).1 hx
    have:=h x h3.2;omega
   have:0<l.length:=Q0 hm
   omega
  have:=Dc n l hn fun x hx=>by
   have:=h x hx
   have:x≠n:=fun e=>hm (e▸hx)
   omega
  omega
theorem T4.len{r:Rl}{l:List Int}(h:T4 r l):l.length<=64:=by
 have hp:=dr r
 have:=Dc (pts r).toNat l h.1 fun x hx=>by have:=h.2 x hx;omega
 omega
theorem T4.one{r:Rl}{i:Int}(h:0<=i/\i<pts r):T4 r [i]:=by grind[Rl,pts,T4]
theorem T4.add{r:Rl}{l:List Int}{b:Int}(h:T4 r l)(hb:0<=b/\b<pts r)(hc:l.contains b=false):T4 r (l++[b]):=by grind[Rl,T4,pts]
theorem aaA{r:Rl}{x:Int}{l:List Int}(h:T4 r l):∀k:Nat,(k:Int)<=pts r->T4 r (scan r x l k)
 |0,_=>h
 |k+1,hk=>by
  have ih:=aaA (x:=x) h k J
  unfold scan
  split
  .rename_i hc
   simp only[cG,BE]at hc
   exact ih.add ⟨J,J⟩ hc.2
  exact ih
theorem LO{r:Rl}{x:Int}{l:List Int}:∀k:Nat,∃t,scan r x l k=l++t/\∀y∈t,bH r x y=true
 |0=>⟨[],by simp[scan],aF⟩
 |k+1=>by
  obtain⟨t,h1,h2⟩:=LO (r:=r) (x:=x) (l:=l) k
  unfold scan
  split
  .rename_i hc
   simp only[cG]at hc
   refine⟨t++[(k:Int)],by rw[h1,dG],fun y hy=> ?_⟩
   rcases eI.1 hy with hy|hy
   .exact h2 y hy
   simp at hy;subst hy;exact hc.1
  exact⟨t,h1,h2⟩
theorem T5{r:Rl}{x:Int}{l:List Int}:∀(k:Nat) (b:Nat),b<k->bH r x b=true->(b:Int)∈scan r x l k
 |0,b,hb,_=>by omega
 |k+1,b,hb,h=>by
  have ih:=T5 (r:=r) (x:=x) (l:=l) k b
  unfold scan
  split
  .rename_i hc
   by_cases e:b=k
   .subst e;simp
   exact dy _ (ih J h)
  rename_i hc
  by_cases e:b=k
  .subst e
   rw[h]at hc;simp at hc;exact hc
  exact ih J h
theorem aaB{r:Rl}(Q:Int->Prop)(hQ:∀x y,Q x->bH r x y=true->Q y):∀(f a:Nat) (l:List Int),(∀x∈l,Q x)->∀x∈WO r f a l,Q x
 |0,a,l,h=>h
 |f+1,a,l,h=>by
  unfold WO
  split
  .rename_i ha
   refine aaB Q hQ f (a+1) _ ?_
   obtain⟨t,h1,h2⟩:=LO (r:=r) (x:=l.getD a 0) (l:=l) (pts r).toNat
   rw[h1]
   intro y hy
   rcases eI.1 hy with hy|hy
   .exact h y hy
   refine hQ _ _ (h (l.getD a 0) ?_) (h2 y hy)
   rw[eS,ep ha];exact nM _
  exact h
theorem LP{r:Rl}:∀(f a:Nat) (l:List Int),f+a=65->T4 r l->a<=l.length->(∀k,k<a->∀b,bH r (l.getD k 0) b=true->b∈l)->
  T4 r (WO r f a l)/\(∀x∈l,x∈WO r f a l)/\∀x∈WO r f a l,∀b,bH r x b=true->b∈WO r f a l
 |0,a,l,hf,hok,ha,h=>by have:=hok.len;omega
 |f+1,a,l,hf,hok,ha,h=>by
  have hp:=dr r
  unfold WO
  split
  .rename_i hlt
   obtain⟨t,h1,h2⟩:=LO (r:=r) (x:=l.getD a 0) (l:=l) (pts r).toNat
   have T6:∀k,k<l.length->(l++t).getD k 0=l.getD k 0:=fun k hk=>by
    rw[eS,eS,yK hk]
   have ih:=LP f (a+1) (scan r (l.getD a 0) l (pts r).toNat) J (aaA hok _ J) (by rw[h1,cZ];omega) (fun k hk b hb=>by
    rw[h1,T6 k J]at hb
    by_cases e:k=a
    .subst e
     obtain⟨-,b2,-⟩:=jB hb
     have:=T5 (r:=r) (x:=l.getD k 0) (l:=l) (pts r).toNat b.toNat J (by rw[fW b2.1];exact hb)
     rwa[fW b2.1]at this
    rw[h1];exact dy _ (h k J b hb))
   refine⟨ih.1,fun x hx=>ih.2.1 x (by rw[h1];exact dy _ hx),ih.2.2⟩
  rename_i hge
  refine⟨hok,fun x hx=>hx,fun x hx b hb=> ?_⟩
  obtain⟨k,hk,rfl⟩:=th hx
  refine h k J b ?_
  rw[eS,ep hk];exact hb
theorem acT(r:Rl)(i j:Int):j∈xq r i↔bH (gX r) i j=true:=by
 by_cases h:0<=i/\i<pts r
 .rw[xq,aS (qC.2 h)]
  have hc:=LP 65 0 [i] O (T4.one h) aF (fun k hk=>J)
  constructor
  .intro hj
   exact aaB (fun x=>bH (gX r) i x=true) (fun x y hx hy=>mO hx (FW hy)) 65 0 [i] (fun x hx=>by simp at hx;subst hx;exact xY h) j hj
  intro hj
  exact Db hj (fun x=>x∈WO r 65 0 [i]) (fun x y hx hy=>hc.2.2 x hx y hy) (hc.2.1 i aF)
 rw[O6 h]
 constructor
 .intro hj;cases hj
 intro hj
 have:=(jB hj).1
 rw[zh]at this;exact absurd this h
theorem af6{r:Rl}{a:Int}{l:List Int}(h0:0<=a)(h:a<l.length)(hl:l.length<=64):WO r (65-a.toNat) a.toNat l=WO r (65-(a+1).toNat) (a+1).toNat (scan r (l.getD a.toNat 0) l (pts r).toNat):=by
 rw[show 65-a.toNat=(65-(a+1).toNat)+1 by omega,show(a+1).toNat=a.toNat+1 by omega]
 rw[WO,aS J]
theorem aaC{r:Rl}{a:Int}{l:List Int}(h0:0<=a)(h:¬a<l.length):WO r (65-a.toNat) a.toNat l=l:=by
 cases 65-a.toNat with
 |zero=>rfl
 |succ f=>rw[WO,aR J]
theorem af7{r:Rl}{x b:Int}{l:List Int}(h0:0<=b)(h:bH r x b=true)(hc:(scan r x l b.toNat).contains b=false):scan r x l b.toNat++[b]=scan r x l (b+1).toNat:=by
 rw[show(b+1).toNat=b.toNat+1 by omega]
 rw[scan,fW h0,h,hc];rfl
theorem af8{r:Rl}{x b:Int}{l:List Int}(h0:0<=b)(h:bH r x b=false):scan r x l b.toNat=scan r x l (b+1).toNat:=by
 rw[show(b+1).toNat=b.toNat+1 by omega]
 rw[scan,fW h0,h];rfl
theorem af9{r:Rl}{x b:Int}{l:List Int}(h0:0<=b)(hc:(scan r x l b.toNat).contains b=true):scan r x l b.toNat=scan r x l (b+1).toNat:=by
 rw[show(b+1).toNat=b.toNat+1 by omega]
 rw[scan,fW h0,hc];simp
theorem acU(r:Rl){i:Nat}(h:(i:Int)<pts r):kO (xq r i)=(gX r).up i:=ew fun j hj=>by
 rw[gS,gQ hj,l8,gP,aaz,<-acT]
 simp[EC]
theorem T7(r:Rl){i:Nat}(h:¬(i:Int)<pts r):(gX r).up i=0#64:=ew fun j hj=>by
 cases hc:((gX r).up i).getLsbD j with
 |false=>simp
 |true=>exact absurd ((Da r).EX i j hc).1 h
theorem alO(r:Rl):D0 (pts r) (fun i=>kO (xq r i)) (pts r)=gX r:=by
 refine xo fun i=> ?_
 by_cases h:(i:Int)<pts r
 .rw[aS h];exact acU r h
 rw[aR h];exact(T7 r h).symm
theorem acV(r:Rl):ey (gX r)=gX r:=by
 have hp:=dr r
 unfold ey
 rw[zh]
 refine xo fun i=> ?_
 show(if(i:Int)<pts r then uT (gX r) i else 0#64)=(gX r).up i
 by_cases h:(i:Int)<pts r
 .rw[aS h]
  refine ew fun j hj=> ?_
  rw[uo (gX r) ⟨J,by rw[zh];exact h⟩,gP,aaz]
 rw[aR h];exact(T7 r h).symm
def aga(n:Int):Rl:=⟨pts ⟨n,fun _=>0#64⟩,fun _=>0#64⟩
def aC0(r:Rl)(p:Int×Int):Rl:=if A2 r p.1&&A2 r p.2 then r.put p.1.toNat (uS (r.up p.1.toNat) p.2)else r
def ofR(n:Int)(l:List (Int×Int)):Rl:=l.foldl aC0 (aga n)
def aI2(r:Rl)(i j:Int):Rl:=if A2 r i&&A2 r j then(ey r).put i.toNat (uS ((ey r).up i.toNat) j)else ey r
def Dd(r:Rl)(i:Int):BitVec 64:=upR r (kO [i])&&&D1 r (kO [i])
def eW(r:Rl):Bool:=decide ((ey r).eq (gX r))&&decide (∀i:Nat,i<(pts r).toNat->∀j:Nat,j<i->(bH r i j&&bH r j i)=false)
theorem acW(r:Rl)(i j:Int):bH (ey r) i j=bH r i j:=by
 have hp:=dr r
 by_cases hi:0<=i/\i<pts r
 .by_cases hj:0<=j/\j<pts r
  .rw[bH,A2,A2,H9,gQ hi,gQ hj]
   have e:(ey r).up i.toNat=uT r i:=by
    show(if((i.toNat:Nat):Int)<pts r then uT r (i.toNat:Nat)else 0#64)=uT r i
    rw[fW hi.1,aS hi.2]
   rw[e,uo r hi,fW hj.1];rfl
  rw[RT (by rw[A2,H9];exact gO hj),RT (by rw[A2];exact gO hj)]
 rw[Kl (by rw[A2,H9];exact gO hi),Kl (by rw[A2];exact gO hi)]
theorem has_eq{a b:Rl}(h:a.eq b)(i j:Int):bH a i j=bH b i j:=by
 have hp:pts a=pts b:=by unfold pts;rw[h.1]
 have hb:=dr b
 by_cases hi:0<=i/\i<pts b
 .rw[bH,bH,A2,A2,A2,A2,hp,h.2 i.toNat J]
 rw[Kl (by rw[A2,hp];exact gO hi),Kl (by rw[A2];exact gO hi)]
theorem rR{r:Rl}(h:(ey r).eq (gX r))(i j:Int):bH r i j=bH (gX r) i j:=by rw[<-acW,has_eq h]
theorem agb(r:Rl)(s:BitVec 64)(j:Nat):(upR r s).getLsbD j=true↔∃i:Int,hasB s i=true/\bH r i j=true:=by
 rw[upR,H8,EF]
 constructor
 .rintro⟨i,h1,h2⟩
  rw[fN,hasB,rJ,fh,cG,cG,eo,zk,eo]at h1
  have hi:0<=i/\i<pts r:=J
  refine⟨i,by rw[hasB,h1.2.1,zk,gQ J];rfl,?_⟩
  rwa[uo r hi]at h2
 rintro⟨i,h1,h2⟩
 have hi:=(jB h2).1
 have hb:=zo h1
 refine⟨i,?_,by rw[uo r hi];exact h2⟩
 rw[fN,hasB,rJ,fh]
 rw[hasB,cG]at h1
 rw[h1.1,h1.2,gQ J];rfl
theorem T8{s:BitVec 64}:s≠0#64↔∃i:Nat,s.getLsbD i=true:=by
 constructor
 .intro h
  by_cases hc:∃i:Nat,s.getLsbD i=true
  .exact hc
  refine absurd (ew fun i _=> ?_) h
  cases hb:s.getLsbD i with
  |false=>simp
  |true=>exact absurd ⟨i,hb⟩ hc
 rintro⟨i,h⟩ e
 rw[e]at h;simp at h
theorem LQ(r:Rl)(s:BitVec 64)(j:Nat):(D1 r s).getLsbD j=true↔∃i:Int,hasB s i=true/\bH r j i=true:=by
 have hp:=dr r
 rw[D1,xp,j3,cG,cG,eo,eo,eo]
 rw[T8]
 constructor
 .rintro⟨⟨h1,h2⟩,i,h3⟩
  rw[rJ,cG,uo r ⟨J,J⟩]at h3
  have hi:=(jB h3.1).2.1
  exact⟨i,by rw[hasB,zk,gQ J];simpa using h3.2,h3.1⟩
 rintro⟨i,h1,h2⟩
 obtain⟨a1,a2,-⟩:=jB h2
 refine⟨⟨J,J⟩,i.toNat,?_⟩
 rw[rJ,uo r a1,fW a2.1,h2]
 rw[hasB,cG]at h1
 rw[h1.2];rfl
theorem T9{i j:Int}(h:0<=i/\i<64):hasB (kO [i]) j=true↔j=i:=by grind[fN,zo,hasB,gS,zk]
theorem LR{r:Rl}{i:Int}(h:0<=i/\i<pts r)(j:Nat):(Dd r i).getLsbD j=true↔(bH r i j=true/\bH r j i=true):=by grind[Rl,pts,Dd,bH,dr,agb,LQ,T9]
theorem acX{r:Rl}(h:¬(ey r).eq (gX r)):eW r=false:=by grind[eW]
theorem EY{r:Rl}:(∀i:Nat,i<(pts r).toNat->∀j:Nat,j<i->(bH r i j&&bH r j i)=false)↔∀i j:Int,bH r i j=true->bH r j i=true->i=j:=by
 constructor
 .intro h i j h1 h2
  obtain⟨a1,a2,-⟩:=jB h1
  by_cases e:i=j
  .exact e
  by_cases hlt:j<i
  .have:=h i.toNat J j.toNat J
   rw[fW a1.1,fW a2.1,h1,h2]at this;cases this
  have:=h j.toNat J i.toNat J
  rw[fW a1.1,fW a2.1,h1,h2]at this;cases this
 intro h i hi j hj
 cases h1:bH r i j with
 |false=>rfl
 |true=>
  cases h2:bH r j i with
  |false=>rfl
  |true=>have:=h i j h1 h2;omega
theorem agc{r:Rl}{k:Int}(hc:(ey r).eq (gX r))(hk:0<=k/\k<pts r)(h:Dd r k≠kO [k]):eW r=false:=by
 rw[eW,Bool.and_eq_false_iff]
 refine .inr (gO fun ha=>h ?_)
 have hp:=dr r
 rw[EY]at ha
 refine ew fun j hj=> ?_
 rw[gP,LR hk]
 constructor
 .rintro⟨h1,h2⟩
  have:=ha _ _ h1 h2
  rw[gS];simp[EC];omega
 intro h1
 have:(j:Int)=k:=by rw[gS]at h1;simp[EC]at h1;omega
 rw[this,rR hc,xY hk];simp
theorem acY{r:Rl}(hc:(ey r).eq (gX r))(h:∀j:Int,0<=j->j<pts r->Dd r j=kO [j]):eW r=true:=by
 rw[eW,gQ hc,l8,eo,EY]
 intro i j h1 h2
 obtain⟨a1,a2,-⟩:=jB h1
 have hp:=dr r
 have h3:=(LR a1 j.toNat).2 (by rw[fW a2.1];exact⟨h1,h2⟩)
 rw[h i a1.1 a1.2,gS]at h3
 simp[EC]at h3;omega
theorem LS{r:Rl}{i:Int}(h:0<=i/\i<pts r)(j:Nat):(zn r i).getLsbD j=true↔bH r i j=true/\¬(j:Int)=i:=by
 rw[zn,Ow,uo r h];simp
theorem agd{n:Int}(j:Nat)(h:(below n).getLsbD j=true):(j:Int)<n:=by grind[fh]
def wB(r:Rl)(s:BitVec 64):BitVec 64:=wz (zn r) (gA s)&&&s
def Jl(r:Rl):Nat->BitVec 64->Int->Int
 |0,_,n=>n
 |f+1,s,n=>if wB r s=0#64 then n else Jl r f (wB r s) (n+1)
def qx(r:Rl):Int×Bool:=if eW r then(Jl r 65 (below (pts r)) 0,true)else(0,false)
theorem alP{r:Rl}{s:BitVec 64}(hs:∀j:Nat,s.getLsbD j=true->(j:Int)<pts r)(j:Nat)(h:(wB r s).getLsbD j=true):(j:Int)<pts r:=by grind[wB]
theorem Ia:∀(l m:List Int),l.Nodup->(∀x∈l,x∈m)->l.length<=m.length
 |[],m,_,_=>by simp
 |x::l,m,hn,h=>by
  rw[nP]at hn
  have hx:=h x aF
  have:=Ia l (m.erase x) hn.2 fun y hy=>(List.mem_erase_of_ne (show y≠x from fun e=>hn.1 (by rw[<-e];exact hy))).2 (h y (by simp[hy]))
  have h2:=W9 hx
  have:0<m.length:=Q0 hx
  simp;omega
theorem Ib(s:BitVec 64):(gA s).Nodup:=by
 have:=rQ s
 exact this.imp fun h=>by omega
theorem age{a b:BitVec 64}{j:Int}(h:∀i:Int,hasB a i=true->hasB b i=true)(hb:hasB b j=true)(ha:hasB a j=false):(gA a).length<(gA b).length:=by
 have:=Ia (j::gA a) (gA b) (by
  rw[nP]
  exact⟨fun hm=>absurd ((fN _ _).1 hm) (by rw[ha];simp),Ib a⟩) fun x hx=>by
   rcases cQ.1 hx with rfl|hx
   .exact(fN _ _).2 hb
   exact(fN _ _).2 (h x ((fN _ _).1 hx))
 simp at this;omega
theorem LU(lt:Int->Int->Prop)(hi:∀x,¬lt x x)(ht:∀x y z,lt x y->lt y z->lt x z):∀l:List Int,l≠[]->∃m∈l,∀x∈l,¬lt x m
 |[],h=>absurd O h
 |[a],_=>⟨a,aF,fun x hx=>by simp at hx;subst hx;exact hi _⟩
 |a::b::l,_=>by
  obtain⟨m,hm,h⟩:=LU lt hi ht (b::l) aF
  by_cases ha:lt a m
  .refine⟨a,aF,fun x hx=> ?_⟩
   rcases cQ.1 hx with rfl|hx
   .exact hi _
   exact fun hxa=>h x hx (ht _ _ _ hxa ha)
  refine⟨m,fC _ hm,fun x hx=> ?_⟩
  rcases cQ.1 hx with rfl|hx
  .exact ha
  exact h x hx
theorem uU{r:Rl}(h:eW r=true):(ey r).eq (gX r)/\∀i j:Int,bH r i j=true->bH r j i=true->i=j:=by
 rw[eW,cG,eo,eo,EY]at h;exact h
theorem sI{r:Rl}(h:eW r=true){i j k:Int}(h1:bH r i j=true)(h2:bH r j k=true):bH r i k=true:=by grind[uU,rR,mO]
theorem eX(a b:BitVec 64)(i:Int):hasB (a&&&b) i=(hasB a i&&hasB b i):=by grind[hasB,zk]
theorem Ko(a b:BitVec 64)(i:Int):hasB (a|||b) i=(hasB a i||hasB b i):=by grind[hasB,zk]
theorem Ua{s:BitVec 64}{i:Int}(h:hasB s i=true):s.getLsbD i.toNat=true:=by grind[hasB]
theorem alQ{s:BitVec 64}{j:Nat}(h:s.getLsbD j=true):hasB s j=true:=by grind[hasB,zk]
theorem alR{r:Rl}{s:BitVec 64}(ho:eW r=true)(hs:∀j:Nat,s.getLsbD j=true->(j:Int)<pts r)(h:¬wB r s=0#64):(gA (wB r s)).length<(gA s).length:=by
 have hne:gA s≠[]:=fun e=>by
  rw[zm]at e;subst e
  exact h (by rw[wB];simp)
 obtain⟨m,hm,hmin⟩:=LU (fun x y=>bH r x y=true/\x≠y) (fun x hx=>hx.2 O) (fun x y z h1 h2=>⟨sI ho h1.1 h2.1,fun e=>by
  subst e
  exact h1.2 ((uU ho).2 _ _ h1.1 h2.1)⟩) (gA s) hne
 rw[fN]at hm
 refine age (j:=m) (fun i hi=>by rw[wB,eX,cG]at hi;exact hi.2) hm ?_
 cases hc:hasB (wB r s) m with
 |false=>rfl
 |true=>
  rw[wB,eX,cG]at hc
  have h1:=Ua hc.1
  rw[H8,EF]at h1
  obtain⟨x,hx,hb⟩:=h1
  have hxs:=(fN _ _).1 hx
  have hbd:=zo hxs
  have hxp:=hs _ (Ua hxs)
  have hmb:=zo hm
  rw[LS ⟨hbd.1,J⟩,fW hmb.1]at hb
  exact absurd ⟨hb.1,fun e=>hb.2 e.symm⟩ (hmin x hx)
def aC1(r:Rl)(i:Int):BitVec 64:=zn r i&&& ~~~wz (zn r) (gA (zn r i))
def agf(r:Rl)(k:Int):List (Int×Int):=(upto k).flatMap fun i=>(gA (aC1 r i)).map fun y=>(i,y)
def aBV(r:Rl):List (Int×Int):=if eW r then agf r (pts r)else[]
def aC2:Rl:=⟨3,fun i=>[7#64,6#64,4#64].getD i 0#64⟩
def aI3(p:Int->Bool)(l:List Int)(a:Int):Bool:=(l.take a.toNat).any p
theorem acZ{r:Rl}{k:Int}(hk:¬k<pts r)(hf:∀i j:Int,0<=j->j<i->i<k->(bH r i j&&bH r j i)=false):eW r=decide ((ey r).eq (gX r)):=by grind[eW,pts,bH]
theorem Ub{r:Rl}{i j:Int}(h1:bH r i j=true)(h2:bH r j i=true)(h:j<i):eW r=false:=by grind[eW,uU]
def pY(r:Rl)(k j:Int):Bool:=(upto j).all fun x=> !(bH r k x&&bH r x k)
def kx(r:Rl)(k:Int):Int:=(((upto k).filter fun i=>pY (gX r) i i).length:Nat)
theorem aqS{r:Rl}{k j:Int}(h0:0<=j)(h1:bH r k j=true)(h2:bH r j k=true):false=pY r k (j+1):=by
 rw[pY,<-gT h0,XC];simp[h1,h2]
theorem acy{r:Rl}{k j:Int}(h0:0<=j)(h1:bH r k j=false):pY r k j=pY r k (j+1):=by
 rw[pY,pY,<-gT h0,XC];simp[h1]
theorem acz{r:Rl}{k j:Int}(h0:0<=j)(h2:bH r j k=false):pY r k j=pY r k (j+1):=by
 rw[pY,pY,<-gT h0,XC];simp[h2]
theorem alw{r:Rl}{k:Int}(h0:0<=k)(h:pY (gX r) k k=true):kx r k+1=kx r (k+1):=by
 rw[kx,kx,<-gT h0,Hu];simp[h]
theorem aqU{r:Rl}{k:Int}(h0:0<=k)(h:pY (gX r) k k=false):kx r k=kx r (k+1):=by
 rw[kx,kx,<-gT h0,Hu];simp[h]
theorem XR{r:Rl}{k:Int}(h0:0<=k):0<=kx r k/\kx r k<=k:=by grind[pY,gX,upto,sH,kx]
theorem kP{s:BitVec 64}{j:Int}:hasB s j=true↔(0<=j/\j<64)/\s.getLsbD j.toNat=true:=by grind[hasB,zk]
theorem LV(f:Int->BitVec 64)(l:List Int)(j:Int):hasB (wz f l) j=true↔∃i∈l,hasB (f i) j=true:=by grind[kP,H8]
theorem jK{r:Rl}{i j:Int}(h:bH r i j=true):(0<=i/\i<pts r)/\(0<=j/\j<pts r):=by have:=jB h;exact⟨this.1,this.2.1⟩
theorem LW{r:Rl}{i:Int}(h:0<=i/\i<pts r)(j:Int):hasB (zn r i) j=true↔bH r i j=true/\j≠i:=by grind[kP,LS,jK,dr]
theorem mP(n j:Int):hasB (below n) j=true↔0<=j/\j<64/\j<n:=by grind[kP,fh]
def yH(r:Rl):Nat->BitVec 64
 |0=>below (pts r)
 |k+1=>wB r (yH r k)
theorem RU(r:Rl):∀k j:Nat,(yH r k).getLsbD j=true->(j:Int)<pts r
 |0,j,h=>agd j h
 |k+1,j,h=>alP (RU r k) j h
theorem RV{r:Rl}{k:Nat}{j:Int}(h:hasB (yH r k) j=true):0<=j/\j<pts r:=by
 have:=kP.1 h
 have h2:=RU r k _ this.2
 omega
theorem FY{r:Rl}(k:Nat)(j:Int):hasB (yH r (k+1)) j=true↔hasB (yH r k) j=true/\∃i:Int,hasB (yH r k) i=true/\bH r i j=true/\j≠i:=by
 rw[yH,wB,eX,cG,LV,and_comm]
 refine XD fun hj=> ?_
 constructor
 .rintro⟨i,hi,h⟩
  have hi2:=(fN _ _).1 hi
  exact⟨i,hi2,(LW (RV hi2) j).1 h⟩
 rintro⟨i,hi,h⟩
 exact⟨i,(fN _ _).2 hi,(LW (RV hi) j).2 h⟩
theorem Yp{r:Rl}:∀(k:Nat) {i j:Int},hasB (yH r k) i=true->bH r i j=true->j≠i->hasB (yH r (k+1)) j=true
 |0,i,j,hi,h,hne=>by
  have hb:=jK h;have hp:=dr r
  exact(FY 0 j).2 ⟨(mP _ _).2 J,i,hi,h,hne⟩
 |k+1,i,j,hi,h,hne=>by
  have h1:=(FY k i).1 hi
  exact(FY (k+1) j).2 ⟨Yp k h1.1 h hne,i,hi,h,hne⟩
theorem LX{r:Rl}{j:Int}{a b:Nat}(h:a<=b)(hb:hasB (yH r b) j=true):hasB (yH r a) j=true:=by
 induction b with
 |zero=>rwa[show a=0 by omega]
 |succ b ih=>
  by_cases he:a=b+1
  .rwa[he]
  exact ih J ((FY b j).1 hb).1
theorem sJ(j:Int):hasB 0#64 j=false:=by rw[hasB];simp
theorem aq3{r:Rl}{k:Nat}(h:yH r (k+1)≠0#64):yH r k≠0#64:=by grind[yH,wB]
theorem Yq{s:BitVec 64}{n:Int}(h0:0<=n)(h:∀j:Nat,s.getLsbD j=true->(j:Int)<n):(gA s).length<=n.toNat:=
 Dc n.toNat (gA s) (Ib s) fun x hx=>by
  have h1:=kP.1 ((fN _ _).1 hx)
  have:=h _ h1.2
  omega
theorem RW{s:BitVec 64}(h:s≠0#64):0<(gA s).length:=by grind[zm]
theorem Kp{r:Rl}(ho:eW r=true):∀k:Nat,yH r k≠0#64->(gA (yH r k)).length+k<=(pts r).toNat
 |0,_=>by have:=Yq (dr r).1 (RU r 0);omega
 |k+1,h=>by
  have h1:=Kp ho k (aq3 h)
  have h2:(gA (yH r (k+1))).length<(gA (yH r k)).length:=alR ho (RU r k) h
  omega
theorem aaD{s:BitVec 64}{j:Int}(h:hasB s j=true):s≠0#64:=by grind[sJ]
theorem RX{r:Rl}(ho:eW r=true){k:Nat}{j:Int}(h:hasB (yH r k) j=true):(k:Int)<pts r:=by
 have h1:=Kp ho k (aaD h)
 have h2:=RW (aaD h)
 have:=dr r
 omega
theorem De{r:Rl}(ho:eW r=true):∀f k:Nat,f+k=65->(k=0\/yH r k≠0#64)->∃m:Nat,Jl r f (yH r k) k=(m:Int)/\yH r (m+1)=0#64/\(m=0\/yH r m≠0#64)
 |0,k,h,h2=>by
  have hp:=dr r
  rcases h2 with h2|h2
  .omega
  have:=Kp ho k h2;omega
 |f+1,k,h,h2=>by
  by_cases hs:wB r (yH r k)=0#64
  .exact⟨k,by rw[Jl,aS hs],hs,h2⟩
  obtain⟨m,h3,h4⟩:=De ho f (k+1) J (.inr hs)
  refine⟨m,?_,h4⟩
  rw[Jl,aR hs,<-h3];rfl
def FZ(r:Rl)(F:Nat->Int):Prop:=∀j:Int,0<=j->j<pts r->0<=F j.toNat/\hasB (yH r (F j.toNat).toNat) j=true
theorem aaE(r:Rl):FZ r (fun _=>0):=fun j h0 h1=>by
 have hp:=dr r
 exact⟨nc _,(mP _ _).2 J⟩
theorem aqQ{r:Rl}(ho:eW r=true){F:Nat->Int}(h:FZ r F){j:Int}(h0:0<=j)(h1:j<pts r):0<=F j.toNat/\F j.toNat<pts r:=by
 have h2:=h j h0 h1
 have:=RX ho h2.2
 omega
def F3(F:Nat->Int)(i:Nat)(x:Int):Nat->Int:=fun j=>if j=i then x else F j
theorem Kq{r:Rl}{F:Nat->Int}{i j:Int}(h:FZ r F)(hr:bH r i j=true)(hne:i≠j):FZ r (F3 F j.toNat (F i.toNat+1)):=fun x x0 x1=>by
 have hb:=jK hr
 unfold F3
 by_cases he:x.toNat=j.toNat
 .have hi:=h i hb.1.1 hb.1.2
  rw[aS he,show x=j by omega,show(F i.toNat+1).toNat=(F i.toNat).toNat+1 by omega]
  exact⟨J,Yp _ hi.2 hr (fun e=>hne e.symm)⟩
 rw[aR he];exact h x x0 x1
theorem agh{F:Nat->Int}{i:Nat}{x:Int}(h:F i<=x)(k:Nat):F k<=F3 F i x k:=by grind[F3]
def j4(r:Rl)(F0 F:Nat->Int)(i k:Int):Prop:=∀j:Int,j<k->bH r i j=true->i≠j->F0 i.toNat+1<=F j.toNat
def rS(r:Rl)(F0 F:Nat->Int)(k:Int):Prop:=∀i:Int,i<k->j4 r F0 F i (pts r)
def Az(F0 F:Nat->Int):Prop:=∀k,F0 k<=F k
theorem Az.refl(F:Nat->Int):Az F F:=fun _=>nc _
theorem Az.put{F0 F:Nat->Int}{i:Nat}{x:Int}(h:Az F0 F)(hx:F i<=x):Az F0 (F3 F i x):=by grind[Az,F3,agh]
theorem j4.put{r:Rl}{F0 F:Nat->Int}{i k:Int}{j:Nat}{x:Int}(h:j4 r F0 F i k)(hx:F j<=x):j4 r F0 (F3 F j x) i k:=by grind[Rl,j4,F3,agh]
theorem rS.put{r:Rl}{F0 F:Nat->Int}{k:Int}{j:Nat}{x:Int}(h:rS r F0 F k)(hx:F j<=x):rS r F0 (F3 F j x) k:=fun i hi=>(h i hi).put hx
theorem j4.next{r:Rl}{F0 F:Nat->Int}{i k:Int}(h:j4 r F0 F i k)(hk:bH r i k=true->i≠k->F0 i.toNat+1<=F k.toNat):j4 r F0 F i (k+1):=by grind[Rl,j4,bH]
theorem j4.none(r:Rl)(F0 F:Nat->Int)(i:Int):j4 r F0 F i 0:=fun j h1 h2 _=>by have:=(jK h2).2;omega
theorem rS.none(r:Rl)(F0 F:Nat->Int):rS r F0 F 0:=fun i hi j _ h2 _=>by have:=(jK h2).1;omega
theorem rS.next{r:Rl}{F0 F:Nat->Int}{i k:Int}(h:rS r F0 F i)(hk:¬k<pts r)(h2:j4 r F0 F i k):rS r F0 F (i+1):=by grind[Rl,rS,pts,j4]
theorem Df{r:Rl}{F0 F:Nat->Int}{i k:Int}(h:j4 r F0 F i k)(hge:Az F0 F)(hle:F k.toNat<=F i.toNat):j4 r F0 (F3 F k.toNat (F i.toNat+1)) i (k+1):=
 (h.put J).next fun _ _=>by
  have:=hge i.toNat
  unfold F3;rw[aS O];omega
theorem Dg{r:Rl}{F0 F:Nat->Int}{i k:Int}(h:j4 r F0 F i k)(hge:Az F0 F)(hle:¬F k.toNat<=F i.toNat):j4 r F0 F i (k+1):=
 h.next fun _ _=>by have:=hge i.toNat;omega
theorem Dh{r:Rl}{F0 F:Nat->Int}{i k:Int}(h:j4 r F0 F i k)(hr:bH r i k=false):j4 r F0 F i (k+1):=
 h.next fun e _=>by rw[hr]at e;cases e
theorem Di{r:Rl}{F0 F:Nat->Int}{i k:Int}(h:j4 r F0 F i k)(he:¬i≠k):j4 r F0 F i (k+1):=
 h.next fun _ e=>absurd e he
def Uc(r:Rl)(F:Nat->Int)(k:Int):Prop:=∀(v:Nat) (j:Int),(v:Int)<=k->hasB (yH r v) j=true->(v:Int)<=F j.toNat
theorem alS{r:Rl}{F:Nat->Int}(h:FZ r F):Uc r F 0:=fun v j hv hj=>by
 have hp:=RV hj
 have:=(h j hp.1 hp.2).1;omega
theorem alT{r:Rl}{F0 F:Nat->Int}{k i:Int}(k0:0<=k)(h:Uc r F0 k)(hge:Az F0 F)(hall:rS r F0 F i)(hi:¬i<pts r):Uc r F (k+1):=fun v j hv hj=>by
 by_cases hv2:(v:Int)<=k
 .exact BL (h v j hv2 hj) (hge _)
 .cases v with
  |zero=>exact BL (h 0 j k0 hj) (hge _)
  |succ v=>
   obtain⟨h1,x,h2,h3,h4⟩:=(FY v j).1 hj
   have h5:=h v x J h2
   have hb:=jK h3
   have h6:=hall x J j hb.2.2 h3 (fun e=>h4 e.symm)
   omega
theorem agi{r:Rl}(ho:eW r=true){F:Nat->Int}{k i best:Int}(hF:FZ r F)(hU:Uc r F k)(hk:¬k<pts r)(hi:¬i<pts r)
  (hb:best=0\/∃j:Int,0<=j/\j<pts r/\F j.toNat=best) (hm:∀j:Int,0<=j->j<i->F j.toNat<=best) (h0:0<=best):qx r=(best,true):=by
 obtain⟨m,h1,h2,h3⟩:=De ho 65 0 O (.inl O)
 have h1':Jl r 65 (below (pts r)) 0=(m:Int):=h1
 rw[qx,aS ho,h1']
 congr 1
 have Yr:best<=m:=by
  rcases hb with hb|⟨j,j0,j1,hj⟩
  .omega
  by_cases hle:best<=m
  .exact hle
  have h4:=(hF j j0 j1).2
  rw[hj]at h4
  have h5:=LX (show m+1<=best.toNat by omega) h4
  rw[h2,sJ]at h5;cases h5
 have hup:(m:Int)<=best:=by
  rcases h3 with h3|h3
  .omega
  have hl:=RW h3
  obtain⟨x,hx⟩:=List.exists_mem_of_length_pos hl
  have WQ:=(fN _ _).1 hx
  have hp:=RV WQ
  have hlt:=RX ho WQ
  have h6:=hU m x J WQ
  have h7:=hm x hp.1 J
  omega
 omega
def aC4(r:Rl)(i j k:Int):Bool:=(upto k).any fun x=>decide (x≠i)&&decide (x≠j)&&bH r i x&&bH r x j
def aC5(r:Rl)(i j:Int):Bool:=decide (i≠j)&&bH r i j&& !aC4 r i j (pts r)
def aC6(r:Rl)(i k:Int):List (Int×Int):=((upto k).filter (aC5 r i ·)).map fun y=>(i,y)
theorem wC(k:Int):(upto k).Pairwise (· <·):=by
 rw[upto,Hv]
 exact Xd.imp fun h=>by omega
def Tidy(r:Rl):Prop:=r.n=pts r/\∀i j:Nat,(r.up i).getLsbD j=true->(i:Int)<pts r/\(j:Int)<pts r
theorem Tidy.plain{r:Rl}(h:Tidy r):ey r=r:=by
 obtain⟨n,u⟩:=r
 have hn:n=pts ⟨n,u⟩:=h.1
 show(⟨pts ⟨n,u⟩,_⟩:Rl)=⟨n,u⟩
 rw[<-hn]
 refine xo fun i=>ew fun j hj=> ?_
 rw[gP]
 by_cases hi:(i:Int)<n
 .rw[aS hi,aax,cG,eo]
  exact⟨fun h2=>h2.1,fun h2=>⟨h2,J,(h.2 i j h2).2⟩⟩
 rw[aR hi]
 constructor
 .intro h2;simp at h2
 intro h2;exact absurd (by have:=(h.2 i j h2).1;rw[<-hn]at this;exact this) hi
def inQ(n:Int)(q:Int×Int):Bool:=decide (0<=q.1/\0<=q.2/\q.1<pts ⟨n,fun _=>0#64⟩/\q.2<pts ⟨n,fun _=>0#64⟩)
def inR(r:Rl)(q:Int×Int):Bool:=decide (0<=q.1/\0<=q.2/\q.1<pts r/\q.2<pts r)
def aC7(n:Int)(p:Int×Int)(l:List (Int×Int))(k:Int):Bool:=(l.take k.toNat).any fun q=>decide (q=p)&&inQ n q
end Go.Proofs.YtlhjdflgjbkpmaaGreatDoor.M
namespace Go.Proofs.YtlhjdflgjbkpmaaGreatDoor.E
section
open Go Go.RowKit Go.Proofs.YtlhjdflgjbkpmaaGreatDoor.M
section ext
variable{w0 w:World}{L:List a7}{b off:Nat}{c:Array Value}{e:TypeId}{fr:Nat×Nat}{v:Value}{o:Obj}
theorem keep{o:Obj}(hb:Below w0.heap.size w0 w)(h:w0.heap[b]?=some o):w.heap[b]?=some o:=by
 rw[hb.block b (BA.1 h).1];exact h
theorem Hp.ext(h:Hp w0 w L)(hb:w0.heap[b]?=some o):w.heap[b]?=some o:=by
 rw[h.below.block b (BA.1 hb).1];exact hb
theorem Hp.eE(h:Hp w0 w L)(hb:w0.heap[b]?=some (.cells c e fr))(hc:c[off]?=some v):w.cell? ⟨b,off,none⟩=some v:=by
 rw[xf w b off c e fr (h.ext hb)];exact hc
end ext
def Ys(f:Nat->Int):List Value:=(List.range 64).map fun i=>I (f i)
@[irreducible] def LY(f:Nat->Int):Array Value:=(Ys f).toArray
theorem B7(f:Nat->Int):LY f=(Ys f).toArray:=by unfold LY;rfl
theorem ac0(f:Nat->Int):(LY f).size=64:=by rw[B7];simp[Ys]
theorem F4(f:Nat->Int){i:Nat}(h:i<64):(LY f)[0+i*1]?=some (I (f i)):=by
 rw[B7,show 0+i*1=i by omega];simp[Ys,h]
theorem agj(f:Nat->Int)(i:Nat)(x:Int):(LY f).setIfInBounds (0+i*1) (I x)=LY (F3 f i x):=by
 rw[B7,B7]
 apply Q6
 intro j
 rw[Bz]
 simp only[EB,Aq]
 have hl:(Ys f).length=64:=by simp[Ys]
 rw[hl]
 simp only[Ys,pW]
 by_cases h:i=j
 .subst h
  rw[aS J]
  by_cases h2:i<64
  .rw[aS J];simp[h2,F3]
  rw[aR J];simp[h2]
 rw[aR J]
 by_cases h2:j<64
 .have h3:¬j=i:=fun e=>h e.symm
  simp[h2,F3,h3]
 simp[h2]
theorem ac1:LY (fun _=>0)=Array.replicate 64 (I 0):=by
 rw[B7];rfl
section runs
variable{P:Program}{σ:Env}{w:World}{dst:Option Tmp}{ty t u:TypeId}{pos:String}{bK:Array Edge}{g:Option (Nat×Bool)}{x y:Operand}{b:Nat}{e:TypeId}{r:Rl}{fr:Nat×Nat}
theorem Kr{sz:Nat}(hu:P.underlying t=some (.slice e))(hs:∀w,(sizeOf e).run P w= .ok sz w):
  (execOp (ev σ) ⟨dst,.buildSlice t 0 #[],ty,pos,bK,g⟩).run P w= .ok (.value (.slice (some ⟨w.heap.size,0,none⟩) 0 0)) (w.alloc (.cells #[] e)):=by
 have h:(Instr.buildSlice t 0 #[]).run P w= .ok (.slice (some ⟨w.heap.size,0,none⟩) 0 0) (w.alloc (.cells #[] e)):=by
  simp[Instr.buildSlice,kr hu,hs,Instr.fill,newRow,newObj,Sem.run,show Array.range 0=#[]by decide]
 simp[execOp,h]
def rlL(l:List Rl):List Value:=l.flatMap vP
theorem EZ{f:FuncId}{cs vs:List Value}{HU:List Operand}{ats:Array TypeId}(hf:∀args w,(callFunc f args).run P w= .ok (.enter f args) w)(hx:ev σ x= .func (.func f) #[] cs.toArray)(h:HU.map (ev σ)=vs):
  (execOp (ev σ) ⟨dst,.call {callee:= .value x,args:=HU.toArray,argTypes:=ats},ty,pos,bK,g⟩).run P w= .ok (.enter f (vs++cs).toArray) w:=by
 have:=O7 (P:=P) (w:=w) (dst:=dst) (ty:=ty) (pos:=pos) (bK:=bK) (g:=g) (ats:=ats) hf hx h
 rw[this,List.append_toArray]
theorem LZ{f:FuncId}{cs:List Value}{ats:Array TypeId}(hf:∀args w,(callFunc f args).run P w= .ok (.enter f args) w)(hx:ev σ x= .func (.func f) #[] cs.toArray):
 (execOp (ev σ) ⟨dst,.call {callee:= .value x,args:=#[],argTypes:=ats},ty,pos,bK,g⟩).run P w= .ok (.enter f cs.toArray) w:=EZ (HU:=[]) hf hx O
theorem l9{f:FuncId}{cs:List Value}{v1:Value}{x1:Operand}{ats:Array TypeId}(hf:∀args w,(callFunc f args).run P w= .ok (.enter f args) w)(hx:ev σ x= .func (.func f) #[] cs.toArray)(h1:ev σ x1=v1):
 (execOp (ev σ) ⟨dst,.call {callee:= .value x,args:=#[x1],argTypes:=ats},ty,pos,bK,g⟩).run P w= .ok (.enter f (v1::cs).toArray) w:=EZ (HU:=[x1]) (vs:=[v1]) hf hx (by simp[h1])
theorem iQ{f:FuncId}{cs:List Value}{v1 v2:Value}{x1 x2:Operand}{ats:Array TypeId}(hf:∀args w,(callFunc f args).run P w= .ok (.enter f args) w)(hx:ev σ x= .func (.func f) #[] cs.toArray)(h1:ev σ x1=v1)(h2:ev σ x2=v2):
 (execOp (ev σ) ⟨dst,.call {callee:= .value x,args:=#[x1,x2],argTypes:=ats},ty,pos,bK,g⟩).run P w= .ok (.enter f (v1::v2::cs).toArray) w:=EZ (HU:=[x1,x2]) (vs:=[v1,v2]) hf hx (by simp[h1,h2])
end runs
section av8
variable{P:Program}{n:Nat}{l:List Oper}{k:K}{σ:Env}{w w0:World}{L' WN:List a7}{fuel i d:Nat}{listed:Array Bool}{ty:TypeId}{pos:String}{bK:Array Edge}{g:Option (Nat×Bool)}{x y:Operand}
theorem lJ{t e:TypeId}{j:Nat}{ie:TypeInfo}{z:Value}{size bytes:Nat}{v u:Value}{m m':Nat}{xs news:List Value}(hi:l[i]?=some ⟨some d,.call {callee:= .builtin .append,args:=#[x,y],argTypes:=#[t,t]},ty,pos,bK,g⟩)
  (hg:∀a,Is n σ a->Region.wanted ⟨some d,.call {callee:= .builtin .append,args:=#[x,y],argTypes:=#[t,t]},ty,pos,bK,g⟩ (yielded l.toArray a.tmps)=true) (hd:Nat.blt d n=true) (hH:Hp w0 w WN) (hL:WN[j]?=some (.row v e size m xs))
  (hs:∀v',L'.Sublist (WN.set j (.row v' e size (m+m') (xs++news)))) (hS:Sl w u size m' news)
  (hx:ev σ x=v) (hy:ev σ y=u) (ht:P.underlying t=some (.slice e)) (hie:P.info? e=some ie) (hz:ie.zero=some z)
  (hsize:ie.size=size) (hby:ie.bytes=bytes) (hzs:z.cells.size=size) (hsz:0<size) (h1:∀u∈news,u.oneCell'=true)
  (hbytes:(m+m')*bytes<=140737488355328) (h63:m+m'<=maxLen)
  (hk:∀v' w',Hp w0 w' (WN.set j (.row v' e size (m+m') (xs++news)))->AN P n l (fun w=>Hp w0 w L') k fuel (listed.setIfInBounds i true) (lG σ d v') w'):AO P n l (fun w=>Hp w0 w L') k fuel listed σ w i:=by
 obtain⟨v',w',hr,h2,h3,h4⟩:=sF (P:=P) (ty:=ty) ht hie hz hsize hby hzs hsz (hH.get hL) hS h1 h63 hbytes hH.size
 have hH':=hH.xW hL h2 h3 h4
 exact B4 hi hg hd (sB hx hy hr) (hH'.sub (hs v')) (hk v' w' hH')
end av8
end
end Go.Proofs.YtlhjdflgjbkpmaaGreatDoor.E
namespace Go.Proofs.YtlhjdflgjbkpmaaGreatDoor.M
def uV(P:Int->Bool)(n:Int):Int×Bool:=match(upto n).find? P with
 |some u=>(u,true)
 |none=>(0,false)
theorem ac2{n:Int}:∀(k:Nat),(k:Int)<=n->upto n=upto k++((List.range (n.toNat-k)).map fun(i:Nat)=>((k+i:Nat):Int)):=fun k h=>by
 rw[upto,upto,show n.toNat=k+(n.toNat-k)by omega,XH,gz]
 simp
theorem p5{P:Int->Bool}{n k:Int}(h0:0<=k)(hk:k<n)(hp:P k=true)(hf:∀j:Int,0<=j->j<k->P j=false):uV P n=(k,true):=by
 have h:(upto n).find? P=some k:=by
  rw[ac2 k.toNat J,List.find?_append]
  have h1:(upto (k.toNat:Int)).find? P=none:=by
   rw[List.find?_eq_none]
   intro x hx
   have:=cN.1 hx
   rw[hf x this.1 J];simp
  rw[h1,show n.toNat-k.toNat=(n.toNat-k.toNat-1)+1 by omega,Xe]
  simp only[Option.none_or,lB,Lh,fW h0,List.find?_cons,hp]
 rw[uV,h]
theorem sK{P:Int->Bool}{n:Int}(hf:∀j:Int,0<=j->j<n->P j=false):uV P n=(0,false):=by grind[upto,cN,uV]
theorem nY(P:Int->Bool)(n:Int):(∃k:Int,0<=k/\k<n/\P k=true/\(∀j:Int,0<=j->j<k->P j=false)/\uV P n=(k,true))\/((∀j:Int,0<=j->j<n->P j=false)/\uV P n=(0,false)):=by
 have key:∀m:Nat,(∃k:Int,0<=k/\k<m/\P k=true/\∀j:Int,0<=j->j<k->P j=false)\/∀j:Int,0<=j->j<m->P j=false:=fun m=>by
  induction m with
  |zero=>exact .inr fun j h1 h2=>by omega
  |succ m ih=>
   rcases ih with⟨k,h1,h2,h3,h4⟩|h
   .exact .inl ⟨k,h1,J,h3,h4⟩
   .cases hm:P m with
    |true=>exact .inl ⟨m,J,J,hm,h⟩
    |false=>
     refine .inr fun j h1 h2=> ?_
     by_cases e:j=m
     .rw[e];exact hm
     exact h j h1 J
 rcases key n.toNat with⟨k,h1,h2,h3,h4⟩|h
 .exact .inl ⟨k,h1,J,h3,h4,p5 h1 J h3 h4⟩
 exact .inr ⟨fun j h1 h2=>h j h1 J,sK fun j h1 h2=>h j h1 J⟩
def iL(r:Rl)(i:Int):BitVec 64:=upR r (kO [i])
def bU(r:Rl)(i:Int):BitVec 64:=if A2 r i then D1 r (kO [i])else 0#64
theorem RY(i j:Int):hasB (kO [i]) j=true↔j=i/\0<=i/\i<64:=by grind[zo,hasB,gS,T9]
theorem eL(r:Rl)(i j:Int):hasB (iL r i) j=bH r i j:=by
 have hp:=dr r
 rw[gP,kP,iL,agb]
 constructor
 .rintro⟨h1,x,h2,h3⟩
  rw[fW h1.1]at h3
  rw[<-((RY i x).1 h2).1];exact h3
 intro h
 have hb:=jK h
 refine⟨J,i,(RY i i).2 ⟨rfl,J⟩,?_⟩
 rw[fW hb.2.1];exact h
theorem agk(r:Rl)(i j:Int):hasB (D1 r (kO [i])) j=bH r j i:=by
 have hp:=dr r
 rw[gP,kP,LQ]
 constructor
 .rintro⟨h1,x,h2,h3⟩
  rw[fW h1.1]at h3
  rw[<-((RY i x).1 h2).1];exact h3
 intro h
 have hb:=jK h
 refine⟨J,i,(RY i i).2 ⟨rfl,J⟩,?_⟩
 rw[fW hb.1.1];exact h
theorem dN(r:Rl)(i j:Int):hasB (bU r i) j=bH r j i:=by grind[bU,A2,agk,sJ,RT]
theorem uq{a b:BitVec 64}(h:∀j:Int,hasB a j=hasB b j):a=b:=ew fun j hj=>by
 have:=h j
 rw[hasB,hasB,zk,gQ J]at this
 simpa using this
theorem eK{a b:BitVec 64}:dX a b=true↔∀j:Int,hasB a j=true->hasB b j=true:=by
 rw[FR]
 constructor
 .intro h j hj
  have:=kP.1 hj
  exact kP.2 ⟨this.1,h _ J this.2⟩
 intro h i hi hb
 have:=kP.1 (h i (alQ hb))
 simpa using this.2
def nZ(g:Int->BitVec 64)(i j u:Int):Bool:=hasB (g i&&&g j) u&&dX (g i&&&g j) (g u)
def AA(g:Int->BitVec 64)(n i j:Int):Int×Bool:=uV (nZ g i j) n
theorem awa{s:BitVec 64}{a b:Int}(h0:0<=a)(hb:b<(gA s).length)(h:a<b):(gA s).getD a.toNat 0<(gA s).getD b.toNat 0:=by grind[List.pairwise_iff_getElem,rQ,List.getElem?_eq_getElem]
theorem aaF{s:BitVec 64}{j:Int}(h:hasB s j=true):∃a:Int,0<=a/\a<(gA s).length/\(gA s).getD a.toNat 0=j:=by
 obtain⟨k,hk,he⟩:=th ((fN _ _).2 h)
 refine⟨k,J,J,?_⟩
 rw[eS,ef,ep hk,he];rfl
theorem agl{g:Int->BitVec 64}{n i j a:Int}(hn:∀u,hasB (g i&&&g j) u=true->u<n)(a0:0<=a)(a1:a<(gA (g i&&&g j)).length)(h:dX (g i&&&g j) (g ((gA (g i&&&g j)).getD a.toNat 0))=true)
  (hf:∀b:Int,0<=b->b<a->dX (g i&&&g j) (g ((gA (g i&&&g j)).getD b.toNat 0))=false):AA g n i j=((gA (g i&&&g j)).getD a.toNat 0,true):=by
 have h1:=Yo a0 a1
 have h2:=Pb a0 a1
 refine p5 h2.1 (hn _ h1) (by rw[nZ,h1,h];rfl) fun x x0 x1=> ?_
 rw[nZ]
 cases hc:hasB (g i&&&g j) x with
 |false=>rfl
 |true=>
  obtain⟨b,b0,b1,hb⟩:=aaF hc
  have hba:b<a:=by
   rcases Xu b a with h3|h3|h3
   .exact h3
   .subst h3;omega
   have:=awa a0 b1 h3;omega
  rw[<-hb,hf b b0 hba];rfl
theorem alU{g:Int->BitVec 64}{n i j a:Int}(a1:¬a<(gA (g i&&&g j)).length)(hf:∀b:Int,0<=b->b<a->dX (g i&&&g j) (g ((gA (g i&&&g j)).getD b.toNat 0))=false):AA g n i j=(0,false):=by grind[gA,dX,AA,sK,nZ,hasB,aaF]
def iS(r:Rl)(i j:Int):Int×Bool:=AA (iL r) (pts r) i j
def qz(r:Rl)(i j:Int):Int×Bool:=AA (bU r) (pts r) i j
theorem agm{r:Rl}{i j u:Int}(h:hasB (iL r i&&&iL r j) u=true):u<pts r:=by
 rw[eX,cG,eL]at h;exact(jK h.1).2.2
theorem ac3{r:Rl}{i j u:Int}(h:hasB (bU r i&&&bU r j) u=true):u<pts r:=by
 rw[eX,cG,dN]at h;exact(jK h.1).1.2
def D2(r:Rl)(i j u v:Int):Bool:=bH r i u&&bH r j u&&(upto v).all fun x=> !(bH r i x&&bH r j x&& !bH r u x)
def D3(r:Rl)(i j u v:Int):Bool:=bH r u i&&bH r u j&&(upto v).all fun x=> !(bH r x i&&bH r x j&& !bH r x u)
theorem XS{r:Rl}{i j u v:Int}(h0:0<=v):D2 r i j u (v+1)=(D2 r i j u v&& !(bH r i v&&bH r j v&& !bH r u v)):=by grind[D2,gT]
theorem XT{r:Rl}{i j u v:Int}(h0:0<=v):D3 r i j u (v+1)=(D3 r i j u v&& !(bH r v i&&bH r v j&& !bH r v u)):=by grind[D3,gT]
theorem Ic(r:Rl)(i j u:Int){v:Int}(hv:v=pts r):nZ (iL r) i j u=D2 r i j u v:=by
 subst hv
 rw[nZ,D2,eX,eL,eL,gP,cG,cG (_&&_)]
 refine XD fun _=> ?_
 rw[eK,iN]
 constructor
 .intro h x hx
  have:=h x
  rw[eX,eL,eL,eL,cG]at this
  cases h1:bH r i x with
  |false=>rfl
  |true=>cases h2:bH r j x with
   |false=>rfl
   |true=>rw[this ⟨h1,h2⟩];rfl
 intro h x hx
 rw[eX,eL,eL,cG]at hx
 have h3:=h x (cN.2 (jK hx.1).2)
 rw[hx.1,hx.2]at h3
 rw[eL];simpa using h3
theorem Ie(r:Rl)(i j u:Int){v:Int}(hv:v=pts r):nZ (bU r) i j u=D3 r i j u v:=by
 subst hv
 rw[nZ,D3,eX,dN,dN,gP,cG,cG (_&&_)]
 refine XD fun _=> ?_
 rw[eK,iN]
 constructor
 .intro h x hx
  have:=h x
  rw[eX,dN,dN,dN,cG]at this
  cases h1:bH r x i with
  |false=>rfl
  |true=>cases h2:bH r x j with
   |false=>rfl
   |true=>rw[this ⟨h1,h2⟩];rfl
 intro h x hx
 rw[eX,dN,dN,cG]at hx
 have h3:=h x (cN.2 (jK hx.1).1)
 rw[hx.1,hx.2]at h3
 rw[dN];simpa using h3
theorem Ud{r:Rl}{i j u v:Int}(u0:0<=u)(u1:u<pts r)(hv:v=pts r)(h:D2 r i j u v=true)(hf:∀x:Int,0<=x->x<u->nZ (iL r) i j x=false):iS r i j=(u,true):=
 p5 u0 u1 (by rw[Ic r i j u hv];exact h) hf
theorem alV{r:Rl}{i j u:Int}(u1:¬u<pts r)(hf:∀x:Int,0<=x->x<u->nZ (iL r) i j x=false):iS r i j=(0,false):=sK fun x h1 h2=>hf x h1 J
theorem Ue{r:Rl}{i j u v:Int}(u0:0<=u)(u1:u<pts r)(hv:v=pts r)(h:D3 r i j u v=true)(hf:∀x:Int,0<=x->x<u->nZ (bU r) i j x=false):qz r i j=(u,true):=
 p5 u0 u1 (by rw[Ie r i j u hv];exact h) hf
theorem alW{r:Rl}{i j u:Int}(u1:¬u<pts r)(hf:∀x:Int,0<=x->x<u->nZ (bU r) i j x=false):qz r i j=(0,false):=sK fun x h1 h2=>hf x h1 J
def tU(r:Rl)(i j:Int):Bool:=(iS r i j).2&&(qz r i j).2
def sL(r:Rl):Bool:=decide (1<=r.n/\r.n<=64)&&eW r&&(upto r.n).all fun i=>(upto i).all fun j=>tU r i j
theorem Ks{r:Rl}(h:¬(1<=r.n/\r.n<=64)):sL r=false:=by grind[sL]
theorem aaG{r:Rl}(h:eW r=false):sL r=false:=by rw[sL,h];simp
theorem Kt{r:Rl}{i j:Int}(i0:i<r.n)(j0:0<=j)(j1:j<i)(h:tU r i j=false):sL r=false:=by
 cases hc:sL r with
 |false=>rfl
 |true=>
  rw[sL,cG,iN]at hc
  have h1:=hc.2 i (cN.2 ⟨J,i0⟩)
  rw[iN]at h1
  rw[h1 j (cN.2 ⟨j0,j1⟩)]at h;cases h
theorem aaH{r:Rl}{k:Int}(hn:1<=r.n/\r.n<=64)(ho:eW r=true)(hk:¬k<r.n)(hf:∀i j:Int,0<=j->j<i->i<k->tU r i j=true):sL r=true:=by grind[sL,cN]
def eM(r:Rl)(w:BitVec 64):Int×Bool:=uV (fun i=>decide (bU r i=w)) (pts r)
theorem Dj{r:Rl}{w:BitVec 64}{k:Int}(h0:0<=k)(hk:k<pts r)(h:bU r k=w)(hf:∀j:Int,0<=j->j<k->bU r j≠w):eM r w=(k,true):=by grind[Rl,pts,bU,eM,p5]
theorem F5{r:Rl}{w:BitVec 64}{k:Int}(hk:¬k<pts r)(hf:∀j:Int,0<=j->j<k->bU r j≠w):eM r w=(0,false):=by grind[Rl,pts,bU,eM,sK]
def jL(r:Rl)(a b:BitVec 64):BitVec 64:=if((eM r a).2&&(eM r b).2&&(iS r (eM r a).1 (eM r b).1).2)=true then bU r (iS r (eM r a).1 (eM r b).1).1 else a|||b
theorem Pc{r:Rl}{a b:BitVec 64}(h1:(eM r a).2=true)(h2:(eM r b).2=true)(h3:(iS r (eM r a).1 (eM r b).1).2=true):jL r a b=bU r (iS r (eM r a).1 (eM r b).1).1:=by grind[jL]
theorem Pd{r:Rl}{a b:BitVec 64}(h1:(eM r a).2=false):jL r a b=a|||b:=by rw[jL,h1];rfl
theorem Pe{r:Rl}{a b:BitVec 64}(h1:(eM r b).2=false):jL r a b=a|||b:=by rw[jL,h1];simp
theorem ac4{r:Rl}{a b:BitVec 64}(h1:(iS r (eM r a).1 (eM r b).1).2=false):jL r a b=a|||b:=by rw[jL,h1];simp
def E0(r:Rl)(g:Int->BitVec 64):Int×Bool:=uV (fun i=>decide (g i=below (pts r))) (pts r)
theorem alX{r:Rl}{g:Int->BitVec 64}{k:Int}(h0:0<=k)(hk:k<pts r)(h:g k=below (pts r))(hf:∀j:Int,0<=j->j<k->g j≠below (pts r)):E0 r g=(k,true):=by grind[Rl,pts,below,E0,p5]
theorem aq4{r:Rl}{g:Int->BitVec 64}{k:Int}(hk:¬k<pts r)(hf:∀j:Int,0<=j->j<k->g j≠below (pts r)):E0 r g=(0,false):=by grind[Rl,pts,below,E0,sK]
def qF(r:Rl)(i k:Int):List Int:=(upto k).filter (bH r · i)
theorem ac5{r:Rl}{i k:Int}(h0:0<=k)(h:bH r k i=true):qF r i k++[k]=qF r i (k+1):=by grind[qF,gT]
theorem agn{r:Rl}{i k:Int}(h0:0<=k)(h:bH r k i=false):qF r i k=qF r i (k+1):=by grind[qF,gT]
theorem Pf{r:Rl}{i k:Int}:(qF r i k).length<=k.toNat:=by grind[qF,sH]
theorem Uf(l:List Int)(j:Int):hasB (kO l) j=true↔(0<=j/\j<64)/\j∈l:=by grind[kP,gS]
theorem ac6{r:Rl}{i k:Int}(hk:k=pts r):kO (qF r i k)=bU r i:=uq fun j=>by
 subst hk
 have hp:=dr r
 rw[gP,Uf,dN,qF,xb,cN]
 constructor
 .exact fun h=>h.2.2
 intro h
 have:=(jK h).1
 exact⟨J,this,h⟩
def alY(r:Rl)(t:Bool)(i k:Int):Bool:=(upto k).all fun x=>if t then bH r x i else bH r i x
theorem L3{r:Rl}{i k:Int}(hk:k=pts r):alY r false i k=true↔iL r i=below (pts r):=by
 subst hk
 rw[alY,iN]
 constructor
 .intro h
  refine uq fun j=> ?_
  rw[gP,eL,mP]
  constructor
  .intro h1;have:=jK h1;have:=dr r;omega
  intro h1;simpa using h j (cN.2 J)
 intro h x hx
 have h1:=cN.1 hx
 have hp:=dr r
 have h2:hasB (iL r i) x=true:=by rw[h,mP];omega
 rw[eL]at h2;simpa using h2
def aLW:Rl:=⟨5,fun i=>[31#64,18#64,20#64,24#64,16#64].getD i 0#64⟩
theorem Pg(g:Int->BitVec 64)(n i j:Int):AA g n i j=AA g n j i:=by
 rw[AA,AA]
 congr 1
 funext u
 rw[nZ,nZ,BitVec.and_comm]
theorem join_comm(r:Rl)(i j:Int):iS r i j=iS r j i:=Pg _ _ _ _
theorem meet_comm(r:Rl)(i j:Int):qz r i j=qz r j i:=Pg _ _ _ _
theorem jb{r:Rl}(h:sL r=true):(1<=r.n/\r.n<=64)/\eW r=true/\pts r=r.n/\∀i j:Int,0<=j->j<i->i<r.n->tU r i j=true:=by
 rw[sL,cG,cG,eo,iN]at h
 refine⟨h.1.1,h.1.2,by unfold pts;omega,fun i j h1 h2 h3=> ?_⟩
 have h4:=h.2 i (cN.2 ⟨J,h3⟩)
 rw[iN]at h4
 exact h4 j (cN.2 ⟨h1,h2⟩)
structure IsJ(r:Rl)(i j k:Int):Prop where
 a:bH r i k=true
 b:bH r j k=true
 l:∀v:Int,bH r i v=true->bH r j v=true->bH r k v=true
structure IsM(r:Rl)(i j k:Int):Prop where
 a:bH r k i=true
 b:bH r k j=true
 g:∀v:Int,bH r v i=true->bH r v j=true->bH r v k=true
theorem Ug{r:Rl}{i j k:Int}:nZ (iL r) i j k=true↔IsJ r i j k:=by
 rw[nZ,eX,eL,eL,cG,cG,eK]
 constructor
 .rintro⟨⟨h1,h2⟩,h3⟩
  refine⟨h1,h2,fun v h4 h5=> ?_⟩
  have:=h3 v
  rw[eX,eL,eL,eL,cG]at this
  exact this ⟨h4,h5⟩
 rintro⟨h1,h2,h3⟩
 refine⟨⟨h1,h2⟩,fun v hv=> ?_⟩
 rw[eX,eL,eL,cG]at hv
 rw[eL];exact h3 v hv.1 hv.2
theorem Uh{r:Rl}{i j k:Int}:nZ (bU r) i j k=true↔IsM r i j k:=by
 rw[nZ,eX,dN,dN,cG,cG,eK]
 constructor
 .rintro⟨⟨h1,h2⟩,h3⟩
  refine⟨h1,h2,fun v h4 h5=> ?_⟩
  have:=h3 v
  rw[eX,dN,dN,dN,cG]at this
  exact this ⟨h4,h5⟩
 rintro⟨h1,h2,h3⟩
 refine⟨⟨h1,h2⟩,fun v hv=> ?_⟩
 rw[eX,dN,dN,cG]at hv
 rw[dN];exact h3 v hv.1 hv.2
theorem xZ{r:Rl}(h:eW r=true){i:Int}(hi:0<=i/\i<pts r):bH r i i=true:=by grind[rR,uU,xY]
theorem Ku{r:Rl}(h:sL r=true){i j:Int}(hi:0<=i/\i<r.n)(hj:0<=j/\j<r.n):(iS r i j).2=true/\IsJ r i j (iS r i j).1:=by
 obtain⟨hn,ho,hp,hb⟩:=jb h
 rcases nY (nZ (iL r) i j) (pts r)with⟨k,k0,k1,k2,-,k3⟩|⟨h1,h2⟩
 .have h3:iS r i j=(k,true):=k3
  rw[h3];exact⟨rfl,Ug.1 k2⟩
 have h3:iS r i j=(0,false):=h2
 exfalso
 rcases Xu i j with hl|hl|hl
 .have:=hb j i hi.1 hl hj.2
  rw[tU,cG,join_comm,h3]at this;cases this.1
 .subst hl
  have h4:=h1 i hi.1 J
  have h5:=xZ ho (show 0<=i/\i<pts r by omega)
  rw[Ug.2 ⟨h5,h5,fun v hv _=>hv⟩]at h4;cases h4
 have:=hb i j hj.1 hl hi.2
 rw[tU,cG,h3]at this;cases this.1
theorem Kx{r:Rl}(h:sL r=true){i j:Int}(hi:0<=i/\i<r.n)(hj:0<=j/\j<r.n):(qz r i j).2=true/\IsM r i j (qz r i j).1:=by
 obtain⟨hn,ho,hp,hb⟩:=jb h
 rcases nY (nZ (bU r) i j) (pts r)with⟨k,k0,k1,k2,-,k3⟩|⟨h1,h2⟩
 .have h3:qz r i j=(k,true):=k3
  rw[h3];exact⟨rfl,Uh.1 k2⟩
 have h3:qz r i j=(0,false):=h2
 exfalso
 rcases Xu i j with hl|hl|hl
 .have:=hb j i hi.1 hl hj.2
  rw[tU,cG,meet_comm,h3]at this;cases this.2
 .subst hl
  have h4:=h1 i hi.1 J
  have h5:=xZ ho (show 0<=i/\i<pts r by omega)
  rw[Uh.2 ⟨h5,h5,fun v hv _=>hv⟩]at h4;cases h4
 have:=hb i j hj.1 hl hi.2
 rw[tU,cG,h3]at this;cases this.2
section aC8
variable{r:Rl}(h:sL r=true){a b c:Int}(ha:0<=a/\a<r.n)(hb:0<=b/\b<r.n)(hc:0<=c/\c<r.n)
include h ha hb
theorem aaI:0<=(iS r a b).1/\(iS r a b).1<r.n:=by
 have:=(jK (Ku h ha hb).2.a).2
 rw[(jb h).2.2.1]at this;exact this
theorem aoJ:0<=(qz r a b).1/\(qz r a b).1<r.n:=by
 have:=(jK (Kx h ha hb).2.a).1
 rw[(jb h).2.2.1]at this;exact this
theorem ac7:bU r (qz r a b).1=bU r a&&&bU r b:=uq fun j=>by
 have ho:=(jb h).2.1
 have hm:=(Kx h ha hb).2
 rw[eX,dN,dN,dN,gP,cG]
 exact⟨fun h1=>⟨sI ho h1 hm.a,sI ho h1 hm.b⟩,fun h1=>hm.g j h1.1 h1.2⟩
include hc
end aC8
theorem alZ{r:Rl}(h:sL r=true){a b:Int}(ha:0<=a/\a<r.n)(hb:0<=b/\b<r.n):(bH r a b==dX (bU r a) (bU r b))=true:=by
 have ho:=(jb h).2.1
 rw[BN,gP,eK]
 constructor
 .intro h1 j hj
  rw[dN]at hj⊢;exact sI ho hj h1
 intro h1
 have:=h1 a
 rw[dN,dN]at this
 exact this (xZ ho (by rw[(jb h).2.2.1];exact ha))
theorem al0{r:Rl}(h:sL r=true):∃m:Int,(0<=m/\m<r.n)/\∀x:Int,0<=x->x<r.n->bH r m x=true:=by
 have hs:=jb h
 have key:∀k:Nat,(k:Int)<r.n->∃m:Int,(0<=m/\m<r.n)/\∀x:Int,0<=x->x<=k->bH r m x=true:=fun k=>by
  induction k with
  |zero=>exact fun hk=>⟨0,J,fun x h1 h2=>by rw[show x=0 by omega];exact xZ hs.2.1 J⟩
  |succ k ih=>
   intro hk
   obtain⟨m,h1,h2⟩:=ih J
   have hm:=(Kx h h1 (show 0<=((k+1:Nat):Int)/\((k+1:Nat):Int)<r.n by omega)).2
   refine⟨_,aoJ h h1 (show 0<=((k+1:Nat):Int)/\((k+1:Nat):Int)<r.n by omega),fun x h3 h4=> ?_⟩
   by_cases he:x=((k+1:Nat):Int)
   .rw[he];exact hm.b
   exact sI hs.2.1 hm.a (h2 x h3 J)
 obtain⟨m,h1,h2⟩:=key (r.n-1).toNat J
 exact⟨m,h1,fun x h3 h4=>h2 x h3 J⟩
theorem al1{r:Rl}(h:sL r=true):(E0 r (iL r)).2=true/\(0<=(E0 r (iL r)).1/\(E0 r (iL r)).1<r.n)/\∀x:Int,0<=x->x<r.n->bH r (E0 r (iL r)).1 x=true:=by
 have hs:=jb h
 rcases nY (fun i=>decide (iL r i=below (pts r))) (pts r)with⟨k,k0,k1,k2,-,k3⟩|⟨h1,-⟩
 .have h3:E0 r (iL r)=(k,true):=k3
  rw[h3]
  refine⟨rfl,by rw[hs.2.2.1]at k1;exact⟨k0,k1⟩,fun x h4 h5=> ?_⟩
  have:=(L3 (r:=r) (i:=k) O).2 (K4 k2)
  rw[alY,iN]at this
  simpa using this x (cN.2 J)
 obtain⟨m,hm,hx⟩:=al0 h
 have h4:=h1 m hm.1 J
 rw[wv]at h4
 exact absurd ((L3 (r:=r) (i:=m) O).1 (by
  rw[alY,iN]
  intro x WQ
  have:=cN.1 WQ
  simpa using hx x this.1 J)) h4
theorem word_inj{r:Rl}(ho:eW r=true){a b:Int}(ha:0<=a/\a<pts r)(hb:0<=b/\b<pts r)(e:bU r a=bU r b):a=b:=by
 have h1:hasB (bU r b) a=true:=by rw[<-e,dN];exact xZ ho ha
 have h2:hasB (bU r a) b=true:=by rw[e,dN];exact xZ ho hb
 rw[dN]at h1 h2
 exact(uU ho).2 _ _ h1 h2
theorem uW{r:Rl}(ho:eW r=true){a:Int}(ha:0<=a/\a<pts r):eM r (bU r a)=(a,true):=by grind[Dj,word_inj]
theorem ac8{r:Rl}(h:sL r=true){a b:Int}(ha:0<=a/\a<r.n)(hb:0<=b/\b<r.n):jL r (bU r a) (bU r b)=bU r (iS r a b).1:=by grind[Rl,sL,jL,bU,iS,jb,uW,pts,Pc,Ku]
def de(r:Rl):Bool:=decide (1<=r.n/\r.n<=8)&&decide ((ey r).eq (gX r))
theorem gm{r:Rl}(h:de r=true):(1<=r.n/\r.n<=8)/\pts r=r.n/\(ey r).eq (gX r):=by grind[de,pts]
theorem Ig{r:Rl}(h:de r=true){i:Int}(hi:0<=i/\i<r.n):bH r i i=true:=by simp_all[gm,rR,xY]
theorem Ky{r:Rl}(h:de r=true){i j k:Int}(h1:bH r i j=true)(h2:bH r j k=true):bH r i k=true:=by grind[Rl,de,bH,gm,rR,mO]
theorem A3{r:Rl}(h:de r=true){i j:Int}(h1:bH r i j=true):(0<=i/\i<r.n)/\(0<=j/\j<r.n):=by
 have:=jK h1
 rw[(gm h).2.1]at this;exact this
theorem Ph(r:Rl)(s:BitVec 64)(j:Int):hasB (D1 r s) j=true↔∃i:Int,hasB s i=true/\bH r j i=true:=by
 have hp:=dr r
 rw[kP,LQ]
 constructor
 .rintro⟨h1,i,h2,h3⟩;rw[fW h1.1]at h3;exact⟨i,h2,h3⟩
 rintro⟨i,h2,h3⟩
 have hb:=jK h3
 exact⟨J,i,h2,by rw[fW hb.1.1];exact h3⟩
def Jm(r:Rl)(w:BitVec 64)(o:Int):BitVec 64:=(w>>>(BitVec.ofInt 64 (8*o)).toNat)&&&below r.n
theorem Ui{r:Rl}{w:BitVec 64}{o:Int}(ho:0<=o/\o<8)(hn:r.n<=8)(x:Int):hasB (Jm r w o) x=true↔(0<=x/\x<r.n)/\hasB w (8*o+x)=true:=by grind[Jm,eX,mP,kP,nW]
def wD(f:Int->BitVec 64)(k:Int):BitVec 64:=(upto k).foldl (fun a o=>a|||(f o<<<(BitVec.ofInt 64 (8*o)).toNat)) 0#64
theorem Ih{f:Int->BitVec 64}{k:Int}(h0:0<=k):wD f k|||(f k<<<(BitVec.ofInt 64 (8*k)).toNat)=wD f (k+1):=by grind[wD,gT]
theorem al2{a:BitVec 64}{o:Int}(ho:0<=o/\o<8)(z:Int):hasB (a<<<(BitVec.ofInt 64 (8*o)).toNat) z=true↔(0<=z/\z<64)/\hasB a (z-8*o)=true:=by grind[kP,nW]
theorem Uj{f:Int->BitVec 64}(z:Int):∀k:Nat,k<=8->(hasB (wD f k) z=true↔∃o:Int,(0<=o/\o<k)/\(0<=z/\z<64)/\hasB (f o) (z-8*o)=true)
 |0,_=>by
  rw[show wD f ((0:Nat):Int)=0#64 from O,sJ]
  constructor
  .intro h;cases h
  rintro⟨o,h,-⟩;omega
 |k+1,hk=>by
  have e:wD f ((k+1:Nat):Int)=wD f (k:Int)|||(f k<<<(BitVec.ofInt 64 (8*(k:Int))).toNat):=(Ih (k:=(k:Int)) J).symm
  rw[e,Ko,pE,Uj z k J,al2 J]
  constructor
  .rintro(⟨o,h1,h2⟩|⟨h1,h2⟩)
   .exact⟨o,J,h2⟩
   exact⟨k,J,h1,h2⟩
  rintro⟨o,h1,h2,h3⟩
  by_cases he:o=k
  .subst he;exact .inr ⟨h2,h3⟩
  exact .inl ⟨o,J,h2,h3⟩
theorem Uk{f:Int->BitVec 64}{n:Int}(hn:0<=n/\n<=8)(hf:∀o y:Int,0<=o->o<n->hasB (f o) y=true->y<8)(z:Int):hasB (wD f n) z=true↔∃o y:Int,(0<=o/\o<n)/\hasB (f o) y=true/\z=8*o+y:=by
 have h:=Uj (f:=f) z n.toNat J
 rw[fW hn.1]at h
 rw[h]
 constructor
 .rintro⟨o,h1,h2,h3⟩;exact⟨o,z-8*o,h1,h3,J⟩
 rintro⟨o,y,h1,h2,h3⟩
 have:=zo h2
 have:=hf o y h1.1 h1.2 h2
 exact⟨o,h1,J,by rw[show z-8*o=y by omega];exact h2⟩
def Ii(r:Rl)(w:BitVec 64)(o:Int):BitVec 64:=wz (fun p=>D1 r (Jm r w p)) (gA (iL r o))
def fP(r:Rl)(w:BitVec 64):BitVec 64:=if de r then wD (Ii r w) r.n else 0#64
theorem E1{r:Rl}(h:de r=true)(w:BitVec 64)(o x:Int):hasB (Ii r w o) x=true↔∃p y:Int,bH r o p=true/\bH r x y=true/\hasB w (8*p+y)=true:=by
 have hs:=gm h
 rw[Ii,LV]
 constructor
 .rintro⟨p,hp,h1⟩
  rw[fN,eL]at hp
  have hb:=A3 h hp
  rw[Ph]at h1
  obtain⟨y,h2,h3⟩:=h1
  rw[Ui J hs.1.2]at h2
  exact⟨p,y,hp,h3,h2.2⟩
 rintro⟨p,y,h1,h2,h3⟩
 have hb:=A3 h h1
 refine⟨p,by rw[fN,eL];exact h1,?_⟩
 rw[Ph]
 exact⟨y,(Ui J hs.1.2 y).2 ⟨(A3 h h2).2,h3⟩,h2⟩
theorem jo{r:Rl}(h:de r=true)(w:BitVec 64)(z:Int):hasB (fP r w) z=true↔∃o x p y:Int,z=8*o+x/\bH r o p=true/\bH r x y=true/\hasB w (8*p+y)=true:=by
 have hs:=gm h
 rw[fP,aS h,Uk J (fun o y _ _ hy=>by
  obtain⟨p,q,-,h2,-⟩:=(E1 h w o y).1 hy
  have:=A3 h h2;omega)]
 constructor
 .rintro⟨o,x,h1,h2,h3⟩
  obtain⟨p,y,h4⟩:=(E1 h w o x).1 h2
  exact⟨o,x,p,y,h3,h4⟩
 rintro⟨o,x,p,y,h3,h4⟩
 exact⟨o,x,(A3 h h4.1).1,(E1 h w o x).2 ⟨p,y,h4⟩,h3⟩
theorem Ul{r:Rl}{w:BitVec 64}(h:de r=false):fP r w=0#64:=by rw[fP,h];rfl
theorem ac9{r:Rl}{w:BitVec 64}(h:de r=true):wD (Ii r w) r.n=fP r w:=by rw[fP,h];rfl
def F6(r:Rl)(w:BitVec 64)(o x:Int):Bool:=decide (0<=o/\0<=x/\o<r.n/\x<r.n)&&hasB w (8*o+x)
theorem Dk{r:Rl}{w:BitVec 64}{o x:Int}:F6 r w o x=true↔(0<=o/\0<=x/\o<r.n/\x<r.n)/\hasB w (8*o+x)=true:=by grind[F6]
def RZ(r:Rl)(w:BitVec 64)(o x:Int):Bool:=(upto r.n).any fun p=>(upto r.n).any fun y=>F6 r w p y&&bH r o p&&bH r x y
theorem KA{r:Rl}{w:BitVec 64}{o x:Int}:RZ r w o x=true↔∃p y:Int,F6 r w p y=true/\bH r o p=true/\bH r x y=true:=by
 rw[RZ,EF]
 constructor
 .rintro⟨p,-,h⟩
  rw[EF]at h
  obtain⟨y,-,h⟩:=h
  rw[cG,cG]at h
  exact⟨p,y,h.1.1,h.1.2,h.2⟩
 rintro⟨p,y,h1,h2,h3⟩
 have hb:=(Dk.1 h1).1
 refine⟨p,cN.2 J,?_⟩
 rw[EF]
 exact⟨y,cN.2 J,by rw[h1,h2,h3];rfl⟩
theorem ago{r:Rl}{w:BitVec 64}{o x k:Int}(hk:¬k<r.n)(hf:∀p y:Int,0<=p->p<k->¬(F6 r w p y=true/\bH r o p=true/\bH r x y=true)):RZ r w o x=false:=by grind[RZ,KA,Dk]
def E2(r:Rl)(w:BitVec 64)(o k:Int):List Int:=((upto k).filter (RZ r w o ·)).map (8*o+·)
def B8(r:Rl)(w:BitVec 64)(k:Int):List Int:=(upto k).flatMap fun o=>E2 r w o r.n
theorem agp{r:Rl}{w:BitVec 64}{o k:Int}(h0:0<=k)(h:RZ r w o k=true):E2 r w o k++[8*o+k]=E2 r w o (k+1):=by grind[E2,gT]
theorem al3{r:Rl}{w:BitVec 64}{o k:Int}(h0:0<=k)(h:RZ r w o k=false):E2 r w o k=E2 r w o (k+1):=by grind[E2,gT]
theorem Um{r:Rl}{w:BitVec 64}{k x:Int}(h0:0<=k)(hx:x=r.n):B8 r w k++E2 r w k x=B8 r w (k+1):=by grind[B8,gT]
theorem L4{r:Rl}{w:BitVec 64}{o k:Int}:(E2 r w o k).length<=k.toNat:=by grind[E2,sH]
theorem aaJ{f:Int->List Int}{m:Nat}(h:∀o,(f o).length<=m):∀l:List Int,(l.flatMap f).length<=l.length*m
 |[]=>by simp
 |o::l=>by
  have:=aaJ h l
  have:=h o
  rw[tS,cZ,eR,kT];omega
theorem L5{r:Rl}{w:BitVec 64}{k:Int}(hn:r.n<=8)(hk:k<=8):(B8 r w k).length<=64:=by
 have h:=aaJ (f:=fun o=>E2 r w o r.n) (m:=8) (fun o=>kM L4 J) (upto k)
 rw[sH]at h
 have:k.toNat*8<=64:=J
 exact kM h this
theorem Un{r:Rl}{w:BitVec 64}{o k z:Int}:z∈E2 r w o k↔∃x:Int,(0<=x/\x<k)/\RZ r w o x=true/\z=8*o+x:=by
 rw[E2,fX]
 constructor
 .rintro⟨x,hx,rfl⟩
  rw[xb,cN]at hx
  exact⟨x,hx.1,hx.2,rfl⟩
 rintro⟨x,h1,h2,rfl⟩
 exact⟨x,xb.2 ⟨cN.2 h1,h2⟩,rfl⟩
theorem ada{r:Rl}{w:BitVec 64}{k:Int}(h:de r=true)(hk:k=r.n):kO (B8 r w k)=fP r w:=uq fun z=>by
 subst hk
 have hs:=gm h
 rw[gP,Uf,jo h,B8,List.mem_flatMap]
 constructor
 .rintro⟨h1,o,ho,hz⟩
  rw[Un]at hz
  obtain⟨x,hx,hf,rfl⟩:=hz
  obtain⟨p,y,h2,h3,h4⟩:=KA.1 hf
  exact⟨o,x,p,y,rfl,h3,h4,(Dk.1 h2).2⟩
 rintro⟨o,x,p,y,rfl,h2,h3,h4⟩
 have b1:=A3 h h2;have b2:=A3 h h3
 refine⟨J,o,cN.2 b1.1,?_⟩
 rw[Un]
 exact⟨x,b2.1,KA.2 ⟨p,y,Dk.2 ⟨J,h4⟩,h2,h3⟩,rfl⟩
def pA(r:Rl)(w:BitVec 64):Bool:=de r&&decide (fP r w=w)
def aI6(r:Rl)(s:BitVec 64)(x k:Int):Bool:=(upto k).any fun y=>hasB s y&&bH r y x
def aI7(r:Rl)(s:BitVec 64)(o k:Int):List Int:=((upto k).filter fun x=> !hasB (upR r s) x).map (8*o+·)
def aC9(o:Int)(s:BitVec 64):Int->BitVec 64:=fun x=>if x=o then s else 0#64
def aoK(r:Rl)(o:Int):Bool:=de r&&decide (0<=o/\o<r.n)
def awb(r:Rl)(o:Int)(s:BitVec 64):BitVec 64:=if aoK r o then fP r (wD (aC9 o (below r.n&&& ~~~upR r s)) r.n)else 0#64
def agq(r:Rl)(w:BitVec 64)(o:Int):BitVec 64:=if aoK r o then below r.n&&& ~~~Jm r w o else 0#64
def aI8(r:Rl)(w:BitVec 64)(o k:Int):List Int:=(upto k).filter fun x=> !F6 r w o x
def aDa(r:Rl)(w:BitVec 64)(k:Int):List Int:=(upto k).filter fun o=>decide (Jm r w o≠0#64)
def R2(r:Rl)(w:BitVec 64):BitVec 64:=if de r then kO (aDa r w r.n)else 0#64
def Yt(r:Rl):BitVec 64:=if de r then wD (fun _=>below r.n) r.n else 0#64
theorem aaK{r:Rl}(h:de r=true)(z:Int):hasB (Yt r) z=true↔∃o x:Int,(0<=o/\o<r.n)/\(0<=x/\x<r.n)/\z=8*o+x:=by
 have hs:=gm h
 rw[Yt,aS h,Uk J fun o y _ _ hy=>by rw[mP]at hy;omega]
 constructor
 .rintro⟨o,x,h1,h2,h3⟩
  rw[mP]at h2
  exact⟨o,x,h1,J,h3⟩
 rintro⟨o,x,h1,h2,h3⟩
 exact⟨o,x,h1,(mP _ _).2 J,h3⟩
def aLX(r:Rl)(k:Int):List Int:=(upto k).flatMap fun o=>(upto r.n).map (8*o+·)
def kN(r:Rl):Int:=if de r then kx r (pts r)*kx r (pts r)else 0
theorem Pj{r:Rl}(h:de r=false):kN r=0:=by rw[kN,h];rfl
theorem zq{r:Rl}(h:de r=true):kx r (pts r)*kx r (pts r)=kN r:=by rw[kN,h];rfl
theorem aq5{r:Rl}(h:de r=true): -9223372036854775808<=kx r (pts r)*kx r (pts r)/\kx r (pts r)*kx r (pts r)<=9223372036854775807:=by
 have hs:=gm h
 have hb:= @XR r (pts r) J
 have h1:0<=kx r (pts r)*kx r (pts r):=Hy hb.1 hb.1
 have h2:kx r (pts r)*kx r (pts r)<=8*8:=La J J hb.1 J
 omega
theorem agr{r:Rl}(h:de r=true)(v:BitVec 64):dX (v&&&Yt r) (fP r v)=true:=eK.2 fun z hz=>by
 rw[eX,cG,aaK h]at hz
 obtain⟨h1,o,x,h2,h3,rfl⟩:=hz
 exact(jo h v _).2 ⟨o,x,o,x,rfl,Ig h h2,Ig h h3,h1⟩
theorem Yu{r:Rl}(h:de r=true)(v:BitVec 64):dX (fP r v) (Yt r)=true:=eK.2 fun z hz=>by
 obtain⟨o,x,p,y,rfl,h1,h2,-⟩:=(jo h v z).1 hz
 exact(aaK h _).2 ⟨o,x,(A3 h h1).1,(A3 h h2).1,rfl⟩
theorem aDb{o x p y:Int}(hx:0<=x/\x<8)(hy:0<=y/\y<8)(h:8*o+x=8*p+y):o=p/\x=y:=J
theorem R3{r:Rl}(h:de r=true)(v:BitVec 64):fP r (fP r v)=fP r v:=uq fun z=>by
 have hs:=gm h
 rw[gP,jo h,jo h]
 constructor
 .rintro⟨o,x,p,y,rfl,h1,h2,h3⟩
  obtain⟨p',y',q,t,e,h4,h5,h6⟩:=(jo h v _).1 h3
  have b1:=A3 h h1;have b2:=A3 h h2;have b3:=A3 h h4;have b4:=A3 h h5
  obtain⟨rfl,rfl⟩:=aDb J J e
  exact⟨o,x,q,t,rfl,Ky h h1 h4,Ky h h2 h5,h6⟩
 rintro⟨o,x,p,y,rfl,h1,h2,h3⟩
 have b1:=A3 h h1;have b2:=A3 h h2
 exact⟨o,x,o,x,rfl,Ig h b1.1,Ig h b2.1,(jo h v _).2 ⟨o,x,p,y,rfl,h1,h2,h3⟩⟩
theorem L6{r:Rl}(h:de r=true){v w:BitVec 64}(hv:dX v w=true):dX (fP r v) (fP r w)=true:=by grind[eK,jo]
theorem Ij{r:Rl}(h:de r=true){w:BitVec 64}(e:fP r w=w):pA r w=true:=by grind[pA]
theorem awc{r:Rl}(h:de r=true)(v w:BitVec 64):pA r (fP r v|||fP r w)=true:=Ij h (uq fun z=>by
 rw[gP]
 constructor
 .intro hz
  obtain⟨o,x,p,y,e,h1,h2,h3⟩:=(jo h _ z).1 hz
  rw[Ko,pE]at h3⊢
  rcases h3 with h3|h3
  .left;rw[<-R3 h v];exact(jo h _ z).2 ⟨o,x,p,y,e,h1,h2,h3⟩
  right;rw[<-R3 h w];exact(jo h _ z).2 ⟨o,x,p,y,e,h1,h2,h3⟩
 intro hz
 have h1:hasB (Yt r) z=true:=by
  rw[Ko,pE]at hz
  rcases hz with hz|hz
  .exact eK.1 (Yu h v) z hz
  exact eK.1 (Yu h w) z hz
 exact eK.1 (agr h _) z (by rw[eX,hz,h1];rfl))
theorem aq6{r:Rl}(h:de r=true)(v w:BitVec 64):pA r (fP r v&&&fP r w)=true:=Ij h (uq fun z=>by
 rw[gP]
 constructor
 .intro hz
  have h1:=eK.1 (L6 h (FU (fP r v) (fP r w))) z hz
  have h2:=eK.1 (L6 h (v:=fP r v&&&fP r w) (w:=fP r w) (by rw[BitVec.and_comm];exact FU _ _)) z hz
  rw[R3 h]at h1 h2
  rw[eX,h1,h2];rfl
 intro hz
 have h1:hasB (Yt r) z=true:=by
  have hz2:=hz
  rw[eX,cG]at hz2
  exact eK.1 (Yu h v) z hz2.1
 exact eK.1 (agr h _) z (by rw[eX (fP r v&&&fP r w),hz,h1];rfl))
def aDc(r:Rl)(i:Int):BitVec 64:=fP r (kO [i])
def L7(r:Rl)(p:Int):Bool:=decide (0<=p/\p<r.n)&&pY (gX r) p p
theorem L8{r:Rl}(h:de r=true)(p:Int):L7 r p=true↔(0<=p/\p<r.n)/\∀x:Int,0<=x->x<p->¬(bH r p x=true/\bH r x p=true):=by grind[Rl,de,L7,bH,gm,pY,cN,rR]
theorem Yv{r:Rl}(h:de r=true):∀(n:Nat) (p:Int),p<=n->0<=p->p<r.n->∃q:Int,q<=p/\L7 r q=true/\bH r p q=true/\bH r q p=true
 |n,p,hn,h0,h1=>by
  cases hc:L7 r p with
  |true=>exact⟨p,nc _,hc,Ig h ⟨h0,h1⟩,Ig h ⟨h0,h1⟩⟩
  |false=>
   have hex:∃x:Int,0<=x/\x<p/\bH r p x=true/\bH r x p=true:=KX fun hno=>by
    have:L7 r p=true:=(L8 h p).2 ⟨⟨h0,h1⟩,fun x x0 x1 hx=>hno ⟨x,x0,x1,hx⟩⟩
    rw[hc]at this;cases this
   obtain⟨x,x0,x1,x2,x3⟩:=hex
   cases n with
   |zero=>omega
   |succ n=>
    obtain⟨q,q1,q2,q3,q4⟩:=Yv h n x J x0 J
    exact⟨q,J,q2,Ky h x2 q3,Ky h q4 x3⟩
def L9(r:Rl)(i:Int):Bool:=L7 r (i/8)&&L7 r (i%8)
def aq7(r:Rl)(k:Int):List (BitVec 64):=((upto k).filter (L9 r)).map (aDc r)
def aLY(c:BitVec 64)(l:List (BitVec 64))(j:Int):Bool:=decide (c=0#64)||(l.take j.toNat).any fun w=>decide (w=c)
theorem ags{r:Rl}(h:de r=true){o p:Int}(hp:hasB (iL r o) p=true):0<=p/\p<8:=by
 have hs:=gm h
 rw[eL]at hp
 have:=A3 h hp;omega
def aDd:Rl:=⟨2,fun i=>[3#64,2#64].getD i 0#64⟩
theorem agt(A:Int->Bool):((upto 64).filter fun i=>A (i/8)&&A (i%8)).length=((upto 8).filter A).length*((upto 8).filter A).length:=by
 have e:upto 64=(upto 8).flatMap fun p=>(upto 8).map (8*p+·):=by decide+kernel
 have key:∀l:List Int,((l.flatMap fun p=>(upto 8).map (8*p+·)).filter fun i=>A (i/8)&&A (i%8)).length=(l.filter A).length*((upto 8).filter A).length:=fun l=>by
  induction l with
  |nil=>simp
  |cons p l ih=>
   rw[tS,Hu,cZ,ih]
   have h1:(((upto 8).map (8*p+·)).filter fun i=>A (i/8)&&A (i%8))=((upto 8).filter fun y=>A p&&A y).map (8*p+·):=by
    rw[List.filter_map]
    congr 1
    refine List.filter_congr fun y hy=> ?_
    have:=cN.1 hy
    simp only[Function.comp]
    rw[show(8*p+y)/8=p by omega,show(8*p+y)%8=y by omega]
   rw[h1,gB]
   cases hp:A p with
   |true=>
    rw[wX hp,eR,kT]
    simp only[l8]
    show((upto 8).filter A).length+_=_
    omega
   |false=>simp[hp]
 rw[e,key]
theorem adb{r:Rl}(h:de r=true){k:Int}(hk:k=64):((aq7 r k).length:Int)=kN r:=by
 subst hk
 have hs:=gm h
 have h1:(upto 8).filter (L7 r)=(upto (pts r)).filter fun i=>pY (gX r) i i:=by
  refine zl ((wC _).filter _) ((wC _).filter _) fun x=> ?_
  rw[xb,xb,cN,cN,L7,cG,eo,hs.2.1]
  constructor
  .rintro⟨h2,h3,h4⟩;exact⟨h3,h4⟩
  rintro⟨h2,h3⟩;exact⟨J,h2,h3⟩
 rw[<-zq h,aq7,gB,show L9 r=fun i=>L7 r (i/8)&&L7 r (i%8)from O,agt,h1,kx]
 push_cast;rfl
abbrev Tx:=ByteArray
def rN(s:Tx)(i:Int):Int:=((s.data.toList.getD i.toNat 0).toNat:Int)
def ji(c:Int):Bool:=decide (97<=c/\c<=122)
def tT(c:Int):Bool:=decide ((97<=c/\c<=122)\/(48<=c/\c<=57)\/c=95)
def iG(s:Tx):Bool:=decide (1<=s.size/\s.size<=16)&&ji (rN s 0)&&(upto s.size).all fun i=>tT (rN s i)
theorem Dl{s:Tx}(h:¬(1<=s.size/\s.size<=16)):iG s=false:=by grind[iG]
theorem Pk{s:Tx}(h:ji (rN s 0)=false):iG s=false:=by rw[iG,h];simp
theorem Ik{s:Tx}{i:Int}(i0:0<=i)(i1:i<s.size)(h:tT (rN s i)=false):iG s=false:=by grind[iG,cN]
theorem Pm{s:Tx}{k:Int}(h1:1<=s.size/\s.size<=16)(h2:ji (rN s 0)=true)(hk:¬k<s.size)(hf:∀j:Int,0<=j->j<k->tT (rN s j)=true):iG s=true:=by grind[iG,cN]
theorem B9{c:Int}(h:ji c=true):tT c=true:=by grind[ji,tT]
def sM(P:Int->Bool)(n:Int):Int:=if(uV P n).2 then(uV P n).1 else-1
theorem uX{P:Int->Bool}{n k:Int}(h0:0<=k)(hk:k<n)(hp:P k=true)(hf:∀j:Int,0<=j->j<k->P j=false):sM P n=k:=by
 rw[sM,p5 h0 hk hp hf];rfl
theorem F7{P:Int->Bool}{n:Int}(hf:∀j:Int,0<=j->j<n->P j=false):sM P n= -1:=by
 rw[sM,sK hf];rfl
theorem Yw(P:Int->Bool)(n:Int):(∃k:Int,0<=k/\k<n/\P k=true/\(∀j:Int,0<=j->j<k->P j=false)/\sM P n=k)\/((∀j:Int,0<=j->j<n->P j=false)/\sM P n= -1):=by grind[sM,nY,uX,F7]
abbrev pM:Tx:=⟨#[]⟩
def qG(l:List Tx)(s:Tx):Int:=sM (fun i=>decide (l.getD i.toNat pM=s)) l.length
theorem fG{α:Type}{l:List α}{d:α}{i:Int}(h0:0<=i)(h:i<l.length):l[i.toNat]?=some (l.getD i.toNat d):=by grind
theorem getD_take{α:Type}{l:List α}{d:α}{i k:Int}(h0:0<=i)(h:i<k):(l.take k.toNat).getD i.toNat d=l.getD i.toNat d:=by grind
def x7(l:List Tx):Int:=sM (fun i=>decide (qG l (l.getD i.toNat pM)<i)) l.length
theorem agu{l:List Tx}{i:Int}(i0:0<=i)(i1:i<l.length):decide (qG (l.take i.toNat) (l.getD i.toNat pM)>=0)=decide (qG l (l.getD i.toNat pM)<i):=by
 rw[gP,eo,eo]
 have hl:((l.take i.toNat).length:Int)=i:=by rw[eP];omega
 rw[qG,hl]
 rcases Yw (fun j=>decide ((l.take i.toNat).getD j.toNat pM=l.getD i.toNat pM)) i with⟨k,k0,k1,k2,k3,e⟩|⟨h,e⟩
 .rw[e]
  have h1:qG l (l.getD i.toNat pM)=k:=uX k0 J (by rw[<-k2,getD_take k0 k1]) fun j a b=>by
   rw[<-k3 j a b,getD_take a J]
  rw[h1];omega
 rw[e]
 have h1:qG l (l.getD i.toNat pM)=i:=uX i0 i1 aF fun j a b=>by
  rw[<-h j a b,getD_take a b]
 rw[h1];omega
def aI9(a b:List Tx):Bool:=decide (a=b)
end Go.Proofs.YtlhjdflgjbkpmaaGreatDoor.M
namespace Go.Proofs.YtlhjdflgjbkpmaaGreatDoor.E
section
open Go Go.RowKit Go.Proofs.YtlhjdflgjbkpmaaGreatDoor.M
abbrev S(s:Tx):Value:= .string s
abbrev Jn(l:List Tx):List Value:=l.map Value.string
theorem Ca{l:List Tx}{k:Int}(h:0<=k/\k<l.length):(Jn l)[k.toNat*1]?=some (S (l.getD k.toNat pM)):=by grind
theorem gY{w:World}{v:Value}{sz n:Nat}{c:List Value}(h:Sl w v sz n c):v.oneCell'=true/\v.cells=#[v]:=by
 obtain⟨a,cap,rfl,-,-⟩:=h.shape;exact⟨rfl,rfl⟩
theorem Sl.aDe{w:World}{v:Value}{l:List Tx}{n:Int}(h:Sl w v 1 l.length (Jn l))(hn:0<=n/\n<=l.length):Sl w (q7 v n.toNat) 1 (l.take n.toNat).length (Jn (l.take n.toNat)):=
 (h.cut n.toNat J).conv (by rw[eP];omega) (by rw[lE];exact BI.symm)
theorem aq8{s:Tx}:s=pM↔s.size=0:=by
 constructor
 .intro h;rw[h];rfl
 intro h
 cases s with
 |mk d=>
  have:d.size=0:=h
  have e:d=#[]:=aeX this
  rw[e]
section runs
variable{P:Program}{σ:Env}{w:World}{dst:Option Tmp}{ty t u:TypeId}{pos:String}{bK:Array Edge}{g:Option (Nat×Bool)}{x y:Operand}{a b:Tx}{k:IntKind}{i:Int}
theorem aq9(a b:Tx):(a.toList==b.toList)=decide (a=b):=by
 rw[ByteArray.toList_eq,ByteArray.toList_eq,gP,BN,eo]
 constructor
 .exact fun h=>WideShapes.bytes_inj h
 exact fun h=>by rw[h]
theorem agv{op:BinOp}{v:Value}(hx:ev σ x=S a)(hy:ev σ y=S b)(h:(binOp op t (S a) (S b)).run P w= .ok v w):
  (execOp (ev σ) ⟨dst,.binOp op t x y u,ty,pos,bK,g⟩).run P w= .ok (.value v) w:=by
 have he:(eqGuard op t x y (S a) (S b))=pure ():=by cases op<;>rfl
 simp[execOp,hx,hy,he,h]
theorem Ma(hx:ev σ x=S a)(hy:ev σ y=S b):(execOp (ev σ) ⟨dst,.binOp .eql t x y u,ty,pos,bK,g⟩).run P w= .ok (.value (.bool (decide (a=b)))) w:=
 agv hx hy (by rw[binOp_string_eql,aq9];rfl)
theorem sN(ht:P.underlying t=some .string)(hx:ev σ x=S a)(hy:ev σ y= .int k i)(h:0<=i/\i<a.size):(execOp (ev σ) ⟨dst,.index t x y,ty,pos,bK,g⟩).run P w= .ok (.value (.int .u8 (rN a i))) w:=by
 have h1:=run_index_string (P:=P) w t a k i ht
 rw[dif_pos h]at h1
 have h2:((a[i.toNat]'J).toNat:Int)=rN a i:=by
  have hl:i.toNat<a.data.toList.length:=by
   have:a.data.toList.length=a.size:=by cases a;rfl
   omega
  rw[rN,eS,ep hl]
  cases a;rfl
 rw[h2]at h1
 simp[execOp,hx,hy,h1]
end runs
abbrev Vu:=Nat->Obj->Prop
def Kw(w:World):Vu:=fun b o=>w.heap[b]?=some o
def Kz(K:Vu)(Z:List a7):Vu:=fun b o=>K b o\/a7.blk b o∈Z
def Po(K:Vu)(b j:Nat)(c:Value):Prop:=∃cs e fr,K b (.cells cs e fr)/\cs[j]?=some c
structure pN(K:Vu)(v:Value)(sz n:Nat)(cells:List Value):Prop where
 shape:∃a cap,v= .slice a n cap/\n<=cap/\(0<n->a=some ⟨sb v,so v,none⟩)
 len:cells.length=n*sz
 cell:∀j c,cells[j]?=some c->Po K (sb v) (so v+j) c
 small:n<=maxLen
def Le(K K':Vu):Prop:=∀b o,K b o->K' b o
theorem Le.refl(K:Vu):Le K K:=fun _ _ h=>h
theorem Le.trans{K K' K'':Vu}(h:Le K K')(h':Le K' K''):Le K K'':=fun b o hb=>h' b o (h b o hb)
theorem Le.z(K:Vu)(Z:List a7):Le K (Kz K Z):=fun _ _ h=> .inl h
theorem Le.zz{K:Vu}{Z Z':List a7}(h:∀x,x∈Z->x∈Z'):Le (Kz K Z) (Kz K Z'):=fun b o hb=>hb.imp id (h _)
theorem Le.kk{K:Vu}{Z Z':List a7}:Le (Kz (Kz K Z) Z') (Kz K (Z'++Z)):=fun b o hb=>by
 rcases hb with(hb|hb)|hb
 .exact .inl hb
 .exact .inr (by simp[hb])
 exact .inr (by simp[hb])
theorem Po.mono{K K':Vu}{b j:Nat}{c:Value}(h:Po K b j c)(hl:Le K K'):Po K' b j c:=by
 obtain⟨cs,e,fr,h1,h2⟩:=h;exact⟨cs,e,fr,hl _ _ h1,h2⟩
theorem pN.mono{K K':Vu}{v:Value}{sz n:Nat}{cells:List Value}(h:pN K v sz n cells)(hl:Le K K'):pN K' v sz n cells:=⟨h.shape,h.len,fun j c hc=>(h.cell j c hc).mono hl,h.small⟩
theorem pN.nil(K:Vu)(sz:Nat):pN K (.slice none 0 0) sz 0 []:=⟨⟨none,0,rfl,er _,fun h=>J⟩,aF,fun j c h=>by simp at h,kU⟩
section
variable{w0 w w':World}{L L' Z:List a7}{K:Vu}{v:Value}{sz n:Nat}{cells:List Value}
theorem pN.sl(h:pN (Kw w) v sz n cells):Sl w v sz n cells:=⟨h.shape,h.len,fun j c hc=>by
 obtain⟨cs,e,fr,h1,h2⟩:=h.cell j c hc
 rw[xf w _ _ cs e fr h1];exact h2,h.small⟩
theorem ade{b j:Nat}{c:Value}(h1:w.cell? ⟨b,j,none⟩=some c):Po (Kw w) b j c:=by
 unfold World.cell? at h1
 cases hq:w.heap[b]? with
 |none=>simp[hq]at h1
 |some o=>
  cases o with
  |cells cs e fr=>simp[hq]at h1;exact⟨cs,e,fr,hq,h1⟩
  |_=>simp[hq]at h1
theorem Sl.slv(h:Sl w v sz n cells):pN (Kw w) v sz n cells:=⟨h.shape,h.len,fun j c hc=>ade (h.cell j c hc),h.small⟩
theorem Kw.below(hb:Below w.heap.size w w'):Le (Kw w) (Kw w'):=fun b o h=>by
 show w'.heap[b]?=some o
 rw[hb.block b (BA.1 h).1];exact h
theorem Hp.kw(h:Hp w0 w L):Le (Kw w0) (Kw w):=Kw.below h.below
theorem Hp.kz(h:Hp w0 w L)(hK:Le K (Kw w0))(hZ:∀x,x∈Z->x∈L):Le (Kz K Z) (Kw w):=fun b o hb=>by
 rcases hb with hb|hb
 .exact h.kw _ _ (hK _ _ hb)
 exact(h.ok _ (hZ _ hb)).2
theorem Hp.D4(h:Hp w0 w L)(hz:Hp w w' Z):Hp w0 w' (Z++L):=by
 have h':=h.call hz.below
 refine⟨h'.below,fun x hx=> ?_,BC.2 ⟨hz.LC,h'.LC,fun x hx y hy=> ?_⟩⟩
 .rcases eI.1 hx with hx|hx
  .have h1:=hz.ok x hx
   rcases x with⟨b,o⟩|⟨v,e,sz,n,xs⟩
   .exact⟨kM h.size h1.1,h1.2⟩
   refine⟨h1.1,?_⟩
   rcases h1.2 with hn|⟨gb,cap,cur,rfl,h2,rest⟩
   .exact .inl hn
   exact .inr ⟨gb,cap,cur,rfl,kM h.size h2,rest⟩
  exact h'.ok x hx
 .cases hf:x.rO with
  |none=>exact .inl O
  |some b=>
   refine .inr fun e=> ?_
   have h1:=(a7.Ji (hz.ok x hx) b hf).1
   have h2:=(a7.Ji (h.ok y hy) b (by rw[<-e])).2
   omega
theorem Hp.Jo(h:Hp w0 w (Z++(L++L'))):Hp w0 w (L++(Z++L')):=by grind[Hp]
theorem Hp.Yx{e:TypeId}{xs:List Value}(h:Hp w0 w (.row v e sz n xs::L))(K:Vu):∃Z:List a7,Hp w0 w (Z++L)/\pN (Kz K Z) v sz n xs/\(∀x∈Z,∃b c e,x= .blk b (.cells c e (0,0))):=by
 have h1:=h.ok _ (tQ ..)
 obtain⟨hl,h2⟩:=h1
 rcases h2 with⟨rfl,rfl⟩|⟨gb,cap,cur,rfl,hb,hg,hn,hm,hs,ht⟩
 .have:xs=[]:=yJ (by simpa using hl)
  subst this
  exact⟨[],h.tail,pN.nil _ _,fun x hx=>by simp at hx⟩
 refine⟨[.blk gb (.cells cur e (0,0))],⟨h.below,fun x hx=> ?_,?_⟩,⟨⟨_,cap,rfl,hn,fun _=>rfl⟩,hl,fun j c hj=>⟨cur,e,(0,0),.inr (by simp[sb]),?_⟩,kM hn hm⟩,fun x hx=> ?_⟩
 .rcases cQ.1 hx with rfl|hx
  .exact⟨hb,hg⟩
  exact h.ok x (fC _ hx)
 .exact List.Pairwise.cons (fun y hy=>(lA.1 h.LC).1 y hy) (lA.1 h.LC).2
 .simp only[so,ia]
  rw[<-ht,uF]at hj
  split at hj
  .simpa using hj
  .cases hj
 simp at hx;exact⟨_,_,_,hx⟩
theorem F8{b:Nat}{c:List Value}{e:TypeId}(hZ:a7.blk b (.cells c.toArray e (0,0))∈Z)(hl:c.length=n*sz)(hn:n<=maxLen):pN (Kz K Z) (.slice (some ⟨b,0,none⟩) n n) sz n c:=
 ⟨⟨_,n,rfl,er _,fun _=>rfl⟩,hl,fun j u hu=>⟨c.toArray,e,(0,0),.inr hZ,by simp only[so,ia];simpa using hu⟩,hn⟩
end
def Jp(K:Vu)(p:Vu->Value->Prop)(w:World):Ending->World->Prop:=jj fun u w'=>∃Z:List a7,Hp w w' Z/\p (Kz K Z) u
section calls
variable{P:Program}{n:Nat}{ops:Array Oper}{k:K}{rest:List Oper}{σ:Env}{w0 w:World}{L:List a7}{op:Op}{ty:TypeId}{pos:String}{bK:Array Edge}{d:Nat}{Kv:Vu}{p:Vu->Value->Prop}
theorem Yy{f:FuncId}{args:Array Value}(hd:Nat.blt d n=true)(hH:Hp w0 w L)(hc:Calls P f args w (Jp Kv p w))
  (hr:(execOp (ev σ) ⟨some d,op,ty,pos,bK,none⟩).run P w= .ok (.enter f args) w)
  (hk:∀v w' Z,Hp w0 w' (Z++L)->p (Kz Kv Z) v->RL P n ops k rest (lG σ d v) w'):RL P n ops k (⟨some d,op,ty,pos,bK,none⟩::rest) σ w:=
 HS hd hr hc fun u w' ⟨Z,hz,hp⟩=>hk u w' Z (hH.D4 hz) hp
variable{l:List Oper}{i fuel:Nat}{listed:Array Bool}{g:Option (Nat×Bool)}{L':List a7}
theorem agw{f:FuncId}{args:Array Value}(hi:l[i]?=some ⟨some d,op,ty,pos,bK,g⟩)(hg:∀a,Is n σ a->Region.wanted ⟨some d,op,ty,pos,bK,g⟩ (yielded l.toArray a.tmps)=true)(hd:Nat.blt d n=true)
  (hH:Hp w0 w L') (hs:L.Sublist L') (hc:Calls P f args w (Jp Kv p w)) (hr:(execOp (ev σ) ⟨some d,op,ty,pos,bK,g⟩).run P w= .ok (.enter f args) w)
  (h:∀v w' Z,Hp w0 w' (Z++L')->p (Kz Kv Z) v->AN P n l (fun w=>Hp w0 w L) k fuel (listed.setIfInBounds i true) (lG σ d v) w'):AO P n l (fun w=>Hp w0 w L) k fuel listed σ w i:=
 RO hi hg hd hc hr fun u w' ⟨Z,hz,hp⟩=>⟨(hH.D4 hz).sub (List.Sublist.trans hs (W7 _ _)),h u w' Z (hH.D4 hz) hp⟩
end calls
section flat
variable{α:Type}{cl:α->List Value}{sz:Nat}
theorem flat_get(hsz:∀a,(cl a).length=sz):∀(l:List α) (k:Nat) (a:α),l[k]?=some a->∀j c,(cl a)[j]?=some c->(l.flatMap cl)[k*sz+j]?=some c
 |[],k,a,h=>by simp at h
 |p::l,0,a,h=>fun j c hj=>by
  simp at h;subst h
  rw[tS,yK (by have:=(m8.1 hj).1;omega),Ro,ia];exact hj
 |p::l,k+1,a,h=>fun j c hj=>by
  have:=flat_get hsz l k a xl j c hj
  rw[tS,Ez (by rw[hsz,kT];omega),hsz,show(k+1)*sz+j-sz=k*sz+j by rw[kT];omega];exact this
theorem fq(hsz:∀a,(cl a).length=sz)(l:List α):(l.flatMap cl).length=l.length*sz:=by
 induction l with
 |nil=>simp
 |cons a l ih=>rw[tS,cZ,hsz,ih,eR,kT];omega
variable{P:Program}{σ:Env}{w:World}{dst:Option Tmp}{ty t:TypeId}{pos:String}{bK:Array Edge}{g:Option (Nat×Bool)}{x:Operand}{v:Value}{l:List α}{k:Int}
theorem eF{d:TypeDesc}{dv:α}(hsz:∀a,(cl a).length=sz)(hS:Sl w v sz l.length (l.flatMap cl))(hu:P.underlying t=some d)(hd:d.isRow=true)(hi:(P.info? t).map (·.size)=some sz)
  (hx:ev σ x= .pointer (some ⟨sb v,so v+k.toNat*sz,none⟩)) (hk:0<=k/\k<l.length):
  (execOp (ev σ) ⟨dst,.load t x,ty,pos,bK,g⟩).run P w= .ok (.value (.agg (cl (l.getD k.toNat dv)).toArray)) w:=by
 refine cM hu hd (by rw[hsz];exact hi) hx fun j c hj=> ?_
 have:=hS.cell _ _ (flat_get hsz l k.toNat _ (fG hk.1 hk.2) j c hj)
 rw[yQ];exact this
theorem fQ{d:TypeDesc}{dv:α}{off:Nat}{c:Value}(hsz:∀a,(cl a).length=sz)(hS:Sl w v sz l.length (l.flatMap cl))(hu:P.underlying t=some d)(hd:d.isRow=false)
  (hx:ev σ x= .pointer (some ⟨sb v,so v+k.toNat*sz+off,none⟩)) (hk:0<=k/\k<l.length) (hc:(cl (l.getD k.toNat dv))[off]?=some c):
  (execOp (ev σ) ⟨dst,.load t x,ty,pos,bK,g⟩).run P w= .ok (.value c) w:=by
 refine aC hu hd hx ?_
 have:=hS.cell _ _ (flat_get hsz l k.toNat _ (fG hk.1 hk.2) off c hc)
 rw[yQ];exact this
theorem n4{d:TypeDesc}{dv:α}{off:Nat}{cs:List Value}(hsz:∀a,(cl a).length=sz)(hS:Sl w v sz l.length (l.flatMap cl))(hu:P.underlying t=some d)(hd:d.isRow=true)(hi:(P.info? t).map (·.size)=some cs.length)
  (hx:ev σ x= .pointer (some ⟨sb v,so v+k.toNat*sz+off,none⟩)) (hk:0<=k/\k<l.length) (hc:∀j c,cs[j]?=some c->(cl (l.getD k.toNat dv))[off+j]?=some c):
  (execOp (ev σ) ⟨dst,.load t x,ty,pos,bK,g⟩).run P w= .ok (.value (.agg cs.toArray)) w:=by
 refine cM hu hd hi hx fun j c hj=> ?_
 have:=hS.cell _ _ (flat_get hsz l k.toNat _ (fG hk.1 hk.2) (off+j) c (hc j c hj))
 rw[yQ,yQ];exact this
end flat
end
end Go.Proofs.YtlhjdflgjbkpmaaGreatDoor.E
namespace Go.Proofs.YtlhjdflgjbkpmaaGreatDoor.M
section
open Go
abbrev El:=Nat->BitVec 64
def rC(a b:El):Prop:=∀i,i<8->a i=b i
instance(a b:El):Decidable (rC a b):=inferInstanceAs (Decidable (∀i,i<8->a i=b i))
def dH:El:=fun _=>0#64
def A4(e:El)(i:Nat)(x:BitVec 64):El:=fun j=>if j=i then x else e j
structure Fc where
 kind:Int
 names:List Tx
 rel:Rl
structure Sh where
 tuple:Bool
 aL:List Fc
def vO:Fc:=⟨0,[],Rl.none⟩
def gZ(l:List Tx):Bool:=decide (1<=l.length/\l.length<=64)&&decide (x7 l<0)&&l.all iG
theorem Dm{l:List Tx}(h:¬(1<=l.length/\l.length<=64)):gZ l=false:=by grind[gZ]
theorem Pp{l:List Tx}(h:¬x7 l<0):gZ l=false:=by grind[gZ]
theorem Pq{l:List Tx}{k:Int}(k0:0<=k)(k1:k<l.length)(h:iG (l.getD k.toNat pM)=false):gZ l=false:=by
 cases hc:gZ l with
 |false=>rfl
 |true=>
  rw[gZ,cG,iN]at hc
  rw[hc.2 _ (lz (fG (d:=pM) k0 k1))]at h;cases h
theorem p6{l:List Tx}{k:Int}(h1:1<=l.length/\l.length<=64)(h2:x7 l<0)(hk:¬k<l.length)(hf:∀j:Int,0<=j->j<k->iG (l.getD j.toNat pM)=true):gZ l=true:=by
 rw[gZ,gQ h1,gQ h2,l8,l8,iN]
 intro x hx
 obtain⟨i,hi,rfl⟩:=th hx
 have:=hf i J J
 rw[ef,eS,ep hi]at this
 exact this
def cR(f:Fc):Bool:=gZ f.names&&
 (if f.kind=1\/f.kind=2 then decide (pts f.rel=0)else if f.kind=3 then decide (f.rel.n=f.names.length)&&de f.rel else if f.kind=4 then decide (f.rel.n=f.names.length)&&sL f.rel else false)
theorem adf(r:Rl):(ey r).eq (ey Rl.none)↔pts r=0:=by
 have hp:=dr r
 constructor
 .intro h;exact h.1
 intro h
 refine⟨h,fun i hi=> ?_⟩
 show(if(i:Int)<pts r then uT r i else 0#64)=(if(i:Int)<0 then uT Rl.none i else 0#64)
 rw[aR J,aR J]
def lW(s:Sh):Bool:=decide (1<=s.aL.length/\s.aL.length<=8)&&(s.tuple||decide (s.aL.length=1))&&s.aL.all cR
theorem KB{s:Sh}(h:¬(1<=s.aL.length/\s.aL.length<=8)):lW s=false:=by grind[lW]
theorem aaL{s:Sh}(h:s.tuple=false)(h2:¬s.aL.length=1):lW s=false:=by grind[lW]
theorem KC{s:Sh}{k:Int}(k0:0<=k)(k1:k<s.aL.length)(h:cR (s.aL.getD k.toNat vO)=false):lW s=false:=by
 cases hc:lW s with
 |false=>rfl
 |true=>
  rw[lW,cG,iN]at hc
  rw[hc.2 _ (lz (fG (d:=vO) k0 k1))]at h;cases h
theorem KD{s:Sh}{k:Int}(h1:1<=s.aL.length/\s.aL.length<=8)(h2:s.tuple=true\/s.aL.length=1)(hk:¬k<s.aL.length)(hf:∀j:Int,0<=j->j<k->cR (s.aL.getD j.toNat vO)=true):lW s=true:=by
 have h3:(s.tuple||decide (s.aL.length=1))=true:=by rcases h2 with h2|h2<;>simp[h2]
 rw[lW,gQ h1,h3,l8,l8,iN]
 intro x hx
 obtain⟨i,hi,rfl⟩:=th hx
 have:=hf i J J
 rw[ef,eS,ep hi]at this
 exact this
theorem mc{s:Sh}(h:lW s=true):(1<=s.aL.length/\s.aL.length<=8)/\(s.tuple=true\/s.aL.length=1)/\∀f∈s.aL,cR f=true:=by grind[lW]
theorem TM{s:Sh}(h:lW s=true){k:Int}(k0:0<=k)(k1:k<s.aL.length):cR (s.aL.getD k.toNat vO)=true:=by simp_all[Sh,lW,cR,vO,mc,fG,k1]
theorem sE{f:Fc}(h:cR f=true):(1<=f.names.length/\f.names.length<=64)/\((f.kind=1/\pts f.rel=0)\/(f.kind=2/\pts f.rel=0)\/(f.kind=3/\f.rel.n=f.names.length/\de f.rel=true)\/(f.kind=4/\f.rel.n=f.names.length/\sL f.rel=true)):=by grind[cR,gZ]
def arb(a b:Fc):Bool:=decide (a.kind=b.kind)&&decide (a.names=b.names)&&decide ((ey a.rel).eq (ey b.rel))
def aJb(a b:Sh):Bool:=decide (a.tuple=b.tuple)&&decide (a.aL.length=b.aL.length)&&(upto a.aL.length).all fun i=>arb (a.aL.getD i.toNat vO) (b.aL.getD i.toNat vO)
def j5(f:Fc)(w:BitVec 64):Bool:=if f.kind=1 then(level f.names.length w).2 else if f.kind=2 then dX w (below f.names.length)else if f.kind=3 then pA f.rel w else(eM f.rel w).2
def cF(s:Sh)(e:El):Bool:=lW s&&(upto 8).all fun i=>if i<s.aL.length then j5 (s.aL.getD i.toNat vO) (e i.toNat)else decide (e i.toNat=0#64)
theorem Uo{s:Sh}{e:El}(h:lW s=false):cF s e=false:=by rw[cF,h];rfl
theorem Up{s:Sh}{e:El}{k:Int}(k0:0<=k)(k1:k<8)(h:k<s.aL.length)(h2:j5 (s.aL.getD k.toNat vO) (e k.toNat)=false):cF s e=false:=by
 cases hc:cF s e with
 |false=>rfl
 |true=>
  rw[cF,cG,iN]at hc
  have:=hc.2 k (cN.2 ⟨k0,k1⟩)
  rw[aS h,h2]at this;cases this
theorem Mb{s:Sh}{e:El}{k:Int}(k0:0<=k)(k1:k<8)(h:¬k<s.aL.length)(h2:e k.toNat≠0#64):cF s e=false:=by
 cases hc:cF s e with
 |false=>rfl
 |true=>
  rw[cF,cG,iN]at hc
  have:=hc.2 k (cN.2 ⟨k0,k1⟩)
  rw[aR h,eo]at this;exact absurd this h2
def D5(s:Sh)(e:El)(k:Int):Prop:=∀j:Int,0<=j->j<k->(j<s.aL.length->j5 (s.aL.getD j.toNat vO) (e j.toNat)=true)/\(¬j<s.aL.length->e j.toNat=0#64)
theorem Mc{s:Sh}{e:El}{k:Int}(h:lW s=true)(hk:¬k<8)(hf:D5 s e k):cF s e=true:=by
 rw[cF,h,l8,iN]
 intro i hi
 have h1:=cN.1 hi
 have h2:=hf i h1.1 J
 split
 .rename_i h3;exact h2.1 h3
 rename_i h3;exact gQ (h2.2 h3)
theorem D5.none(s:Sh)(e:El):D5 s e 0:=fun j a b=>absurd b J
theorem D5.next{s:Sh}{e:El}{k:Int}(h:D5 s e k)(h1:k<s.aL.length->j5 (s.aL.getD k.toNat vO) (e k.toNat)=true)(h2:¬k<s.aL.length->e k.toNat=0#64):D5 s e (k+1):=fun j a b=>by
 by_cases he:j=k
 .subst he;exact⟨h1,h2⟩
 exact h j a J
def cT(a b:El):Bool:=(upto 8).all fun i=>dX (a i.toNat) (b i.toNat)
theorem ard{a b:El}{k:Int}(k0:0<=k)(k1:k<8)(h:dX (a k.toNat) (b k.toNat)=false):cT a b=false:=by
 cases hc:cT a b with
 |false=>rfl
 |true=>
  rw[cT,iN]at hc
  rw[hc k (cN.2 ⟨k0,k1⟩)]at h;cases h
theorem al4{a b:El}{k:Int}(hk:¬k<8)(hf:∀j:Int,0<=j->j<k->dX (a j.toNat) (b j.toNat)=true):cT a b=true:=by grind[cT,cN]
def Uq(s:Sh)(a b:El)(i:Nat):BitVec 64:=if(i:Int)<s.aL.length/\(s.aL.getD i vO).kind=4 then jL (s.aL.getD i vO).rel (a i) (b i)else a i|||b i
def fH(s:Sh)(a b:El):El:=fun i=>Uq s a b i
def rD(a b:El):El:=fun i=>a i&&&b i
def sO(a b:El)(k:Int):El:=fun i=>if(i:Int)<k then a i else b i
theorem F9(a b:El):sO a b 0=b:=funext fun i=>aR J
theorem Dn{a b:El}{k:Int}{x:BitVec 64}(k0:0<=k)(h:x=a k.toNat):A4 (sO a b k) k.toNat x=sO a b (k+1):=by grind[A4,sO]
theorem Yz{a b:El}{k:Int}(k0:0<=k):sO a b k k.toNat=b k.toNat:=aR J
theorem alx{a b:El}{k:Int}(hk:¬k<8):rC (sO a b k) a:=fun i hi=>aS J
def eY(f:Fc):BitVec 64:=if f.kind≠4 then 0#64 else bU f.rel (E0 f.rel (iL f.rel)).1
def are(f:Fc):BitVec 64:=if f.kind=1 then aCV f.names.length else if f.kind=2 then below f.names.length else if f.kind=3 then Yt f.rel else bU f.rel (E0 f.rel (bU f.rel)).1
def iu(s:Sh)(f:Fc->BitVec 64):El:=fun i=>if lW s=true/\(i:Int)<s.aL.length then f (s.aL.getD i vO)else 0#64
def eu(f:Fc):Int:=if f.kind=1 then f.names.length-1 else if f.kind=2 then f.names.length else if f.kind=3 then kN f.rel else(qx f.rel).1
def x8(s:Sh)(k:Int):Int:=((upto k).map fun i=>eu (s.aL.getD i.toNat vO)).sum
theorem qH{s:Sh}{k:Int}(k0:0<=k):x8 s k+eu (s.aL.getD k.toNat vO)=x8 s (k+1):=by grind[x8,gT]
def df(s:Sh):Int:=if lW s then x8 s s.aL.length else 0
end
end Go.Proofs.YtlhjdflgjbkpmaaGreatDoor.M
namespace Go.Proofs.YtlhjdflgjbkpmaaGreatDoor.E
section
open Go Go.RowKit Go.Proofs.YtlhjdflgjbkpmaaGreatDoor.M
def s8(e:El):List Value:=(List.range 8).map fun i=>U (e i)
@[irreducible] def jv(e:El):Array Value:=(s8 e).toArray
theorem iv(e:El):jv e=(s8 e).toArray:=by unfold jv;rfl
theorem fK(e:El):(s8 e).length=8:=by simp[s8]
theorem Lo(e:El):(jv e).size=8:=by rw[iv];simp[s8]
theorem n5(e:El){i:Nat}(h:i<8):(jv e)[0+i*1]?=some (U (e i)):=by grind[iv,s8]
theorem arf(e:El){k:Int}(h:0<=k/\k<8):(jv e)[k.toNat]?=some (U (e k.toNat)):=by grind[iv,s8]
theorem zu(e:El)(i:Nat)(x:BitVec 64):(jv e).setIfInBounds (0+i*1) (U x)=jv (A4 e i x):=by grind[iv,fK,s8,A4]
theorem rT{a b:El}(h:rC a b):jv a=jv b:=by simp_all[El,rC,jv,iv,s8]
theorem agx:jv dH=Array.replicate 8 (U 0#64):=by rw[iv];rfl
theorem aaM(e:El):∀u∈jv e,u.oneCell'=true:=by
 rw[iv];simp[s8]
 exact fun _ _=>rfl
structure qk where
 kind:Int
 nv:Value
 names:List Tx
 rel:Rl
def qk.fc(f:qk):Fc:=⟨f.kind,f.names,f.rel⟩
def rU(f:qk):List Value:=I f.kind::f.nv::vP f.rel
theorem fI(f:qk):(rU f).length=67:=by simp[rU,o7]
abbrev ur(f:qk):Array Value:=(rU f).toArray
def bI:qk:=⟨0,.slice none 0 0,[],Rl.none⟩
theorem Md(f:qk):∀j c,(vP f.rel)[j]?=some c->(rU f)[2+j]?=some c:=by grind[rU]
structure vR(K:Vu)(f:qk):Prop where
 names:pN K f.nv 1 f.names.length (Jn f.names)
theorem vR.mono{K K':Vu}{f:qk}(h:vR K f)(hl:Le K K'):vR K' f:=⟨h.names.mono hl⟩
structure kW where
 tuple:Bool
 fv:Value
 aL:List qk
def kW.sh(s:kW):Sh:=⟨s.tuple,s.aL.map qk.fc⟩
abbrev q9(s:kW):Array Value:=#[B s.tuple,s.fv]
structure ld(K:Vu)(s:kW):Prop where
 aL:pN K s.fv 67 s.aL.length (s.aL.flatMap rU)
 each:∀f∈s.aL,vR K f
theorem ld.mono{K K':Vu}{s:kW}(h:ld K s)(hl:Le K K'):ld K' s:=⟨h.aL.mono hl,fun f hf=>(h.each f hf).mono hl⟩
theorem rV(s:kW):s.sh.aL.length=s.aL.length:=by simp[kW.sh]
theorem iK(s:kW)(k:Int):s.sh.aL.getD k.toNat vO=(s.aL.getD k.toNat bI).fc:=by
 rw[kW.sh,eS,eS,pW]
 cases s.aL[k.toNat]?<;>rfl
theorem ld.at{K:Vu}{s:kW}(h:ld K s){k:Int}(h0:0<=k)(h1:k<s.aL.length):vR K (s.aL.getD k.toNat bI):=h.each _ (lz (fG (d:=bI) h0 h1))
section runs
variable{P:Program}{σ:Env}{w:World}{dst:Option Tmp}{ty t u e:TypeId}{pos:String}{bK:Array Edge}{g:Option (Nat×Bool)}{x y:Operand}{b:Nat}{fr:Nat×Nat}
structure ElT(P:Program)(t e:TypeId):Prop where
 u:P.underlying t=some (.array 8 e)
 ue:P.underlying e=some (.int .u64)
 se:∀w,(sizeOf e).run P w= .ok 1 w
 ae:∀w,(isAgg e).run P w= .ok false w
 eg:P.eqGuardType P.depth t=false
theorem ElT.eql(T:ElT P t e)(a b:El)(w:World):(Op.equalIn 10000 t (.agg (jv a)) (.agg (jv b))).run P w= .ok (decide (rC a b)) w:=by
 rw[iv,iv]
 exact aoG 9998 a b T.u T.ue T.se T.ae
theorem Il{a b:El}(T:ElT P t e)(hx:ev σ x= .agg (jv a))(hy:ev σ y= .agg (jv b)):
  (execOp (ev σ) ⟨dst,.binOp .eql t x y u,ty,pos,bK,g⟩).run P w= .ok (.value (.bool (decide (rC a b)))) w:=by
 have h:=run_eql_struct (P:=P) w t (jv a) (jv b)
 rw[T.eql]at h
 simp only[execOp,hx,hy,rK,Rf w .eql t x y _ _ T.eg,uG]
 simp[h]
theorem adg{a b:El}(T:ElT P t e)(hx:ev σ x= .agg (jv a))(hy:ev σ y= .agg (jv b)):
  (execOp (ev σ) ⟨dst,.binOp .neq t x y u,ty,pos,bK,g⟩).run P w= .ok (.value (.bool (!decide (rC a b)))) w:=by
 have h:=run_neq_struct (P:=P) w t (jv a) (jv b)
 rw[T.eql]at h
 simp only[execOp,hx,hy,rK,Rf w .neq t x y _ _ T.eg,uG]
 simp[h]
theorem dW{a:El}{d:TypeDesc}(hu:P.underlying t=some d)(hd:d.isRow=true)(hi:(P.info? t).map (·.size)=some 8)(hx:ev σ x= .pointer (some ⟨b,0,none⟩))
 (hg:w.heap[b]?=some (.cells (jv a) e fr)):(execOp (ev σ) ⟨dst,.load t x,ty,pos,bK,g⟩).run P w= .ok (.value (.agg (jv a))) w:=by grind[iv,cM,fK,bp]
theorem ez{a a0:El}(hi:(P.info? t).map (·.size)=some 8)(hx:ev σ x= .pointer (some ⟨b,0,none⟩))(hy:ev σ y= .agg (jv a))(hg:w.heap[b]?=some (.cells (jv a0) e (0,0))):
 (execOp (ev σ) ⟨dst,.store t x y,ty,pos,bK,g⟩).run P w= .ok .skip (w.setRow b (jv a)):=by grind[dF,Lo,aaM]
theorem x9{f:qk}{d:TypeDesc}(hu:P.underlying t=some d)(hd:d.isRow=true)(hi:(P.info? t).map (·.size)=some 67)(hx:ev σ x= .pointer (some ⟨b,0,none⟩))
 (hg:w.heap[b]?=some (.cells (ur f) e fr)):(execOp (ev σ) ⟨dst,.load t x,ty,pos,bK,g⟩).run P w= .ok (.value (.agg (ur f))) w:=by grind[cM,fI,bp]
theorem ou{K:Vu}{v:Value}{sz n:Nat}{c:List Value}(h:pN K v sz n c):v.oneCell'=true/\v.cells=#[v]:=by
 obtain⟨a,cap,rfl,-,-⟩:=h.shape;exact⟨rfl,rfl⟩
theorem Ur{K:Vu}{f:qk}(h:vR K f):∀u∈rU f,u.oneCell'=true:=by
 intro u hu
 rw[rU,cQ,cQ]at hu
 rcases hu with rfl|rfl|hu
 .rfl
 .exact(ou h.names).1
 exact LN f.rel u (by rw[ja];simpa using hu)
theorem rW{K:Vu}{f f0:qk}(h:vR K f)(hi:(P.info? t).map (·.size)=some 67)(hx:ev σ x= .pointer (some ⟨b,0,none⟩))(hy:ev σ y= .agg (ur f))(hg:w.heap[b]?=some (.cells (ur f0) e (0,0))):
 (execOp (ev σ) ⟨dst,.store t x y,ty,pos,bK,g⟩).run P w= .ok .skip (w.setRow b (ur f)):=by grind[dF,fI,Ur]
theorem lK{d:TypeDesc}{v:Value}{l:List El}{k:Int}(hS:Sl w v 8 l.length (l.flatMap s8))(hu:P.underlying t=some d)(hd:d.isRow=true)(hi:(P.info? t).map (·.size)=some 8)
 (hx:ev σ x= .pointer (some ⟨sb v,so v+k.toNat*8,none⟩)) (hk:0<=k/\k<l.length):(execOp (ev σ) ⟨dst,.load t x,ty,pos,bK,g⟩).run P w= .ok (.value (.agg (jv (l.getD k.toNat dH)))) w:=by grind[iv,eF,fK]
theorem tW{w0:World}{fn:Func}{L:List a7}{i p:Nat}{q:Value->World->Prop}{d:TypeDesc}{c:Array Value}(h:fn.results=#[.cell p ty])(hp:σ p= .pointer (some ⟨b,0,none⟩))(hH:Hp w0 w L)
  (hi:L[i]?=some (.blk b (.cells c e fr))) (hu:P.underlying ty=some d) (hd:d.isRow=true) (hz:(P.info? ty).map (·.size)=some c.size) (hq:q (.agg c) w):Out P fn q σ w:=
 fun n a ha=>⟨_,results_cell_row h _ w b e c fr d (by rw[ha.get,hp]) (hH.blk hi) hu (by cases d<;>simp_all) hz,hq⟩
theorem agy{d:TypeDesc}{v:Value}{l:List qk}{k:Int}(hS:Sl w v 67 l.length (l.flatMap rU))(hu:P.underlying t=some d)(hd:d.isRow=true)(hi:(P.info? t).map (·.size)=some 65)
  (hx:ev σ x= .pointer (some ⟨sb v,so v+k.toNat*67+2,none⟩)) (hk:0<=k/\k<l.length):
  (execOp (ev σ) ⟨dst,.load t x,ty,pos,bK,g⟩).run P w= .ok (.value (.agg (dP (l.getD k.toNat bI).rel))) w:=by
 rw[ja]
 exact n4 fI hS hu hd (by rw[o7];exact hi) hx hk (Md _)
theorem gE{d:TypeDesc}{f:qk}(hu:P.underlying t=some d)(hd:d.isRow=true)(hi:(P.info? t).map (·.size)=some 65)(hx:ev σ x= .pointer (some ⟨b,0+2,none⟩))
  (hg:w.heap[b]?=some (.cells (ur f) e fr)):(execOp (ev σ) ⟨dst,.load t x,ty,pos,bK,g⟩).run P w= .ok (.value (.agg (dP f.rel))) w:=by
 rw[ja]
 refine cM hu hd (by rw[o7];exact hi) hx fun j c hj=> ?_
 rw[xf w b _ _ e fr hg]
 simpa using Md f j c hj
end runs
end
end Go.Proofs.YtlhjdflgjbkpmaaGreatDoor.E
namespace Go.Proofs.YtlhjdflgjbkpmaaGreatDoor.M
theorem sS(a:BitVec 64):dX a a=true:=eK.2 fun _ h=>h
theorem lM{a b c:BitVec 64}(h:dX a b=true)(h':dX b c=true):dX a c=true:=by grind[eK]
theorem Us{a b:BitVec 64}(h:dX a b=true)(h':dX b a=true):a=b:=uq fun j=>gP.2 ⟨eK.1 h j,eK.1 h' j⟩
theorem Ga(a b:BitVec 64):dX b (a|||b)=true:=by grind[dX,H6]
theorem agz(a b:BitVec 64):dX (a&&&b) b=true:=by grind[dX,FU]
theorem YA{a b c:BitVec 64}(h:dX a c=true)(h':dX b c=true):dX (a|||b) c=true:=by grind[eK,Ko]
theorem al5{a b c:BitVec 64}(h:dX c a=true)(h':dX c b=true):dX c (a&&&b)=true:=by grind[eK,eX]
theorem zero_sub(a:BitVec 64):dX 0#64 a=true:=by grind[eK,sJ]
theorem Cb{n:Int}{w:BitVec 64}(h:(level n w).2=true):(1<=n/\n<=64)/\∃k:Int,(0<=k/\k<n)/\w=below k:=by grind[EU,LH]
theorem Me{n k:Int}(hn:1<=n/\n<=64)(hk:0<=k/\k<n):(level n (below k)).2=true:=by
 have:=Ym (n:=n) (k:=k) ⟨hn.1,hn.2,hk.1,hk.2⟩
 rw[uA ⟨hn.1,hn.2,hk.1,hk.2⟩]at this
 rw[this]
theorem agA{r:Rl}{w:BitVec 64}(h:(eM r w).2=true):∃k:Int,(0<=k/\k<pts r)/\w=bU r k:=by
 rcases nY (fun i=>decide (bU r i=w)) (pts r)with⟨k,k0,k1,k2,-,-⟩|⟨-,e⟩
 .exact⟨k,⟨k0,k1⟩,(K4 k2).symm⟩
 have:eM r w=(0,false):=e
 rw[this]at h;cases h
def wF(f:Fc)(a b:BitVec 64):BitVec 64:=if f.kind=4 then jL f.rel a b else a|||b
theorem Pr{f:Fc}(h:f.kind=1)(w:BitVec 64):j5 f w=(level f.names.length w).2:=by rw[j5,aS h]
theorem Ps{f:Fc}(h:f.kind=2)(w:BitVec 64):j5 f w=dX w (below f.names.length):=by grind[j5]
theorem Pt{f:Fc}(h:f.kind=3)(w:BitVec 64):j5 f w=pA f.rel w:=by grind[j5]
theorem aoL{f:Fc}(h:f.kind=4)(w:BitVec 64):j5 f w=(eM f.rel w).2:=by grind[j5]
theorem uB{r:Rl}{w:BitVec 64}(h:pA r w=true):de r=true/\fP r w=w:=by grind[pA]
theorem Gb{f:Fc}(h:f.kind≠4)(a b:BitVec 64):wF f a b=a|||b:=by rw[wF,aR h]
structure aDf(f:Fc):Prop where
 l:sL f.rel=true
 n:pts f.rel=f.rel.n
theorem JO{f:Fc}(h:cR f=true)(h4:f.kind=4):aDf f:=by
 have hs:=(sE h).2
 rcases hs with hs|hs|hs|hs
 .omega
 .omega
 .omega
 exact⟨hs.2.2,(jb hs.2.2).2.2.1⟩
theorem lN{f:Fc}(h:cR f=true)(h4:f.kind=4){w:BitVec 64}(hw:j5 f w=true):∃k:Int,(0<=k/\k<f.rel.n)/\w=bU f.rel k:=by
 rw[aoL h4]at hw
 obtain⟨k,hk,e⟩:=agA hw
 rw[(JO h h4).n]at hk
 exact⟨k,hk,e⟩
theorem Mf{f:Fc}(h:cR f=true)(h4:f.kind=4){k:Int}(hk:0<=k/\k<f.rel.n):j5 f (bU f.rel k)=true:=by
 have ht:=JO h h4
 rw[aoL h4,uW (jb ht.l).2.1 (by rw[ht.n];exact hk)]
theorem agB{f:Fc}(h:cR f=true)(h4:f.kind=4){i j:Int}(hi:0<=i/\i<f.rel.n)(hj:0<=j/\j<f.rel.n):wF f (bU f.rel i) (bU f.rel j)=bU f.rel (iS f.rel i j).1:=by
 rw[wF,aS h4,ac8 (JO h h4).l hi hj]
theorem YB{f:Fc}(h:cR f=true)(h4:f.kind=4){i j:Int}(hi:0<=i/\i<f.rel.n)(hj:0<=j/\j<f.rel.n):dX (bU f.rel i) (bU f.rel j)=bH f.rel i j:=by grind[Fc,cR,dX,bU,bH,alZ,JO]
theorem uY{f:Fc}(h:cR f=true):f.kind=1\/f.kind=2\/(f.kind=3/\de f.rel=true)\/f.kind=4:=by grind[Fc,cR,de,sE]
section one
variable{f:Fc}(h:cR f=true){a b c:BitVec 64}(ha:j5 f a=true)(hb:j5 f b=true)(hc:j5 f c=true)
include h ha hb
theorem arh:j5 f (wF f a b)=true:=by
 rcases uY h with k|k|⟨k,hr⟩|k
 .rw[Gb J]
  rw[Pr k]at*
  obtain⟨hn,i,hi,rfl⟩:=Cb ha
  obtain⟨-,j,hj,rfl⟩:=Cb hb
  rw[afQ];exact Me hn J
 .rw[Gb J]
  rw[Ps k]at*;exact YA ha hb
 .rw[Gb J]
  rw[Pt k]at*
  have:=awc hr a b
  rwa[(uB ha).2,(uB hb).2]at this
 obtain⟨i,hi,rfl⟩:=lN h k ha
 obtain⟨j,hj,rfl⟩:=lN h k hb
 rw[agB h k hi hj];exact Mf h k (aaI (JO h k).l hi hj)
theorem ari:j5 f (a&&&b)=true:=by
 rcases uY h with k|k|⟨k,hr⟩|k
 .rw[Pr k]at*
  obtain⟨hn,i,hi,rfl⟩:=Cb ha
  obtain⟨-,j,hj,rfl⟩:=Cb hb
  rw[acL];exact Me hn J
 .rw[Ps k]at*;exact lM (FU a b) ha
 .rw[Pt k]at*
  have:=aq6 hr a b
  rwa[(uB ha).2,(uB hb).2]at this
 obtain⟨i,hi,rfl⟩:=lN h k ha
 obtain⟨j,hj,rfl⟩:=lN h k hb
 rw[<-ac7 (JO h k).l hi hj];exact Mf h k (aoJ (JO h k).l hi hj)
theorem aDg:dX a (wF f a b)=true/\dX b (wF f a b)=true:=by
 by_cases k:f.kind=4
 .obtain⟨i,hi,rfl⟩:=lN h k ha
  obtain⟨j,hj,rfl⟩:=lN h k hb
  have hl:=JO h k
  have hJ:=(Ku hl.l hi hj).2
  rw[agB h k hi hj,YB h k hi (aaI hl.l hi hj),YB h k hj (aaI hl.l hi hj)]
  exact⟨hJ.a,hJ.b⟩
 rw[Gb k];exact⟨H6 a b,Ga a b⟩
include hc
theorem awe(h1:dX a c=true)(h2:dX b c=true):dX (wF f a b) c=true:=by
 by_cases k:f.kind=4
 .obtain⟨i,hi,rfl⟩:=lN h k ha
  obtain⟨j,hj,rfl⟩:=lN h k hb
  obtain⟨m,hm,rfl⟩:=lN h k hc
  have hl:=JO h k
  rw[YB h k hi hm]at h1;rw[YB h k hj hm]at h2
  rw[agB h k hi hj,YB h k (aaI hl.l hi hj) hm]
  exact(Ku hl.l hi hj).2.l m h1 h2
 rw[Gb k];exact YA h1 h2
end one
theorem al6{f:Fc}(h:cR f=true):j5 f (eY f)=true/\∀a,j5 f a=true->dX (eY f) a=true:=by
 have hn:=(sE h).1
 rcases uY h with k|k|⟨k,hr⟩|k
 .rw[eY,aS J]
  refine⟨?_,fun a _=>zero_sub a⟩
  rw[Pr k,show(0#64)=below 0 from O];exact Me J J
 .rw[eY,aS J]
  exact⟨by rw[Ps k];exact zero_sub _,fun a _=>zero_sub a⟩
 .rw[eY,aS J]
  refine⟨?_,fun a _=>zero_sub a⟩
  rw[Pt k]
  refine Ij hr (uq fun z=> ?_)
  rw[sJ]
  cases hc:hasB (fP f.rel 0#64) z with
  |false=>rfl
  |true=>
   obtain⟨o,x,p,y,-,-,-,h4⟩:=(jo hr _ z).1 hc
   rw[sJ]at h4;cases h4
 have ht:=JO h k
 have he:=al1 ht.l
 rw[eY,aR J]
 refine⟨Mf h k he.2.1,fun a ha=> ?_⟩
 obtain⟨i,hi,rfl⟩:=lN h k ha
 rw[YB h k he.2.1 hi];exact he.2.2 i hi.1 hi.2
theorem p7{s:Sh}{e:El}(h:cF s e=true):lW s=true/\∀i:Nat,i<8->(((i:Int)<s.aL.length->j5 (s.aL.getD i vO) (e i)=true)/\(¬(i:Int)<s.aL.length->e i=0#64)):=by
 rw[cF,cG,iN]at h
 refine⟨h.1,fun i hi=> ?_⟩
 have:=h.2 (i:Int) (cN.2 J)
 rw[ef]at this
 split at this
 .rename_i h3;exact⟨fun _=>this,fun h4=>absurd h3 h4⟩
 rename_i h3;exact⟨fun h4=>absurd h4 h3,fun _=>K4 this⟩
theorem R4{s:Sh}{e:El}(h:lW s=true)(hf:∀i:Nat,i<8->(((i:Int)<s.aL.length->j5 (s.aL.getD i vO) (e i)=true)/\(¬(i:Int)<s.aL.length->e i=0#64))):cF s e=true:=
 Mc h (k:=8) J fun j j0 j1=>by
  have:=hf j.toNat J
  rw[fW j0]at this;exact this
theorem pB{a b:El}:cT a b=true↔∀i:Nat,i<8->dX (a i) (b i)=true:=by grind[cT,List.all_eq_true,cN,Int.toNat_natCast]
theorem Mg{s:Sh}{a b:El}{i:Nat}(h:(i:Int)<s.aL.length):fH s a b i=wF (s.aL.getD i vO) (a i) (b i):=by simp_all[Sh,El,fH,wF,vO,Uq]
theorem Im{s:Sh}{a b:El}{i:Nat}(h:¬(i:Int)<s.aL.length):fH s a b i=a i|||b i:=by
 show Uq s a b i=_
 rw[Uq,aR (fun hc=>h hc.1)]
theorem Cc{s:Sh}(h:lW s=true){i:Nat}(hi:(i:Int)<s.aL.length):cR (s.aL.getD i vO)=true:=by grind[TM,Int.toNat_natCast]
section elems
variable{s:Sh}{a b c:El}(ha:cF s a=true)(hb:cF s b=true)(hc:cF s c=true)
include ha hb
theorem Io:cF s (fH s a b)=true:=by grind[p7,R4,Mg,arh,Cc,Im]
theorem arj:cF s (rD a b)=true:=by grind[cF,rD,p7,R4,ari,Cc]
theorem YC:cT a (fH s a b)=true/\cT b (fH s a b)=true:=by grind[p7,pB,Mg,aDg,Cc,Im,H6,Ga]
include hc
theorem aaN(h1:cT a c=true)(h2:cT b c=true):cT (fH s a b) c=true:=by grind[p7,pB,Mg,awe,Cc,Im,YA]
end elems
theorem ark(a b:El):cT (rD a b) a=true/\cT (rD a b) b=true:=by simp_all[El,cT,rD,pB,FU,agz]
theorem awf{a b c:El}(h1:cT c a=true)(h2:cT c b=true):cT c (rD a b)=true:=by simp_all[El,cT,rD,pB,al5]
theorem YD{a b:El}(h1:cT a b=true)(h2:cT b a=true):rC a b:=fun i hi=>Us (pB.1 h1 i hi) (pB.1 h2 i hi)
theorem aaO{s:Sh}{f:Fc->BitVec 64}{i:Nat}(h:lW s=true)(hi:(i:Int)<s.aL.length):iu s f i=f (s.aL.getD i vO):=aS ⟨h,hi⟩
theorem Ut{s:Sh}{f:Fc->BitVec 64}{i:Nat}(hi:¬(i:Int)<s.aL.length):iu s f i=0#64:=aR fun h=>hi h.2
theorem Pu{s:Sh}(h:lW s=true):cF s (iu s eY)=true/\∀a,cF s a=true->cT (iu s eY) a=true:=by grind[R4,Ut,pB,aaO,al6,Cc,p7,zero_sub]
def Mh(r:Rl)(k:Int):Nat:=((List.range 65).filter fun v=>decide (1<=v)&&hasB (yH r v) k).length
theorem adh{r:Rl}(ho:eW r=true){k:Int}(hk:0<=k/\k<pts r):∀m:Nat,hasB (yH r m) k=true->(∀v,m<v->hasB (yH r v) k=false)->Mh r k=m:=fun m hm hno=>by
 have hp:=dr r
 have hlt:=RX ho hm
 have e:((List.range 65).filter fun v=>decide (1<=v)&&hasB (yH r v) k)=(List.range m).map (· +1):=by
  have h1:List.range 65=0::((List.range m).map (· +1)++(List.range (64-m)).map (· +(m+1))):=by
   rw[show 65=(m+(64-m))+1 by omega,Xe,XH,gz,Li]
   simp only[K9,true_and]
   congr 1
   refine ED fun x _=> ?_
   simp only[Function.comp];omega
  rw[h1,yL aF,Hu]
  have h2:((List.range m).map (· +1)).filter (fun v=>decide (1<=v)&&hasB (yH r v) k)=(List.range m).map (· +1):=by
   rw[List.filter_eq_self]
   intro v hv
   rw[fX]at hv
   obtain⟨x,hx,rfl⟩:=hv
   rw[pX]at hx
   rw[LX (show x+1<=m by omega) hm];simp
  have h3:((List.range (64-m)).map (· +(m+1))).filter (fun v=>decide (1<=v)&&hasB (yH r v) k)=[]:=by
   rw[List.filter_eq_nil_iff]
   intro v hv
   rw[fX]at hv
   obtain⟨x,-,rfl⟩:=hv
   rw[hno _ J];simp
  rw[h2,h3,lY]
 rw[Mh,e,gB,Q8]
theorem R5{r:Rl}(ho:eW r=true){k:Int}(hk:0<=k/\k<pts r):∃m:Nat,hasB (yH r m) k=true/\(∀v,m<v->hasB (yH r v) k=false)/\Mh r k=m:=by
 have hp:=dr r
 have h0:hasB (yH r 0) k=true:=(mP _ _).2 J
 have key:∀n:Nat,(∃m,m<=n/\hasB (yH r m) k=true/\∀v,m<v->v<=n->hasB (yH r v) k=false):=fun n=>by
  induction n with
  |zero=>exact⟨0,er _,h0,fun v h1 h2=>J⟩
  |succ n ih=>
   obtain⟨m,h1,h2,h3⟩:=ih
   cases hc:hasB (yH r (n+1)) k with
   |true=>exact⟨n+1,er _,hc,fun v h4 h5=>J⟩
   |false=>
    refine⟨m,J,h2,fun v h4 h5=> ?_⟩
    by_cases he:v=n+1
    .rw[he];exact hc
    exact h3 v h4 J
 obtain⟨m,h1,h2,h3⟩:=key 64
 have hno:∀v,m<v->hasB (yH r v) k=false:=fun v hv=>by
  by_cases hv2:v<=64
  .exact h3 v hv hv2
  .cases hc:hasB (yH r v) k with
   |false=>rfl
   |true=>have:=RX ho hc;omega
 exact⟨m,h2,hno,adh ho hk m h2 hno⟩
theorem al7{r:Rl}(ho:eW r=true){i j:Int}(h:bH r i j=true)(hne:j≠i):Mh r i<Mh r j:=by
 have hb:=jK h
 obtain⟨m,h1,h2,h3⟩:=R5 ho hb.1
 obtain⟨m',h4,h5,h6⟩:=R5 ho hb.2
 rw[h3,h6]
 have h7:=Yp m h1 h hne
 by_cases hle:m'<=m
 .rw[h5 (m+1) J]at h7;cases h7
 omega
theorem adi{r:Rl}(ho:eW r=true){k:Int}(hk:0<=k/\k<pts r):(Mh r k:Int)<=(qx r).1:=by
 obtain⟨m,h1,h2,h3⟩:=R5 ho hk
 obtain⟨t,h4,h5,h6⟩:=De ho 65 0 O (.inl O)
 have h4':Jl r 65 (below (pts r)) 0=(t:Int):=h4
 rw[qx,aS ho,h4',h3]
 by_cases hle:m<=t
 .show(m:Int)<=t;omega
 have:=LX (show t+1<=m by omega) h1
 rw[h5,sJ]at this;cases this
def uZ(f:Fc)(w:BitVec 64):Nat:=if f.kind=3 then((upto 64).filter fun i=>L9 f.rel i&&hasB w i).length else if f.kind=4 then Mh f.rel (eM f.rel w).1 else(gA w).length
theorem filter_lt{A B:Int->Bool}:∀l:List Int,(∀x∈l,A x=true->B x=true)->(∃x∈l,B x=true/\A x=false)->(l.filter A).length<(l.filter B).length
 |[],_,h=>by obtain⟨x,hx,_⟩:=h;simp at hx
 |y::l,h1,h2=>by
  have hle:∀m:List Int,(∀x∈m,A x=true->B x=true)->(m.filter A).length<=(m.filter B).length:=fun m hm=>by
   induction m with
   |nil=>simp
   |cons z m ih=>
    have:=ih fun x hx=>hm x oN
    have hz:=hm z aF
    cases ha:A z with
    |true=>rw[wX ha,wX (hz ha)];simp;omega
    |false=>
     rw[yL (by simp[ha])]
     cases hb:B z with
     |true=>rw[wX hb];simp;omega
     |false=>rw[yL (by simp[hb])];exact this
  have hl:=hle l fun x hx=>h1 x oN
  have hy:=h1 y aF
  obtain⟨x,hx,hbx,hax⟩:=h2
  rcases cQ.1 hx with rfl|hx
  .rw[yL (by simp[hax]),wX hbx];simp;omega
  have ih:=filter_lt l (fun z hz=>h1 z (by simp[hz])) ⟨x,hx,hbx,hax⟩
  cases ha:A y with
  |true=>rw[wX ha,wX (hy ha)];simp;omega
  |false=>
   rw[yL (by simp[ha])]
   cases hb:B y with
   |true=>rw[wX hb];simp;omega
   |false=>rw[yL (by simp[hb])];exact ih
theorem arl{a b:BitVec 64}(h:dX a b=true)(hne:a≠b):∃j:Int,hasB b j=true/\hasB a j=false:=by grind[Us,eK,hasB]
theorem Mi{r:Rl}(h:de r=true){w:BitVec 64}(hw:fP r w=w){o x p y:Int}(h1:bH r o p=true)(h2:bH r x y=true)(h3:hasB w (8*p+y)=true):hasB w (8*o+x)=true:=by grind[jo]
theorem Uu{f:Fc}(h:cR f=true){a b:BitVec 64}(ha:j5 f a=true)(hb:j5 f b=true)(hs:dX a b=true)(hne:a≠b):uZ f a<uZ f b:=by
 obtain⟨j,hj1,hj2⟩:=arl hs hne
 by_cases k3:f.kind=3
 .have hr:de f.rel=true:=by
   rcases uY h with k|k|⟨-,hr⟩|k
   .omega
   .omega
   .exact hr
   omega
  rw[Pt k3]at ha hb
  have ca:=(uB ha).2;have cb:=(uB hb).2
  rw[uZ,uZ,aS k3,aS k3]
  refine filter_lt _ (fun x _ hx=> ?_) ?_
  .rw[cG]at hx⊢;exact⟨hx.1,eK.1 hs x hx.2⟩
  have hsp:=gm hr
  have awg:=hj1
  rw[<-cb]at awg
  obtain⟨o,x,p,y,rfl,h1,h2,-⟩:=(jo hr b j).1 awg
  have b1:=A3 hr h1;have b2:=A3 hr h2
  obtain⟨q,q1,q2,q3,q4⟩:=Yv hr o.toNat o J b1.1.1 b1.1.2
  obtain⟨t,t1,t2,t3,t4⟩:=Yv hr x.toNat x J b2.1.1 b2.1.2
  have nq:=(L8 hr q).1 q2;have nt:=(L8 hr t).1 t2
  refine⟨8*q+t,cN.2 J,?_,?_⟩
  .rw[L9,show(8*q+t)/8=q by omega,show(8*q+t)%8=t by omega,q2,t2,Mi hr cb q4 t4 hj1];rfl
  .cases hc:hasB a (8*q+t)with
   |false=>simp
   |true=>rw[Mi hr ca q3 t3 hc]at hj2;cases hj2
 by_cases k4:f.kind=4
 .obtain⟨i,hi,rfl⟩:=lN h k4 ha
  obtain⟨m,hm,rfl⟩:=lN h k4 hb
  have ht:=JO h k4
  have ho:=(jb ht.l).2.1
  rw[YB h k4 hi hm]at hs
  rw[uZ,uZ,aR k3,aR k3,aS k4,aS k4,uW ho (by rw[ht.n];exact hi),uW ho (by rw[ht.n];exact hm)]
  exact al7 ho hs fun e=>hne (by have e2:m=i:=e;rw[e2])
 rw[uZ,uZ,aR k3,aR k3,aR k4,aR k4]
 exact age (eK.1 hs) hj1 hj2
theorem Pv{k:Int}(h0:0<=k)(h:k<=64):(gA (below k)).length=k.toNat:=by
 have e:gA (below k)=upto k:=zl (rQ _) (wC _) fun x=>by rw[fN,mP,cN];omega
 rw[e,sH]
theorem agC{f:Fc}(h:cR f=true){a:BitVec 64}(ha:j5 f a=true):(uZ f a:Int)<=eu f:=by
 have hn:=(sE h).1
 rcases uY h with k|k|⟨k,hr⟩|k
 .rw[Pr k]at ha
  obtain⟨-,i,hi,rfl⟩:=Cb ha
  rw[uZ,aR J,aR J,eu,aS k,Pv hi.1 J];omega
 .rw[Ps k]at ha
  rw[uZ,aR J,aR J,eu,aR J,aS k]
  have:=Ia (gA a) (gA (below f.names.length)) (Ib a) fun x hx=>(fN _ _).2 (eK.1 ha x ((fN _ _).1 hx))
  rw[Pv J J]at this;omega
 .rw[uZ,aS k,eu,aR J,aR J,aS k,<-adb hr O,aq7,gB]
  have:∀l:List Int,(l.filter fun i=>L9 f.rel i&&hasB a i).length<=(l.filter (L9 f.rel)).length:=fun l=>by
   induction l with
   |nil=>simp
   |cons z l ih=>
    cases hg:L9 f.rel z with
    |true=>
     rw[wX hg]
     cases hz:hasB a z with
     |true=>rw[wX (by simp[hg,hz])];simp;omega
     |false=>rw[yL (by simp[hz])];simp;omega
    |false=>rw[yL (by simp[hg]),yL (by simp[hg])];exact ih
  have:=this (upto 64)
  omega
 obtain⟨i,hi,rfl⟩:=lN h k ha
 have ht:=JO h k
 have ho:=(jb ht.l).2.1
 rw[uZ,aR J,aS k,eu,aR J,aR J,aR J,uW ho (by rw[ht.n];exact hi)]
 exact adi ho (by rw[ht.n];exact hi)
def E3(s:Sh)(e:El)(k:Int):Int:=((upto k).map fun i=>(uZ (s.aL.getD i.toNat vO) (e i.toNat):Int)).sum
def mF(s:Sh)(e:El):Int:=E3 s e s.aL.length
theorem R6{F G:Int->Int}:∀l:List Int,(∀x∈l,F x<=G x)->(l.map F).sum<=(l.map G).sum
 |[],_=>by simp
 |y::l,h=>by
  have:=R6 l fun x hx=>h x oN
  have:=h y aF
  simp;omega
theorem agD{F G:Int->Int}:∀l:List Int,(∀x∈l,F x<=G x)->(∃x∈l,F x<G x)->(l.map F).sum<(l.map G).sum
 |[],_,h=>by obtain⟨x,hx,_⟩:=h;simp at hx
 |y::l,h,h2=>by
  have hle:=R6 l fun x hx=>h x oN
  have hy:=h y aF
  obtain⟨x,hx,Px⟩:=h2
  rcases cQ.1 hx with rfl|hx
  .simp;omega
  have:=agD l (fun z hz=>h z (by simp[hz])) ⟨x,hx,Px⟩
  simp;omega
theorem agE(s:Sh)(e:El):0<=mF s e:=by
 have:=R6 (F:=fun _=>0) (G:=fun i=>(uZ (s.aL.getD i.toNat vO) (e i.toNat):Int)) (upto s.aL.length) fun x _=>by omega
 rw[mF,E3]
 refine BL ?_ this
 have hz:∀l:List Int,(l.map fun _=>(0:Int)).sum=0:=fun l=>by
  induction l with
  |nil=>rfl
  |cons y l ih=>rw[lB,BJ,ih];rfl
 rw[hz];exact nc _
theorem agF{s:Sh}{e:El}(h:cF s e=true):mF s e<=df s:=by
 have hf:=p7 h
 have hs:=mc hf.1
 rw[df,aS hf.1,mF,E3,x8]
 refine R6 _ fun x hx=> ?_
 have:=cN.1 hx
 have h2:=(hf.2 x.toNat J).1 J
 exact agC (Cc hf.1 J) h2
theorem agG{s:Sh}{a b:El}(ha:cF s a=true)(hb:cF s b=true)(hl:cT a b=true)(hne:¬rC b a):mF s a<mF s b:=by
 have fa:=p7 ha;have fb:=p7 hb
 have hs:=mc fa.1
 rw[pB]at hl
 have hex:∃i:Nat,i<8/\b i≠a i:=KX fun hno=>hne fun i hi=>KX fun h=>hno ⟨i,hi,h⟩
 obtain⟨i,hi,hd⟩:=hex
 have hin:(i:Int)<s.aL.length:=KX fun h=>hd (by rw[(fb.2 i hi).2 h,(fa.2 i hi).2 h])
 rw[mF,mF,E3,E3]
 refine agD _ (fun x hx=> ?_) ⟨i,cN.2 J,?_⟩
 .have:=cN.1 hx
  have hx8:x.toNat<8:=J
  have Px:((x.toNat:Nat):Int)<s.aL.length:=J
  by_cases he:a x.toNat=b x.toNat
  .rw[he];exact nc _
  have:=Uu (Cc fa.1 Px) ((fa.2 _ hx8).1 Px) ((fb.2 _ hx8).1 Px) (hl _ hx8) he
  omega
 rw[ef]
 have:=Uu (Cc fa.1 hin) ((fa.2 i hi).1 hin) ((fb.2 i hi).1 hin) (hl i hi) (fun e=>hd e.symm)
 omega
theorem Mj{f:Fc}(h:gZ f.names=false):cR f=false:=by rw[cR,h];rfl
theorem YE{f:Fc}(h:gZ f.names=true)(hk:f.kind=1\/f.kind=2):cR f=decide (pts f.rel=0):=by grind[cR]
theorem aaP{f:Fc}(h:gZ f.names=true)(hk:f.kind=1\/f.kind=2):cR f=decide ((ey f.rel).eq (ey Rl.none)):=by grind[YE,adf]
theorem awh{f:Fc}(h:gZ f.names=true)(hk:f.kind=3):cR f=(decide (f.rel.n=f.names.length)&&de f.rel):=by grind[cR]
theorem awi{f:Fc}(h:gZ f.names=true)(hk:f.kind=4):cR f=(decide (f.rel.n=f.names.length)&&sL f.rel):=by grind[cR]
theorem aoM{f:Fc}(h1:¬f.kind=1)(h2:¬f.kind=2)(h3:¬f.kind=3)(h4:¬f.kind=4):cR f=false:=by grind[cR]
theorem agH{f:Fc}(hk:f.kind=3)(h:¬f.rel.n=f.names.length):cR f=false:=by grind[cR]
theorem agI{f:Fc}(hk:f.kind=4)(h:¬f.rel.n=f.names.length):cR f=false:=by grind[cR]
theorem agJ{f:Fc}(h:gZ f.names=true)(hk:f.kind=3)(hn:f.rel.n=f.names.length):cR f=de f.rel:=by grind[awh]
theorem agK{f:Fc}(h:gZ f.names=true)(hk:f.kind=4)(hn:f.rel.n=f.names.length):cR f=sL f.rel:=by grind[awi]
theorem aoN{f:Fc}(h1:¬f.kind=1)(h2:¬f.kind=2)(h3:¬f.kind=3)(w:BitVec 64):j5 f w=(eM f.rel w).2:=by grind[j5]
theorem arm{f:Fc}(h:cR f=true)(hk:f.kind=3)(w:BitVec 64):j5 f w=decide (fP f.rel w=w):=by grind[Pt,pA,uY]
theorem aav{f:Fc}(h:cR f=true):0<=eu f/\eu f<=64:=by
 have hn:=(sE h).1
 rcases(sE h).2 with k|k|⟨k,k2,k3⟩|⟨k,k2,k3⟩
 .rw[eu,aS k.1];omega
 .rw[eu,aR J,aS k.1];omega
 .rw[eu,aR J,aR J,aS k,<-zq k3]
  have hs:=gm k3
  have hb:= @XR f.rel (pts f.rel) J
  have h1:0<=kx f.rel (pts f.rel)*kx f.rel (pts f.rel):=Hy hb.1 hb.1
  have h2:kx f.rel (pts f.rel)*kx f.rel (pts f.rel)<=8*8:=La J J hb.1 J
  omega
 rw[eu,aR J,aR J,aR J]
 obtain⟨m,h1,-,h3⟩:=De (jb k3).2.1 65 0 O (.inl O)
 have h1':Jl f.rel 65 (below (pts f.rel)) 0=(m:Int):=h1
 rw[qx,aS (jb k3).2.1,h1']
 have hp:=dr f.rel
 rcases h3 with h3|h3
 .subst h3;exact⟨nc _,J⟩
 have:=Kp (jb k3).2.1 m h3
 have:=RW h3
 show 0<=(m:Int)/\(m:Int)<=64
 omega
theorem R7{s:Sh}(h:lW s=true):∀k:Nat,(k:Int)<=s.aL.length->0<=x8 s k/\x8 s k<=64*k
 |0,_=>⟨nc _,nc _⟩
 |k+1,hk=>by
  have ih:=R7 h k J
  have h1:=qH (s:=s) (k:=(k:Int)) J
  have h2:=aav (TM h (k:=(k:Int)) J J)
  have h3:x8 s ((k+1:Nat):Int)=x8 s ((k:Int)+1):=rfl
  rw[h3,<-h1];omega
theorem Rs{s:Sh}(h:lW s=true){k:Int}(k0:0<=k)(hk:k<=s.aL.length):0<=x8 s k/\x8 s k<=512:=by
 have h1:=R7 h k.toNat J
 have h2:=(mc h).1
 rw[fW k0]at h1;omega
theorem Py{s:Sh}(h:lW s=true){k:Int}(hk:k=s.aL.length):x8 s k=df s:=by rw[df,aS h,hk]
theorem Ml{s:Sh}(h:lW s=false):df s=0:=by rw[df,h];rfl
theorem agL{s:Sh}{f:Fc->BitVec 64}{k:Int}(hk:k=s.aL.length):rC (sO (iu s f) dH k) (iu s f):=fun i hi=>by
 unfold sO
 by_cases h:(i:Int)<k
 .rw[aS h]
 rw[aR h,Ut J];rfl
theorem al8{s:Sh}{f:Fc->BitVec 64}(h:lW s=false):rC dH (iu s f):=fun i hi=>by
 rw[iu,aR (by rw[h];simp)];rfl
theorem agM{s:Sh}{f:Fc->BitVec 64}{e:El}{k:Int}(h:lW s=true)(he:e=sO (iu s f) dH k)(k0:0<=k)(k1:k<s.aL.length):A4 e k.toNat (f (s.aL.getD k.toNat vO))=sO (iu s f) dH (k+1):=by grind[Dn,aaO]
theorem agN{a b e:El}{k:Int}(he:e=sO (rD a b) a k)(k0:0<=k):A4 e k.toNat (e k.toNat&&&b k.toNat)=sO (rD a b) a (k+1):=by
 subst he
 exact Dn k0 (by rw[Yz k0];rfl)
theorem al9{s:Sh}{a b:El}{k:Int}(k0:0<=k)(k1:k<s.aL.length)(h4:(s.aL.getD k.toNat vO).kind=4):fH s a b k.toNat=jL (s.aL.getD k.toNat vO).rel (a k.toNat) (b k.toNat):=aS ⟨J,h4⟩
theorem ama{s:Sh}{a b:El}{k:Int}(k0:0<=k)(h:¬(k<s.aL.length/\(s.aL.getD k.toNat vO).kind=4)):fH s a b k.toNat=a k.toNat|||b k.toNat:=aR fun hc=>h ⟨J,hc.2⟩
def aL0(t:Bool):Fc->BitVec 64:=if t=true then are else eY
theorem Cd{f:Fc}(hf:cR f=true)(h2:¬f.kind=2)(h3:¬f.kind=3)(h4:¬f.kind=4):(f.names.length:Int)-1=eu f:=by
 rcases uY hf with k|k|k|k
 .rw[eu,aS k]
 .exact absurd k h2
 .exact absurd k.1 h3
 exact absurd k h4
theorem Ce{f:Fc}(h:f.kind=2):(f.names.length:Int)=eu f:=by rw[eu,aR J,aS h]
theorem za{f:Fc}(h:f.kind=3):kN f.rel=eu f:=by rw[eu,aR J,aR J,aS h]
theorem zc{f:Fc}(h:f.kind=4):(qx f.rel).1=eu f:=by rw[eu,aR J,aR J,aR J]
def Ox(l:List Tx):Bool:=decide (70<l.length)||l.any fun t=>decide (40<t.size)
def Uv(s:Sh):Bool:=decide (12<s.aL.length)||s.aL.any fun f=>Ox f.names
theorem awj{s:Sh}(h:12<s.aL.length):Uv s=true:=by grind[Uv]
theorem aoO{s:Sh}{k:Int}(k0:0<=k)(k1:k<s.aL.length)(h:Ox (s.aL.getD k.toNat vO).names=true):Uv s=true:=by
 rw[Uv,pE,EF]
 exact .inr ⟨_,lz (fG (d:=vO) k0 k1),h⟩
theorem arn{l:List Tx}(h:70<l.length):Ox l=true:=by grind[Ox]
theorem aro{l:List Tx}{k:Int}(k0:0<=k)(k1:k<l.length)(h:40<(l.getD k.toNat pM).size):Ox l=true:=by
 rw[Ox,pE,EF]
 exact .inr ⟨_,lz (fG (d:=pM) k0 k1),gQ h⟩
theorem amb{l:List Tx}{k:Int}(h:¬70<l.length)(hk:¬k<l.length)(hf:∀j:Int,0<=j->j<k->¬40<(l.getD j.toNat pM).size):Ox l=false:=by
 rw[Ox,gO h,Bool.false_or,Xv]
 intro x hx
 obtain⟨i,hi,rfl⟩:=th hx
 have:=hf i J J
 rw[ef,eS,ep hi]at this
 simpa using this
theorem arp{s:Sh}{k:Int}(h:¬12<s.aL.length)(hk:¬k<s.aL.length)(hf:∀j:Int,0<=j->j<k->Ox (s.aL.getD j.toNat vO).names=false):Uv s=false:=by
 rw[Uv,gO h,Bool.false_or,Xv]
 intro x hx
 obtain⟨i,hi,rfl⟩:=th hx
 have:=hf i J J
 rw[ef,eS,ep hi]at this
 simpa using this
end Go.Proofs.YtlhjdflgjbkpmaaGreatDoor.M
namespace Go.Proofs.YtlhjdflgjbkpmaaGreatDoor.E
section
open Go Go.RowKit Go.Proofs.YtlhjdflgjbkpmaaGreatDoor.M
theorem adj{s:kW}{a b e:El}{k:Int}(he:e=sO (fH s.sh a b) a k)(k0:0<=k)(k1:k<s.aL.length)(h4:(s.aL.getD k.toNat bI).kind=4):A4 e k.toNat (jL (s.aL.getD k.toNat bI).rel (e k.toNat) (b k.toNat))=sO (fH s.sh a b) a (k+1):=by
 subst he
 exact Dn k0 (by rw[Yz k0,al9 k0 (by rw[rV];exact k1) (by rw[iK];exact h4),iK];rfl)
theorem Pz{s:kW}{a b e:El}{k:Int}(he:e=sO (fH s.sh a b) a k)(k0:0<=k)(h:¬(k<s.aL.length/\(s.aL.getD k.toNat bI).kind=4)):A4 e k.toNat (e k.toNat|||b k.toNat)=sO (fH s.sh a b) a (k+1):=by
 subst he
 exact Dn k0 (by rw[Yz k0,ama k0 (by rw[rV,iK];exact h)])
def zv(s:kW):List Value:=[B s.tuple,s.fv]
theorem Mm(s:kW):(zv s).length=2:=rfl
def DE:kW:=⟨false,.slice none 0 0,[]⟩
structure PA(K:Vu)(l:List kW):Prop where
 each:∀s∈l,ld K s
theorem PA.at{K:Vu}{l:List kW}(h:PA K l){k:Int}(h0:0<=k)(h1:k<l.length):ld K (l.getD k.toNat DE):=h.each _ (lz (fG (d:=DE) h0 h1))
theorem PA.mono{K K':Vu}{l:List kW}(h:PA K l)(hl:Le K K'):PA K' l:=⟨fun s hs=>(h.each s hs).mono hl⟩
structure sU(K:Vu)(l:List qk):Prop where
 each:∀f∈l,vR K f
theorem sU.mono{K K':Vu}{l:List qk}(h:sU K l)(hl:Le K K'):sU K' l:=⟨fun s hs=>(h.each s hs).mono hl⟩
theorem sU.nil(K:Vu):sU K []:=⟨fun f hf=>by simp at hf⟩
theorem sU.snoc{K:Vu}{l:List qk}{f:qk}(h:sU K l)(hf:vR K f):sU K (l++[f]):=⟨fun x hx=>by
 rcases eI.1 hx with hx|hx
 .exact h.each x hx
 simp at hx;subst hx;exact hf⟩
theorem sU.app{K:Vu}{l m:List qk}(h:sU K l)(hf:sU K m):sU K (l++m):=⟨fun x hx=>by
 rcases eI.1 hx with hx|hx
 .exact h.each x hx
 exact hf.each x hx⟩
theorem sU.at{K:Vu}{l:List qk}(h:sU K l){k:Int}(h0:0<=k)(h1:k<l.length):vR K (l.getD k.toNat bI):=h.each _ (lz (fG (d:=bI) h0 h1))
def AB(l:List kW):List Fc:=l.flatMap fun s=>s.sh.aL
theorem adk{l:List kW}{k:Int}(h0:0<=k)(h1:k<l.length):AB (l.take (k+1).toNat)=AB (l.take k.toNat)++(l.getD k.toNat DE).sh.aL:=by
 have h2:k.toNat<l.length:=J
 rw[show(k+1).toNat=k.toNat+1 by omega,yO,AB,Ew,eS,ep h2]
 simp[AB]
theorem agO{l:List kW}{k:Int}(h:¬k<l.length):AB (l.take k.toNat)=AB l:=by grind[List.take_of_length_le]
theorem Ip{l:List qk}{k:Int}(h0:0<=k)(h1:k<l.length):(l.take (k+1).toNat).map qk.fc=(l.take k.toNat).map qk.fc++[(l.getD k.toNat bI).fc]:=by
 have h2:k.toNat<l.length:=J
 rw[show(k+1).toNat=k.toNat+1 by omega,yO,gz,eS,ep h2]
 simp
theorem amc{b:Bool}{v:Value}(h:v.oneCell'=true):∀u∈(#[B b,v]:Array Value),u.oneCell'=true:=fun u hu=>by
 simp only[K7,cQ,List.not_mem_nil,BO]at hu
 rcases hu with rfl|rfl
 .rfl
 exact h
theorem amd{Z L:List a7}{i:Nat}{x:a7}(h:L[i]?=some x):(Z++L)[Z.length+i]?=some x:=by grind
theorem Mn{K:Vu}{f:qk}(h:vR K f):∀u∈[f].flatMap rU,u.oneCell'=true:=by simpa using Ur h
theorem adl{K:Vu}{f:qk}{v:Value}(h:vR K f)(hv:v.oneCell'=true):∀u∈rU {f with nv:=v},u.oneCell'=true:=by
 intro u hu
 rw[rU,cQ,cQ]at hu
 rcases hu with rfl|rfl|hu
 .rfl
 .exact hv
 exact LN f.rel u (by rw[ja];simpa using hu)
section runs
variable{P:Program}{σ:Env}{w:World}{dst:Option Tmp}{ty t u e:TypeId}{pos:String}{bK:Array Edge}{g:Option (Nat×Bool)}{x y:Operand}{b:Nat}{fr:Nat×Nat}
theorem YF{f f0:qk}(h:∀u∈rU f,u.oneCell'=true)(hi:(P.info? t).map (·.size)=some 67)(hx:ev σ x= .pointer (some ⟨b,0,none⟩))(hy:ev σ y= .agg (ur f))(hg:w.heap[b]?=some (.cells (ur f0) e (0,0))):
 (execOp (ev σ) ⟨dst,.store t x y,ty,pos,bK,g⟩).run P w= .ok .skip (w.setRow b (ur f)):=by grind[dF,fI]
theorem YG{f:qk}{v:Value}(hi:(P.info? t).map (·.size)=some 1)(hx:ev σ x= .pointer (some ⟨b,0+1,none⟩))(hy:ev σ y=v)(hv:v.cells=#[v])(h1:v.oneCell'=true)(hg:w.heap[b]?=some (.cells (ur f) e (0,0))):
  (execOp (ev σ) ⟨dst,.store t x y,ty,pos,bK,g⟩).run P w= .ok .skip (w.setRow b (ur {f with nv:=v})):=by
 have h:=bQ (P:=P) (dst:=dst) (ty:=ty) (pos:=pos) (bK:=bK) (g:=g) hi hx hy hv h1 hg (by simp[fI])
 rw[h];congr 2
theorem agP{K:Vu}{s:kW}(h:ld K s):∀u∈q9 s,u.oneCell'=true:=by
 intro u hu
 have h1:=ou h.aL
 simp at hu
 rcases hu with rfl|rfl
 .rfl
 exact h1.1
theorem Iq{K:Vu}{s:kW}{c:Array Value}(h:ld K s)(hi:(P.info? t).map (·.size)=some 2)(hx:ev σ x= .pointer (some ⟨b,0,none⟩))(hy:ev σ y= .agg (q9 s))(hg:w.heap[b]?=some (.cells c e (0,0)))(hc:c.size=2):
 (execOp (ev σ) ⟨dst,.store t x y,ty,pos,bK,g⟩).run P w= .ok .skip (w.setRow b (q9 s)):=by grind[dF,agP]
theorem zw{len:Nat}{ps:List (Nat×Operand)}{l:List qk}{ie:TypeInfo}{z:Value}
  (hu:P.underlying t=some (.slice e)) (hie:P.info? e=some ie) (hz:ie.zero=some z) (hsz:ie.size=67) (hl:l.length=len) (hsmall:¬len*67>2^24) (hpos:¬len*67=0)
  (h:ps.map (fun p=>(p.1,ev σ p.2))=((l.map fun f=>Value.agg (ur f)).zipIdx.map fun p=>(p.2,p.1))):
  (execOp (ev σ) ⟨dst,.buildSlice t len ps.toArray,ty,pos,bK,g⟩).run P w= .ok (.value (.slice (some ⟨w.heap.size,0,none⟩) len len)) (w.alloc (.cells (l.flatMap rU).toArray e)):=by
 have h2:=cA (P:=P) (σ:=σ) (w:=w) (dst:=dst) (ty:=ty) (pos:=pos) (bK:=bK) (g:=g) (vs:=l.map fun f=>Value.agg (ur f)) (sz:=67) hu hie hz hsz (by rw[gB];exact hl) hsmall hpos h (by
  rw[iN];intro v hv
  rw[fX]at hv
  obtain⟨r,_,rfl⟩:=hv
  simp[Value.cells,fI])
 have h3:(l.map fun f=>Value.agg (ur f)).flatMap (·.cells.toList)=l.flatMap rU:=by
  rw[Xz];rfl
 rw[h3]at h2;exact h2
theorem Mo{len:Nat}{ps:List (Nat×Operand)}{l:List kW}{ie:TypeInfo}{z:Value}
  (hu:P.underlying t=some (.slice e)) (hie:P.info? e=some ie) (hz:ie.zero=some z) (hsz:ie.size=2) (hl:l.length=len) (hsmall:¬len*2>2^24) (hpos:¬len*2=0)
  (h:ps.map (fun p=>(p.1,ev σ p.2))=((l.map fun f=>Value.agg (q9 f)).zipIdx.map fun p=>(p.2,p.1))):
  (execOp (ev σ) ⟨dst,.buildSlice t len ps.toArray,ty,pos,bK,g⟩).run P w= .ok (.value (.slice (some ⟨w.heap.size,0,none⟩) len len)) (w.alloc (.cells (l.flatMap zv).toArray e)):=by
 have h2:=cA (P:=P) (σ:=σ) (w:=w) (dst:=dst) (ty:=ty) (pos:=pos) (bK:=bK) (g:=g) (vs:=l.map fun f=>Value.agg (q9 f)) (sz:=2) hu hie hz hsz (by rw[gB];exact hl) hsmall hpos h (by
  rw[iN];intro v hv
  rw[fX]at hv
  obtain⟨r,_,rfl⟩:=hv
  simp[Value.cells])
 have h3:(l.map fun f=>Value.agg (q9 f)).flatMap (·.cells.toList)=l.flatMap zv:=by
  rw[Xz];rfl
 rw[h3]at h2;exact h2
theorem Hp.oQ{w0 w:World}{L:List a7}{i b:Nat}{α:Type}{cl:α->List Value}{sz:Nat}{l:List α}{e:TypeId}(hsz:∀a,(cl a).length=sz)(h:Hp w0 w L)(hi:L[i]?=some (.blk b (.cells (l.flatMap cl).toArray e (0,0))))(hs:l.length<=maxLen):
  Sl w (.slice (some ⟨b,0,none⟩) l.length l.length) sz l.length (l.flatMap cl):=by
 have h2:=h.dV (n:=l.length) (sz:=sz) hi (by rw[Aq,fq hsz]) hs
 exact h2
def aDj(v:Value)(sz i j:Nat):Value:=
 match v with
 | .slice (some a) _ c=> .slice (some ⟨a.block,a.off+i*sz,none⟩) (j-i) (c-i)
 |v=>v
theorem Sl.part{v:Value}{sz n:Nat}{cells:List Value}(h:Sl w v sz n cells){i j:Nat}(hij:i<j)(hj:j<=n):Sl w (aDj v sz i j) sz (j-i) ((cells.drop (i*sz)).take ((j-i)*sz)):=by
 obtain⟨a,cap,hv,hnc,ha⟩:=h.shape
 have ha':=ha J
 subst ha'
 rw[hv]at ha⊢
 have hb1:sb v=sb (.slice (some ⟨sb v,so v,none⟩) n cap):=rfl
 refine⟨⟨_,cap-i,rfl,J,fun _=>rfl⟩,?_,fun k c hc=> ?_,by have:=h.small;omega⟩
 .have h1:i*sz+(j-i)*sz<=n*sz:=by
   rw[<-kT];exact ry _ J
  rw[eP,xS,h.len];omega
 rw[uF]at hc
 split at hc
 .rw[BD]at hc
  have:=h.cell _ _ hc
  show w.cell? ⟨sb v,so v+i*sz+k,none⟩=some c
  rw[yQ];exact this
 .cases hc
end runs
theorem Hp.awk{w0 w:World}{Z L:List a7}(h:Hp w0 w (Z++L)):Hp w0 w (L++Z):=h.perm xR
theorem Uw{s:Sh}{a b:El}(hs:s.aL.length<=8)(h:rC a b):mF s a=mF s b:=by
 rw[mF,mF,E3,E3]
 congr 1
 refine ED fun x hx=> ?_
 have:=cN.1 hx
 rw[h x.toNat J]
def aDk:List Tx:=[⟨#[97]⟩,⟨#[98]⟩,⟨#[99]⟩]
def aDl:List Tx:=[⟨#[120]⟩,⟨#[121]⟩]
def aL1:Sh:=⟨true,[⟨1,aDk,Rl.none⟩,⟨2,aDl,Rl.none⟩]⟩
theorem aDm{P:Program}{n:Nat}{k:K}{xs:List (Nat×K)}{r:K}{σ:Env}{w:World}{x y:Code}(ws:List Nat)(R:K)(h:CW P n x (fun s w=>Fr ws σ s/\R s w) xs r σ w)(h':∀s w,Fr ws σ s->R s w->CW P n y k xs r s w):CW P n (.seq x y) k xs r σ w:=by grind[afz]
section runs
variable{P:Program}{σ:Env}{w:World}{dst:Option Tmp}{ty t u e:TypeId}{pos:String}{bK:Array Edge}{g:Option (Nat×Bool)}{x y:Operand}{b:Nat}{fr:Nat×Nat}
theorem iB{d:TypeDesc}{o:Nat}{cs:Array Value}{sub:List Value}(hu:P.underlying t=some d)(hd:d.isRow=true)(hi:(P.info? t).map (·.size)=some sub.length)(hx:ev σ x= .pointer (some ⟨b,o,none⟩))
  (hg:w.heap[b]?=some (.cells cs e fr)) (hc:(cs.toList.drop o).take sub.length=sub):(execOp (ev σ) ⟨dst,.load t x,ty,pos,bK,g⟩).run P w= .ok (.value (.agg sub.toArray)) w:=by
 refine cM hu hd hi hx fun j c hj=> ?_
 rw[xf w _ _ _ _ _ hg]
 have hl:=(m8.1 hj).1
 rw[<-hc,uF,aS hl,BD]at hj
 simpa using hj
theorem PB{o:Nat}{c:Array Value}{sub c':List Value}(hi:(P.info? t).map (·.size)=some sub.length)(hx:ev σ x= .pointer (some ⟨b,o,none⟩))(hy:ev σ y= .agg sub.toArray)(h1:∀u∈sub,u.oneCell'=true)
  (hg:w.heap[b]?=some (.cells c e (0,0))) (ho:o+sub.length<=c.size) (hc:c.toList.take o++sub++c.toList.drop (o+sub.length)=c'):
  (execOp (ev σ) ⟨dst,.store t x y,ty,pos,bK,g⟩).run P w= .ok .skip (w.setRow b c'.toArray):=by
 have hs:=zi (P:=P) (off:=o) hg sub ho h1
 have hz:(sizeOf t).run P w= .ok sub.length w:=by
  cases hq:P.info? t with
  |none=>simp[hq]at hi
  |some i=>simp[hq]at hi;simp[sizeOf,typeInfo,hq,hi]
 rw[hc]at hs
 simp[execOp,hx,hy,Instr.storeAt,Instr.sureAddr,storeVar,Value.cells,hz,hs]
variable{α:Type}{cl:α->List Value}{sz:Nat}
theorem n7{len:Nat}{ps:List (Nat×Operand)}{l:List α}{ie:TypeInfo}{z:Value}(kD:∀a,(cl a).length=sz)
  (hu:P.underlying t=some (.slice e)) (hie:P.info? e=some ie) (hz:ie.zero=some z) (hsz:ie.size=sz) (hl:l.length=len) (hsmall:¬len*sz>2^24) (hpos:¬len*sz=0)
  (h:ps.map (fun p=>(p.1,ev σ p.2))=((l.map fun f=>Value.agg (cl f).toArray).zipIdx.map fun p=>(p.2,p.1))):
  (execOp (ev σ) ⟨dst,.buildSlice t len ps.toArray,ty,pos,bK,g⟩).run P w= .ok (.value (.slice (some ⟨w.heap.size,0,none⟩) len len)) (w.alloc (.cells (l.flatMap cl).toArray e)):=by
 have h2:=cA (P:=P) (σ:=σ) (w:=w) (dst:=dst) (ty:=ty) (pos:=pos) (bK:=bK) (g:=g) (vs:=l.map fun f=>Value.agg (cl f).toArray) (sz:=sz) hu hie hz hsz (by rw[gB];exact hl) hsmall hpos h (by
  rw[iN];intro v hv
  rw[fX]at hv
  obtain⟨r,_,rfl⟩:=hv
  simp[Value.cells,kD])
 have h3:(l.map fun f=>Value.agg (cl f).toArray).flatMap (·.cells.toList)=l.flatMap cl:=by
  rw[Xz]
  show(l.flatMap fun f=>(cl f).toArray.toList)=_
  simp
 rw[h3]at h2;exact h2
theorem cf{w1:World}{v:Value}{n1 n2:Nat}{cells:List Value}{d:TypeDesc}{o:Nat}(_hS:Sl w1 v n1 n2 cells)(hu:P.underlying t=some d)(hd:d.isRow=false)(hx:ev σ x= .pointer (some ⟨b,o,none⟩))(hc:w.cell? ⟨b,o,none⟩=some v):
 (execOp (ev σ) ⟨dst,.load t x,ty,pos,bK,g⟩).run P w= .ok (.value v) w:=aC hu hd hx hc
theorem agQ{a cs:List Value}{o:Nat}(h:(a.drop o).take cs.length=cs):∀(j:Nat) (c:Value),cs[j]?=some c->a[o+j]?=some c:=by grind
end runs
structure awl(P:Program)(d:Nat)(xs ys:Array Value)(f:Field)(b:Bool):Prop where
 nm:f.name≠ "_"
 run:∃u v,(∀w,(part f.type xs f.offset).run P w= .ok u w)/\(∀w,(part f.type ys f.offset).run P w= .ok v w)/\∀w,(Op.equalIn d f.type u v).run P w= .ok b w
inductive PC(P:Program)(d:Nat)(xs ys:Array Value):List Field->List Bool->Prop
 |nil:PC P d xs ys [] []
 |cons {f:Field} {fs:List Field} {b:Bool} {bs:List Bool} (h:awl P d xs ys f b) (hs:PC P d xs ys fs bs):PC P d xs ys (f::fs) (b::bs)
theorem PC.eq{P:Program}{d:Nat}{xs ys:Array Value}{fs:List Field}{bs:List Bool}(h:PC P d xs ys fs bs)(w:World):(Op.eqFields d xs ys fs).run P w= .ok (bs.all id) w:=by
 induction h with
 |nil=>rfl
 |cons h _ ih=>
  obtain⟨u,v,h1,h2,h3⟩:=h.run
  rename_i b bs _
  simp only[Op.eqFields,h.nm,ne_eq,Xt,uL,rK,h1,h2,h3,uG]
  cases b with
  |true=>simpa using ih
  |false=>simp
structure EqT(P:Program)(t:TypeId)(xs ys:Array Value)(c:Bool):Prop where
 eg:P.eqGuardType P.depth t=false
 eq:∀w,(Op.equalIn 10000 t (.agg xs) (.agg ys)).run P w= .ok c w
theorem EqT.conv{P:Program}{t:TypeId}{xs ys:Array Value}{c c':Bool}(h:EqT P t xs ys c)(e:c=c'):EqT P t xs ys c':=e▸h
theorem eqT{P:Program}{t:TypeId}{xs ys:Array Value}{fs:Array Field}{bs:List Bool}(hu:P.underlying t=some (.struct fs))(st:P.stoodInHeld t=false)(eg:P.eqGuardType P.depth t=false)(h:PC P 9999 xs ys fs.toList bs):EqT P t xs ys (bs.all id):=by
 have hf:P.fieldsOf t=fs:=by unfold Program.fieldsOf;rw[hu]
 refine⟨eg,fun w=> ?_⟩
 rw[Xn w 9999 t _ _ (by rw[hf];exact hu) st,hf]
 exact h.eq w
section
variable{P:Program}{d:Nat}{xs ys:Array Value}{f:Field}
theorem art{k:IntKind}{a b:Int}(hn:f.name≠ "_")(hu:P.underlying f.type=some (.int k))(ha:∀w,(isAgg f.type).run P w= .ok false w)(hx:xs[f.offset]?=some (.int k a))(hy:ys[f.offset]?=some (.int k b)):awl P (d+1) xs ys f (a==b):=
 ⟨hn,.int k a,.int k b,fun w=>by simp[part,ha,hx],fun w=>by simp[part,ha,hy],fun w=>K8 w d _ k k _ _ hu⟩
end
section
variable{P:Program}{σ:Env}{w:World}{dst:Option Tmp}{ty t u:TypeId}{pos:String}{bK:Array Edge}{g:Option (Nat×Bool)}{x y:Operand}{xs ys:Array Value}{c:Bool}
theorem agR(T:EqT P t xs ys c)(hx:ev σ x= .agg xs)(hy:ev σ y= .agg ys):(execOp (ev σ) ⟨dst,.binOp .neq t x y u,ty,pos,bK,g⟩).run P w= .ok (.value (.bool (!c))) w:=by
 have h:=run_neq_struct (P:=P) w t xs ys
 rw[T.eq]at h
 simp only[execOp,hx,hy,rK,Rf w .neq t x y _ _ T.eg,uG]
 simp[h]
end
theorem E4{P:Program}{n:Nat}{k:K}{xs:List (Nat×K)}{r:K}{σ:Env}{w0 w:World}{x y:Code}{L:List a7}{G:Type}(_hH:Hp w0 w L)(ws:List Nat)(up:List a7->G->List a7)(Q:G->Env->Prop)
 (h:CW P n x (fun s w'=>Fr ws σ s/\∃g,Hp w0 w' (up L g)/\Q g s) xs r σ w) (h':∀g s w',Fr ws σ s->Hp w0 w' (up L g)->Q g s->CW P n y k xs r s w'):CW P n (.seq x y) k xs r σ w:=by grind[afz]
theorem Le.Jo{K:Vu}{Z Y:List a7}:Le (Kz K Z) (Kz K (Y++Z)):=by grind[Le.zz]
def aL3(q:Value->World->Prop)(e:Ending)(w:World):Prop:=jj q e w
section calls
variable{P:Program}{n:Nat}{ops:Array Oper}{k:K}{rest:List Oper}{σ:Env}{w0 w:World}{L:List a7}{op:Op}{ty:TypeId}{pos:String}{bK:Array Edge}{d:Nat}{q:Value->World->Prop}
theorem bY{f:FuncId}{args:Array Value}(hd:Nat.blt d n=true)(hc:Calls P f args w (jj q))
  (hr:(execOp (ev σ) ⟨some d,op,ty,pos,bK,none⟩).run P w= .ok (.enter f args) w)
  (hk:∀v w',q v w'->RL P n ops k rest (lG σ d v) w'):RL P n ops k (⟨some d,op,ty,pos,bK,none⟩::rest) σ w:=
 HS hd hr hc hk
variable{l:List Oper}{i fuel:Nat}{listed:Array Bool}{g:Option (Nat×Bool)}{L':List a7}
theorem xu{f:FuncId}{args:Array Value}(hi:l[i]?=some ⟨some d,op,ty,pos,bK,g⟩)(hg:∀a,Is n σ a->Region.wanted ⟨some d,op,ty,pos,bK,g⟩ (yielded l.toArray a.tmps)=true)(hd:Nat.blt d n=true)
 (hc:Calls P f args w (jj q)) (hr:(execOp (ev σ) ⟨some d,op,ty,pos,bK,g⟩).run P w= .ok (.enter f args) w)
 (hs:∀v w',q v w'->Hp w0 w' L)
 (h:∀v w',q v w'->AN P n l (fun w=>Hp w0 w L) k fuel (listed.setIfInBounds i true) (lG σ d v) w'):AO P n l (fun w=>Hp w0 w L) k fuel listed σ w i:=by grind[RO]
end calls
section
variable{P:Program}{fn:Func}{w0 w:World}{L:List a7}{i j p p2 t:Nat}{q:Value->World->Prop}{d d2:TypeDesc}{c c2:Array Value}{ty ty2 e e2:TypeId}{b b2:Nat}{fr PD:Nat×Nat}{σ:Env}{v:Value}
theorem PE(h:fn.results=#[.cell p ty,.tmp t])(hp:σ p= .pointer (some ⟨b,0,none⟩))(ht:σ t=v)(hH:Hp w0 w L)
  (hi:L[i]?=some (.blk b (.cells c e fr))) (hu:P.underlying ty=some d) (hd:d.isRow=true) (hz:(P.info? ty).map (·.size)=some c.size) (hq:q (.tuple #[.agg c,v]) w):Out P fn q σ w:=
 fun n a ha=>⟨_,by
  have h1:a.tmps[p]?.getD undef= .pointer (some ⟨b,0,none⟩):=by have:=ha.get p;rw[hp]at this;simpa using this
  have h2:a.tmps[t]?.getD undef=v:=by have:=ha.get t;rw[ht]at this;simpa using this
  simp[results,h,h1,h2,asAddr,run_loadVar_row (P:=P) w b e ty c fr d (hH.blk hi) hu (by cases d<;>simp_all) hz],hq⟩
end
end
end Go.Proofs.YtlhjdflgjbkpmaaGreatDoor.E
namespace Go.Proofs.YtlhjdflgjbkpmaaGreatDoor.M
section
open Go
structure vS where
 name:Tx
 kind:Int
 aX:Int
deriving DecidableEq
structure Wd where
 text:Tx
 place:Int
structure Flt where
 cls:Int
 place:Int
deriving DecidableEq
def awm:Flt:=⟨0,0⟩
def wd0:Wd:=⟨pM,0⟩
def gL:vS:=⟨pM,0,0⟩
def awn(b f:Flt):Flt:=if f.cls≠0/\(b.cls=0\/f.cls<b.cls\/(f.cls=b.cls/\f.place<b.place))then f else b
def aBY(l:List Flt)(k:Int):Flt:=(l.take k.toNat).foldl awn awm
def aDn(l:List Wd):List Tx:=l.map Wd.text
end
end Go.Proofs.YtlhjdflgjbkpmaaGreatDoor.M
namespace Go.Proofs.YtlhjdflgjbkpmaaGreatDoor.E
section
open Go Go.RowKit Go.Proofs.YtlhjdflgjbkpmaaGreatDoor.M
structure DF where
 name:Tx
 zx:kW
def me:DF:=⟨pM,DE⟩
def Mp(l:DF):List Value:=[S l.name,B l.zx.tuple,l.zx.fv]
theorem qI(l:DF):(Mp l).length=3:=rfl
def TO(v:vS):List Value:=[S v.name,I v.kind,I v.aX]
theorem ya(v:vS):(TO v).length=3:=rfl
def wdL(x:Wd):List Value:=[S x.text,I x.place]
def aL4(f:Flt):List Value:=[I f.cls,I f.place]
structure kE where
 lv:Value
 au:List DF
 vv:Value
 vars:List vS
abbrev Ir(s:kE):Array Value:=#[s.lv,s.vv]
structure E5(K:Vu)(s:kE):Prop where
 au:pN K s.lv 3 s.au.length (s.au.flatMap Mp)
 vars:pN K s.vv 3 s.vars.length (s.vars.flatMap TO)
 each:∀l∈s.au,ld K l.zx
theorem E5.mono{K K':Vu}{s:kE}(h:E5 K s)(hl:Le K K'):E5 K' s:=⟨h.au.mono hl,h.vars.mono hl,fun l hm=>(h.each l hm).mono hl⟩
theorem E5.at{K:Vu}{s:kE}(h:E5 K s){k:Int}(h0:0<=k)(h1:k<s.au.length):ld K (s.au.getD k.toNat me).zx:=h.each _ (lz (fG (d:=me) h0 h1))
theorem Ux{K:Vu}{l:DF}(h:ld K l.zx):∀u∈(Mp l).toArray,u.oneCell'=true:=by
 intro u hu
 have h1:=ou h.aL
 simp[Mp]at hu
 rcases hu with rfl|rfl|rfl
 .rfl
 .rfl
 exact h1.1
section
variable{P:Program}{σ:Env}{w:World}{dst:Option Tmp}{ty t e:TypeId}{pos:String}{bK:Array Edge}{g:Option (Nat×Bool)}{x:Operand}{b:Nat}{fr:Nat×Nat}
end
theorem Gc{α:Type}{l:List α}{d:α}{P:α->Bool}{k:Int}(h0:0<=k)(h1:k<l.length)(h:P (l.getD k.toNat d)=true):l.any P=true:=by grind
theorem R8{α:Type}{l:List α}{d:α}{P:α->Bool}{k:Int}(hk:¬k<l.length)(h:∀j:Int,0<=j->j<k->P (l.getD j.toNat d)=false):l.any P=false:=by grind[List.any_eq_false,List.getElem_of_mem,Int.toNat_natCast,List.getElem?_eq_getElem]
def Uy(l:DF):Bool:=Uv l.zx.sh||decide (40<l.name.size)
def arv(v:vS):Bool:=decide (40<v.name.size)
def u3(s:kE):Bool:=decide (20<s.au.length\/80<s.vars.length)||s.au.any Uy||s.vars.any arv
def aaQ(s:kE)(t:Tx):Int:=sM (fun i=>decide ((s.au.getD i.toNat me).name=t)) s.au.length
def aBZ(s:kE)(t:Tx):Int:=sM (fun i=>decide ((s.vars.getD i.toNat gL).name=t)) s.vars.length
def aJf(s:kE)(l:List Wd):List kW:=l.filterMap fun x=>if 0<=aaQ s x.text then some (s.au.getD (aaQ s x.text).toNat me).zx else none
inductive eZ where
 |mk (kind place:Int) (text:Tx) (nv:Value) (names:List Wd) (kv:Value) (kids:List eZ)
def eZ.kind:eZ->Int
 | .mk k _ _ _ _ _ _=>k
def eZ.place:eZ->Int
 | .mk _ p _ _ _ _ _=>p
def eZ.text:eZ->Tx
 | .mk _ _ t _ _ _ _=>t
def eZ.nv:eZ->Value
 | .mk _ _ _ v _ _ _=>v
def eZ.names:eZ->List Wd
 | .mk _ _ _ _ l _ _=>l
def eZ.kv:eZ->Value
 | .mk _ _ _ _ _ v _=>v
def eZ.kids:eZ->List eZ
 | .mk _ _ _ _ _ _ k=>k
def agS(n:eZ):List Value:=[I n.kind,I n.place,S n.text,n.nv,n.kv]
inductive qJ(K:Vu):eZ->Prop
 |mk {kind place:Int} {text:Tx} {nv:Value} {names:List Wd} {kv:Value} {kids:List eZ} (hn:pN K nv 2 names.length (names.flatMap wdL)) (hk:pN K kv 5 kids.length (kids.flatMap agS)) (each:∀x∈kids,qJ K x):qJ K (.mk kind place text nv names kv kids)
abbrev Pw:=Wd×Wd
def pwL(p:Pw):List Value:=[S p.1.text,I p.1.place,S p.2.text,I p.2.place]
structure amf where
 op:Int
 place:Int
 name:Wd
 nv:Value
 names:List Wd
 pv:Value
 pairs:List Pw
 pat:Int
 left:eZ
 right:eZ
def aL6(c:amf):List Value:=[I c.op,I c.place,S c.name.text,I c.name.place,c.nv,c.pv,I c.pat]++agS c.left++agS c.right
structure arw(K:Vu)(c:amf):Prop where
 names:pN K c.nv 2 c.names.length (c.names.flatMap wdL)
 pairs:pN K c.pv 4 c.pairs.length (c.pairs.flatMap pwL)
 left:qJ K c.left
 right:qJ K c.right
theorem Gd(l:DF):∀(j:Nat) (c:Value),(zv l.zx)[j]?=some c->(Mp l)[1+j]?=some c:=by grind[DF,zv,Mp]
def pw0:Pw:=(wd0,wd0)
def Cf(s:kE):List Value:=[s.lv,s.vv]
def aL7:kE:=⟨.slice none 0 0,[],.slice none 0 0,[]⟩
theorem Ge{K:Vu}{v:Value}{sz n:Nat}{c:List Value}(h:pN K v sz n c):v.oneCell'=true/\v.cells=#[v]:=ou h
def Mq:eZ:= .mk 0 0 pM (.slice none 0 0) [] (.slice none 0 0) []
theorem qJ.each{K:Vu}{n:eZ}(h:qJ K n):∀x∈n.kids,qJ K x:=by cases h;assumption
theorem qJ.at{K:Vu}{n:eZ}(h:qJ K n){k:Int}(h0:0<=k)(h1:k<n.kids.length):qJ K (n.kids.getD k.toNat Mq):=h.each _ (lz (fG (d:=Mq) h0 h1))
theorem qJ.mono{K K':Vu}(hl:Le K K'){n:eZ}(h:qJ K n):qJ K' n:=by
 induction h with
 |mk hn hk _ ih=>exact .mk (hn.mono hl) (hk.mono hl) ih
def aL8:amf:=⟨0,0,wd0,.slice none 0 0,[],.slice none 0 0,[],0,Mq,Mq⟩
theorem arw.mono{K K':Vu}{c:amf}(h:arw K c)(hl:Le K K'):arw K' c:=⟨h.names.mono hl,h.pairs.mono hl,qJ.mono hl h.left,qJ.mono hl h.right⟩
structure xw(K:Vu)(l:List eZ):Prop where
 each:∀x∈l,qJ K x
theorem xw.mono{K K':Vu}{l:List eZ}(h:xw K l)(hl:Le K K'):xw K' l:=⟨fun x hx=>qJ.mono hl (h.each x hx)⟩
theorem xw.at{K:Vu}{l:List eZ}(h:xw K l){k:Int}(h0:0<=k)(h1:k<l.length):qJ K (l.getD k.toNat Mq):=h.each _ (lz (fG (d:=Mq) h0 h1))
def agT(l:List Wd):Bool:=l.all fun x=>iG x.text
abbrev byL(s:Tx):List Value:=Go.Lib.strCells s
theorem p8(a b:Tx):(a++b).size=a.size+b.size:=ByteArray.size_append
def tc(c:UInt8):Tx:=⟨#[c]⟩
section
variable{P:Program}{w0 w:World}{L:List a7}
variable{n:Nat}{ops:Array Oper}{k:K}{rest l:List Oper}{σ:Env}{op:Op}{ty:TypeId}{pos:String}{bK:Array Edge}{d:Nat}{x y:Operand}{dst:Option Tmp}{g:Option (Nat×Bool)}
variable{fuel i:Nat}{listed:Array Bool}{L':List a7}
end
inductive Nd where
 |mk (kind place:Int) (text:Tx) (names:List Wd) (kids:List Nd)
def Nd.kind:Nd->Int
 | .mk k _ _ _ _=>k
def Nd.place:Nd->Int
 | .mk _ p _ _ _=>p
def Nd.text:Nd->Tx
 | .mk _ _ t _ _=>t
def Nd.names:Nd->List Wd
 | .mk _ _ _ n _=>n
def Nd.kids:Nd->List Nd
 | .mk _ _ _ _ k=>k
def nd0:Nd:= .mk 0 0 pM [] []
theorem agU{C:Nd->Prop}(h:∀n,(∀x∈n.kids,C x)->C n)(n:Nd):C n:=h n fun x hx=>agU h x
termination_by SizeOf.sizeOf n
decreasing_by
 cases n
 simp only[Nd.kids]at hx
 have:=K0 hx
 simp only[Nd.mk.sizeOf_spec]
 omega
def eZ.nd:eZ->Nd
 | .mk k p t _ n _ ks=> .mk k p t n (ks.attach.map fun x=>x.1.nd)
termination_by n=>SizeOf.sizeOf n
decreasing_by
 have:=K0 x.2
 simp only[eZ.mk.sizeOf_spec]
 omega
def aoP(k:Nd):Bool:=decide (k.kind=6)&&iG k.text&&agT k.names&&decide (k.kids.length=0)
def YH:Nd->Bool
 | .mk kind _ text names kids=>
  if kind=2 then iG text&&decide (names.length=0/\kids.length=0)
  else if kind=3 then decide (text=pM)&&agT names&&decide (kids.length=0)
  else if kind=4 then decide (text=pM)&&decide (names.length=0)&&decide (0<kids.length)&&kids.attach.all fun x=>YH x.1
  else if kind=5 then decide (text=pM)&&decide (names.length=0)&&kids.all aoP
  else false
termination_by n=>SizeOf.sizeOf n
decreasing_by
 have:=K0 x.2
 simp only[Nd.mk.sizeOf_spec]
 omega
def wG:List Tx->Tx
 |[]=>pM
 |x::l=>l.foldl (fun a y=>a++tc 44++y) x
def Mr(l:List Wd):Tx:=wG (l.map Wd.text)
def tX:Nd->Tx
 | .mk kind _ text names kids=>
  if kind=1\/kind=2 then text
  else if kind=3 then tc 123++Mr names++tc 125
  else if kind=4 then tc 40++wG (kids.attach.map fun x=>tX x.1)++tc 41
  else if kind=5 then tc 91++wG (kids.attach.map fun x=>tX x.1)++tc 93
  else if kind=6 then text++⟨#[58,123]⟩++Mr names++tc 125
  else pM
termination_by n=>SizeOf.sizeOf n
decreasing_by
 all_goals
  have:=K0 x.2
  simp only[Nd.mk.sizeOf_spec]
  omega
theorem amg(n:Nd):tX n=if n.kind=1\/n.kind=2 then n.text
  else if n.kind=3 then tc 123++Mr n.names++tc 125
  else if n.kind=4 then tc 40++wG (n.kids.map tX)++tc 41
  else if n.kind=5 then tc 91++wG (n.kids.map tX)++tc 93
  else if n.kind=6 then n.text++⟨#[58,123]⟩++Mr n.names++tc 125
  else pM:=by
 cases n with
 |mk k p t names kids=>
 have h:(kids.attach.map fun x=>tX x.1)=kids.map tX:=aF
 rw[tX,h];rfl
section
variable{n:eZ}
end
theorem Ms{α:Type}{l:List α}{d:α}{P:α->Bool}{k:Int}(h0:0<=k)(h1:k<l.length)(h:P (l.getD k.toNat d)=false):l.all P=false:=by grind
theorem Gf{α:Type}{l:List α}{d:α}{P:α->Bool}{k:Int}(hk:¬k<l.length)(h:∀j:Int,0<=j->j<k->P (l.getD j.toNat d)=true):l.all P=true:=by grind[List.all_eq_true,List.getElem_of_mem,Int.toNat_natCast,List.getElem?_eq_getElem]
abbrev Ex(α:Type):=Except Int α
def awo(l:List Tx):List Wd->BitVec 64->Ex (BitVec 64)
 |[],s=> .ok s
 |x::w,s=>if qG l x.text<0 then .error x.place else awo l w (uS s (qG l x.text))
def aaR(l:List Tx)(w:List Wd):Ex (BitVec 64):=awo l w 0#64
def E6(f:Fc):List Nd->BitVec 64->Ex (BitVec 64)
 |[],w=> .ok w
 |k::ks,w=>if qG f.names k.text<0 then .error k.place else
  match aaR f.names k.names with
  | .error a=> .error a
  | .ok s=>E6 f ks (w|||awb f.rel (qG f.names k.text) s)
def awp(f:Fc):Int:=if f.kind=2 then 3 else if f.kind=3 then 5 else 2
def YI(f:Fc)(n:Nd):Ex (BitVec 64):=
 if qG f.names n.text<0 then .error n.place
 else if f.kind=4 then .ok (bU f.rel (qG f.names n.text))
 else .ok (uR f.names.length (qG f.names n.text)).1
def awq(f:Fc)(n:Nd):Ex (BitVec 64):=
 if n.kind≠awp f then .error n.place
 else if f.kind=2 then aaR f.names n.names
 else if f.kind=3 then E6 f n.kids 0#64
 else YI f n
def Mt:List (Fc×Nd)->Nat->El->Ex El
 |[],_,e=> .ok e
 |(f,n)::r,i,e=>match awq f n with
  | .error a=> .error a
  | .ok w=>Mt r (i+1) (A4 e i w)
def agV(s:Sh)(n:Nd):List Nd:=if s.tuple then n.kids else[n]
def aDo(s:Sh)(n:Nd):Bool:=lW s&&YH n&&(!s.tuple||decide (n.kind=4/\n.kids.length=s.aL.length))
def aJh(s:Sh)(n:Nd):Ex El:=if aDo s n then Mt (s.aL.zip (agV s n)) 0 dH else .error n.place
def aL9:Ex El->El×Flt
 | .ok e=>(e,awm)
 | .error a=>(dH,⟨4,a⟩)
abbrev RS:=Bool×Int
def aoQ(s:RS)(a:Int):RS:=if s.1 then s else(true,a)
def okR(x:Ex (BitVec 64))(s:RS)(y:BitVec 64)(s':RS):Prop:=match x with
 | .ok z=>y=z/\s'=s
 | .error a=>s'=aoQ s a
theorem F5{f:Fc}{n:Nd}(h:qG f.names n.text<0):YI f n= .error n.place:=by rw[YI,aS h]
def aMa(f:Fc)(ks:List Nd)(k:Int)(m:BitVec 64)(s s1:RS):Prop:=
 (s1=s/\E6 f ks 0#64=E6 f (ks.drop k.toNat) m)\/∃a,E6 f ks 0#64= .error a/\s1=aoQ s a
structure arx where
 word:BitVec 64
 bad:Bool
 at_:Int
def aMb(g:arx):List Value:=[U g.word,B g.bad,I g.at_]
def aMc:arx:=⟨0#64,false,0⟩
def aMd:Ex (BitVec 64)->arx
 | .ok x=>⟨x,false,0⟩
 | .error a=>⟨0#64,true,a⟩
section agW
variable{f:qk}{n:eZ}{k:Int}{m:BitVec 64}(h0:0<=k)(h1:k<n.kids.length)(hm:E6 f.fc n.nd.kids 0#64=E6 f.fc (n.nd.kids.drop k.toNat) m)
include h0 h1 hm
end agW
section amh
variable{f:qk}{n:eZ}
end amh
def aMe(l:List (Fc×Nd))(k:Int)(e:El)(s:RS):Prop:=
 (s=(false,0)/\Mt l 0 dH=Mt (l.drop k.toNat) k.toNat e)\/∃a,Mt l 0 dH= .error a/\s=(true,a)
def aaS(l:List Tx)(w:BitVec 64):List Wd:=(gA w).map fun i=>⟨l.getD i.toNat pM,0⟩
def agX(f:Fc)(w:BitVec 64)(o:Int):Nd:= .mk 6 0 (f.names.getD o.toNat pM) (aaS f.names (agq f.rel w o)) []
def YJ(f:Fc)(w:BitVec 64):Nd:=
 if f.kind=2 then .mk 3 0 pM (aaS f.names w) []
 else if f.kind=3 then .mk 5 0 pM [] ((gA (R2 f.rel w)).map (agX f w))
 else if f.kind=4 then .mk 2 0 (f.names.getD (eM f.rel w).1.toNat pM) [] []
 else .mk 2 0 (f.names.getD (level f.names.length w).1.toNat pM) [] []
def agY(s:Sh)(e:El)(k:Int):List Nd:=(upto k).map fun i=>YJ (s.aL.getD i.toNat vO) (e i.toNat)
def awr(s:Sh)(e:El):Nd:=
 if cF s e then(if s.tuple then .mk 4 0 pM [] (agY s e s.aL.length)else YJ (s.aL.getD 0 vO) (e 0))else nd0
def agZ(s:Sh)(e:El):Tx:=tc 35++tX (awr s e)
abbrev By:=List UInt8
def bl(t:Tx):By:=t.data.toList
def goU(b:UInt8):Bool:=tT (b.toNat:Int)
def Ds(x:By):Prop:=∀b r,x=b::r->goU b=false
theorem Ds.nil:Ds []:=fun b r h=>by cases h
theorem Ds.cons{d:UInt8}(h:goU d=false)(x:By):Ds (d::x):=fun b r e=>by cases e;exact h
def aDq(l:List By):By:=l.flatMap fun y=>44::y
def aMf:List By->By
 |[]=>[]
 |x::l=>x++aDq l
section
variable{Q:By->Prop}(hQ:∀u v,Q u->Q v->∀x y,Ds x->Ds y->u++x=v++y->u=v/\x=y){d:UInt8}(hd:goU d=false)(h44:d≠44)
include hQ hd h44
end
def wd_(t:Tx):Wd:=⟨t,0⟩
def Rn(n:Nd):Prop:=∃(t:Tx) (ws:List Tx),n= .mk 6 0 t (ws.map wd_) []/\iG t=true/\∀u∈ws,iG u=true
def wtx(a:El):List Fc->Nat->List By
 |[],_=>[]
 |f::r,i=>bl (tX (YJ f (a i)))::wtx a r (i+1)
inductive Mu:eZ->Prop
 |mk {kind place:Int} {text:Tx} {nv:Value} {names:List Wd} {kv:Value} {kids:List eZ} (hl:names.length<=5864062014634) (each:∀x∈kids,Mu x):Mu (.mk kind place text nv names kv kids)
theorem Mu.len{n:eZ}(h:Mu n):n.names.length<=5864062014634:=by cases h;assumption
theorem Mu.each{n:eZ}(h:Mu n):∀x∈n.kids,Mu x:=by cases h;assumption
def aDr(s:kW)(n:eZ):List eZ:=if s.tuple then n.kids else[n]
def aJi(s:kW)(n:eZ):Bool:= !s.tuple||decide (n.kind=4/\n.kids.length=s.aL.length)
def aMi(s:kW)(n:eZ):List (Fc×Nd):=s.sh.aL.zip (agV s.sh n.nd)
section
variable{s:kW}{n:eZ}
end
section ref
variable{l:List (Fc×Nd)}{k:Int}{e:El}{f:Fc}{m:Nd}(h0:0<=k)(h1:k<l.length)(hm:Mt l 0 dH=Mt (l.drop k.toNat) k.toNat e)(hw:l.getD k.toNat (vO,nd0)=(f,m))
include h0 h1 hm hw
end ref
def aMj(q:Int)(x:eZ):Bool:=if q=1 then YH x.nd else aoP x.nd
section
variable{n:eZ}
end
theorem xw.nil(K:Vu):xw K []:=⟨fun x hx=>by simp at hx⟩
theorem xw.snoc{K:Vu}{l:List eZ}{n:eZ}(h:xw K l)(hn:qJ K n):xw K (l++[n]):=⟨fun x hx=>by
 rcases eI.1 hx with hx|hx
 .exact h.each x hx
 rw[dY.1 hx];exact hn⟩
def wdN(l:List Tx)(i:Int):Wd:=⟨l.getD i.toNat pM,0⟩
def aB1(l:List Tx)(w:BitVec 64)(k:Int):List Wd:=((upto k).filter (hasB w)).map (wdN l)
theorem wC(k:Int):(upto k).Pairwise (· <·):=by
 rw[upto,Hv]
 exact Xd.imp fun h=>by omega
def aMl:Value:= .slice none 0 0
def aJj(k:Int)(t:Tx)(nv:Value)(names:List Wd):eZ:= .mk k 0 t nv names (.slice none 0 0) []
def aJk(k:Int)(kv:Value)(kids:List eZ):eZ:= .mk k 0 pM (.slice none 0 0) [] kv kids
def aB2(f:Fc)(w:BitVec 64)(k:Int):List Nd:=((gA (R2 f.rel w)).take k.toNat).map (agX f w)
def aB3(f:Fc)(w:BitVec 64)(k:Int):List Nd:=((upto k).filter (hasB (R2 f.rel w))).map (agX f w)
def kA:Nd->Nat
 | .mk kind _ text names kids=>(if 0<=kind/\kind<=6 then 4 else 10000000000)+text.size+(names.map fun x=>x.text.size+1).sum+(kids.attach.map fun x=>kA x.1+1).sum
termination_by n=>SizeOf.sizeOf n
decreasing_by
 have:=K0 x.2
 simp only[Nd.mk.sizeOf_spec]
 omega
theorem aoR(n:Nd):kA n=(if 0<=n.kind/\n.kind<=6 then 4 else 10000000000)+n.text.size+(n.names.map fun x=>x.text.size+1).sum+(n.kids.map fun x=>kA x+1).sum:=by
 cases n with
 |mk k p t names kids=>
 have h:(kids.attach.map fun x=>kA x.1+1)=kids.map fun x=>kA x+1:=aF
 rw[kA,h];rfl
theorem Uz{α:Type}{F G:α->Nat}:∀(l:List α),(∀x∈l,F x<=G x)->(l.map F).sum<=(l.map G).sum
 |[],_=>by simp
 |y::l,h=>by
  have h1:=h y (tQ ..)
  have h2:=Uz l fun x hx=>h x (fC _ hx)
  simp only[lB,BJ];omega
structure TxN(n:Nd):Prop where
 sz:kA n<=1000000000
theorem TxN.kind{n:Nd}(h:TxN n):0<=n.kind/\n.kind<=6:=by grind[Nd,TxN,aoR]
theorem Mv:∀(l:List Tx) (a:Tx),(l.foldl (fun a y=>a++tc 44++y) a).size=a.size+(l.map fun x=>x.size+1).sum
 |[],a=>by simp
 |y::l,a=>by
  rw[rA,Mv l,p8,p8,lB,BJ,show(tc 44).size=1 from O];omega
theorem PF(l:List Tx):(wG l).size<=(l.map fun x=>x.size+1).sum:=by
 cases l with
 |nil=>exact er _
 |cons x l=>
  show(l.foldl (fun a y=>a++tc 44++y) x).size<=_
  rw[Mv]
  simp only[lB,BJ];omega
theorem ami(n:Nd):(tX n).size<=kA n:=agU (C:=fun n=>(tX n).size<=kA n) (fun n ih=>by
 rw[aoR,amg]
 have h1:(Mr n.names).size<=(n.names.map fun x=>x.text.size+1).sum:=by
  have:=PF (n.names.map Wd.text)
  rw[Li]at this;exact this
 have h2:(wG (n.kids.map tX)).size<=(n.kids.map fun x=>kA x+1).sum:=by
  have h3:=PF (n.kids.map tX)
  rw[Li]at h3
  exact kM h3 (Uz n.kids fun x hx=>by have:=ih x hx;simp only[Function.comp];omega)
 have h4:∀c:UInt8,(tc c).size=1:=fun _=>rfl
 have h5:((⟨#[58,123]⟩:Tx)).size=2:=rfl
 have h6:pM.size=0:=rfl
 have h7:4<=(if 0<=n.kind/\n.kind<=6 then 4 else 10000000000):=by split<;>omega
 split
 .omega
 split
 .simp only[p8,h4];omega
 split
 .simp only[p8,h4];omega
 split
 .simp only[p8,h4];omega
 split
 .simp only[p8,h4,h5];omega
 omega) n
theorem TxN.text{n:Nd}(h:TxN n):(tX n).size<=1000000000:=kM (ami n) h.sz
theorem R7{α:Type}{F:α->Nat}{m:Nat}:∀(l:List α),(∀x∈l,F x<=m)->(l.map F).sum<=m*l.length
 |[],_=>by simp
 |y::l,h=>by
  have h1:=h y (tQ ..)
  have h2:=R7 l fun x hx=>h x (fC _ hx)
  simp only[lB,BJ,eR]
  rw[Nat.mul_add];omega
def awu(T:Int->Tx)(k:Int):Tx:=wG ((upto k).map T)
def aMm(l:List eZ)(i:Int):Tx:=tX (l.getD i.toNat Mq).nd
def wdT(l:List Wd)(i:Int):Tx:=(l.getD i.toNat wd0).text
instance:DecidableEq Wd:=fun a b=>if h:a.text=b.text/\a.place=b.place then .isTrue (by cases a;cases b;cases h.1;cases h.2;rfl)else .isFalse (fun e=>h (by rw[e];exact⟨rfl,rfl⟩))
def aDs:List Tx:=[⟨#[112]⟩,⟨#[113]⟩]
def exG:Sh:=⟨false,[⟨3,aDs,aDd⟩]⟩
def exR:Nd:= .mk 6 0 ⟨#[112]⟩ [⟨⟨#[113]⟩,0⟩] []
def aMo:Nd:= .mk 5 0 pM [] [exR]
def aMp(x:Ex El):Bool:=match x with
 | .ok e=>decide (rC e (A4 dH 0 1#64))
 | .error _=>false
theorem ag0{α:Type}{cl:α->List Value}{sz:Nat}(hsz:∀a,(cl a).length=sz)(hpos:0<sz)(z0:α)(n:Nat):madeCells (cl z0).toArray (n*sz)=((List.replicate n z0).flatMap cl).toArray:=by
 refine Rr (tj fun j=> ?_)
 have hl:((List.replicate n z0).flatMap cl).length=n*sz:=by rw[fq hsz,Q2]
 by_cases hj:j<n*sz
 .have h1:j/sz<n:=Nat.div_lt_of_lt_mul (by rw[Nat.mul_comm];exact hj)
  have h2:j%sz<(cl z0).length:=by rw[hsz];exact Nat.mod_lt _ hpos
  have h3:=flat_get hsz (List.replicate n z0) (j/sz) z0 (by rw[Xb,aS h1]) (j%sz) (cl z0)[j%sz] (ep h2)
  rw[show j/sz*sz+j%sz=j by rw[Nat.mul_comm];exact XB j sz]at h3
  show(madeCells (cl z0).toArray (n*sz)).toList[j]?=((List.replicate n z0).flatMap cl)[j]?
  rw[h3,madeCells,Array.toList_map,pW,Array.toList_range,yN hj]
  simp only[qt,Aq,hsz]
  congr 1
  rw[getElem!_def]
  simp only[EB,ep h2]
 rw[ny (by rw[show(madeCells (cl z0).toArray (n*sz)).toList.length=n*sz by simp[madeCells]];omega),ny (by rw[show((List.replicate n z0).flatMap cl).toArray.toList.length=n*sz from hl];omega)]
section
variable{P:Program}{σ:Env}{w:World}{dst:Option Tmp}{ty t e:TypeId}{pos:String}{bK:Array Edge}{g:Option (Nat×Bool)}{x y:Operand}{α:Type}{cl:α->List Value}{sz:Nat}
theorem PG{ie:TypeInfo}{z:Value}{z0:α}{n:Nat}(hsz:∀a,(cl a).length=sz)(hpos:0<sz)(hu:P.underlying t=some (.slice e))(hie:P.info? e=some ie)(hz:ie.zero=some z)(hzc:z.cells=(cl z0).toArray)(hs:ie.size=sz)
  (hx:ev σ x= .int .i64 n) (hy:ev σ y= .int .i64 n) (hb:ie.bytes*n<=281474976710656) (hn:n<=maxLen):
  (execOp (ev σ) ⟨dst,.makeSlice t x y,ty,pos,bK,g⟩).run P w= .ok (.value (.slice (some ⟨w.heap.size,0,none⟩) n n)) (w.alloc (.cells ((List.replicate n z0).flatMap cl).toArray e)):=by
 have hb':(ie.bytes:Int)*n<=281474976710656:=by
  have h:((ie.bytes*n:Nat):Int)<=281474976710656:=J
  rwa[Int.natCast_mul]at h
 have hr:=run_make (P:=P) w t e ie z hu hie hz .i64 .i64 n n J (nc _) hb' (by unfold maxLen at hn;omega)
 rw[hzc,hs,ef,ag0 hsz hpos]at hr
 simp[execOp,hx,hy,hr]
end
theorem Cg(b o n:Nat):(⟨b,o,none⟩:Addr).add n=⟨b,o+n,none⟩:=by unfold Addr.add;split<;>simp_all
theorem Hp.KE{w0 w:World}{L:List a7}{i:Nat}{v:Value}{e:TypeId}{sz n:Nat}{xs:List Value}(h:Hp w0 w L)(hi:L[i]?=some (.row v e sz n xs))(hn:0<n):
  ∃gb cap,v= .slice (some ⟨gb,0,none⟩) n cap/\n<=cap/\∃cur:Array Value,w.heap[gb]?=some (.cells cur e (0,0))/\cur.size=cap*sz/\cur.toList.take (n*sz)=xs/\
   ∀JP:Array Value,JP.size=cur.size->Hp w0 (w.setRow gb JP) (L.set i (.row v e sz n (JP.toList.take (n*sz)))):=by
 obtain⟨hl,h2⟩:=h.get hi
 rcases h2 with⟨rfl,rfl⟩|⟨gb,cap,cur,rfl,hb,hg,hnc,hm,hs,ht⟩
 .exact absurd hn (Nat.lt_irrefl 0)
 refine⟨gb,cap,rfl,hnc,cur,hg,hs,ht,fun JP hc'=> ?_⟩
 have hil:=(m8.1 hi).1
 have h1:Hp w0 w (L.set i (.blk gb (.cells cur e (0,0)))):=⟨h.below,fun y hy=>by
   obtain⟨j,hj,ET⟩:=yM.1 hy
   rw[yP]at ET
   split at ET
   .subst ET;exact⟨hb,hg⟩
   exact h.ok y (ET▸nM _),B0 hi O h.LC⟩
 have hi1:(L.set i (.blk gb (.cells cur e (0,0))))[i]?=some (.blk gb (.cells cur e (0,0))):=by rw[List.getElem?_set_self hil]
 have h3:=h1.set (c':=JP) hi1
 rw[List.set_set]at h3
 have hi3:(L.set i (.blk gb (.cells JP e (0,0))))[i]?=some (.blk gb (.cells JP e (0,0))):=by rw[List.getElem?_set_self hil]
 have h4:Hp w0 (w.setRow gb JP) ((L.set i (.blk gb (.cells JP e (0,0)))).set i (.row (.slice (some ⟨gb,0,none⟩) n cap) e sz n (JP.toList.take (n*sz)))):=⟨h3.below,fun y hy=>by
   obtain⟨j,hj,ET⟩:=yM.1 hy
   rw[yP]at ET
   split at ET
   .subst ET
    have hb3:=h3.get hi3
    refine⟨?_,.inr ⟨gb,cap,JP,rfl,hb3.1,hb3.2,hnc,hm,by rw[hc',hs],rfl⟩⟩
    rw[eP,rz]
    have:JP.toList.length=cap*sz:=by rw[Ey,hc',hs]
    rw[this];exact ry _ hnc
   exact h3.ok y (ET▸nM _),B0 hi3 O h3.LC⟩
 rw[List.set_set]at h4;exact h4
def rX(xs:List Value)(o:Nat)(new:List Value):List Value:=xs.take o++new++xs.drop (o+new.length)
theorem Gg{cur new:List Value}{o m:Nat}(h:o+new.length<=m)(hm:m<=cur.length):(cur.take o++new++cur.drop (o+new.length)).take m=rX (cur.take m) o new:=by
 rw[rX,List.take_append,List.take_append,iV (l:=new) (by simp only[eP];omega),BG,BG,Xy J,rz J]
 congr 1
 simp only[cZ,eP]
 rw[List.drop_take,show min o cur.length+new.length=o+new.length by omega]
section
variable{P:Program}{n:Nat}{ops:Array Oper}{k:K}{rest l:List Oper}{σ:Env}{w0 w:World}{L:List a7}{op:Op}{ty t e et:TypeId}{pos:String}{bK:Array Edge}{d:Nat}{x y:Operand}{g:Option (Nat×Bool)}{v:Value}{sz m i:Nat}{xs:List Value}{dst:Option Tmp}
theorem arz{o:Nat}{new:List Value}(hH:Hp w0 w L)(hi:L[i]?=some (.row v e sz m xs))(hm:0<m)(hx:ev σ x= .pointer (some ⟨sb v,so v+o,none⟩))(hy:ev σ y= .agg new.toArray)(h1:∀u∈new,u.oneCell'=true)(hs:(P.info? t).map (·.size)=some new.length)(ho:o+new.length<=m*sz):
  ∃w',(execOp (ev σ) ⟨dst,.store t x y,ty,pos,bK,g⟩).run P w= .ok .skip w'/\Hp w0 w' (L.set i (.row v e sz m (rX xs o new))):=by
 obtain⟨gb,cap,rfl,hnc,cur,hg,hc,ht,hk⟩:=hH.KE hi hm
 have hcm:m*sz<=cap*sz:=ry _ hnc
 have hx':ev σ x= .pointer (some ⟨gb,o,none⟩):=by rw[hx];simp only[sb,so,ia]
 have hr:=PB (P:=P) (dst:=dst) (ty:=ty) (pos:=pos) (bK:=bK) (g:=g) (c':=cur.toList.take o++new++cur.toList.drop (o+new.length)) hs hx' hy h1 hg J O
 have hl:(cur.toList.take o++new++cur.toList.drop (o+new.length)).length=cur.size:=by
  simp only[cZ,eP,xS,Ey];omega
 have h2:=hk (cur.toList.take o++new++cur.toList.drop (o+new.length)).toArray (by rw[Aq,hl])
 rw[show(cur.toList.take o++new++cur.toList.drop (o+new.length)).toArray.toList=cur.toList.take o++new++cur.toList.drop (o+new.length)from O,Gg ho RI,ht]at h2
 exact⟨_,hr,h2⟩
variable{fuel j:Nat}{listed:Array Bool}{L':List a7}
theorem UA{sT:TypeId}{u:Value}{c dLen dCap o m':Nat}{cells:List Value}(hH:Hp w0 w L)(hi:L[i]?=some (.row v e sz m xs))(hm:0<m)(hu:P.underlying t=some (.slice et))(hs:(P.info? et).map (·.size)=some sz)
  (hx:ev σ x= .slice (some ⟨sb v,so v+o*sz,none⟩) dLen dCap) (hy:ev σ y=u) (hS:Sl w u sz m' cells) (hc:Nat.min m' dLen=c) (ho:o+c<=m) (h1:∀q∈cells,q.oneCell'=true):
  ∃w',(execOp (ev σ) ⟨dst,.call {callee:= .builtin .copy,args:=#[x,y],argTypes:=#[t,sT]},ty,pos,bK,g⟩).run P w= .ok (.value (goInt c)) w'/\Hp w0 w' (L.set i (.row v e sz m (rX xs (o*sz) (cells.take (c*sz))))):=by
 obtain⟨gb,cap,rfl,hnc,cur,hg,hcs,ht,hk⟩:=hH.KE hi hm
 obtain⟨ua,UB,rfl,huc,hua⟩:=hS.shape
 have kD:=hS.len
 have hcm:m*sz<=cap*sz:=ry _ hnc
 have YK:c<=m':=by rw[<-hc];exact Nat.min_le_left _ _
 have hlt:(cells.take (c*sz)).length=c*sz:=by rw[eP,kD,rz (ry _ YK)]
 have hoc:o*sz+c*sz<=m*sz:=by rw[<-kT];exact ry _ ho
 have hx':ev σ x= .slice (some ⟨gb,o*sz,none⟩) dLen dCap:=by rw[hx];simp only[sb,so,ia]
 have hst:=Xr P gb (o*sz) e (cells.take (c*sz)) 0 cur w hg (by rw[hlt];omega) (fun q hq=>h1 q (rH hq))
 have awv:(Builtin.firstCells sz c (.slice ua m' UB)).run P w= .ok (cells.take (c*sz)).toArray w:=by
  by_cases hz:c*sz=0
  .rw[hz,wY]
   cases ua with
   |none=>simp[Builtin.firstCells,hz]
   |some a=>have:=run_loadCells_list (P:=P) w a [] (fun j v hv=>by simp at hv);simpa[Builtin.firstCells,hz]using this
  have hm0:0<m':=by
   rcases Q7 m' with h|h
   .rw[show c=0 by omega]at hz;simp at hz
   exact h
  have hl:=run_loadCells_list (P:=P) w ⟨sb (.slice ua m' UB),so (.slice ua m' UB),none⟩ (cells.take (c*sz)) (fun j q hq=>by
   rw[Cg]
   rw[uF]at hq
   split at hq
   .exact hS.cell j q hq
   .cases hq)
  rw[hlt]at hl
  rw[hua hm0]
  simpa[Builtin.firstCells]using hl
 refine⟨w.setRow gb (cur.toList.take (o*sz)++cells.take (c*sz)++cur.toList.drop (o*sz+(cells.take (c*sz)).length)).toArray,?_,?_⟩
 rotate_left
 .have h2:=hk (cur.toList.take (o*sz)++cells.take (c*sz)++cur.toList.drop (o*sz+(cells.take (c*sz)).length)).toArray (by
   simp only[Aq,cZ,eP,xS,Ey];rw[kD]
   have:min (c*sz) (m'*sz)=c*sz:=rz (ry _ YK)
   omega)
  rw[show(cur.toList.take (o*sz)++cells.take (c*sz)++cur.toList.drop (o*sz+(cells.take (c*sz)).length)).toArray.toList=cur.toList.take (o*sz)++cells.take (c*sz)++cur.toList.drop (o*sz+(cells.take (c*sz)).length)from O,Gg (by rw[hlt];omega) RI,ht]at h2
  exact h2
 have hq:∃ii,P.info? et=some ii/\ii.size=sz:=by
  cases hq:P.info? et with
  |none=>simp[hq]at hs
  |some ii=>exact⟨ii,rfl,by simpa[hq]using hs⟩
 obtain⟨ii,hii,his⟩:=hq
 rw[Lh]at hst
 have hcp:(Builtin.copy_ #[t,sT] ty #[.slice (some ⟨gb,o*sz,none⟩) dLen dCap,.slice ua m' UB]).run P w= .ok (goInt c) (w.setRow gb (cur.toList.take (o*sz)++cells.take (c*sz)++cur.toList.drop (o*sz+(cells.take (c*sz)).length)).toArray):=by
  have hc2:min m' dLen=c:=hc
  simp[Builtin.copy_,kr hu,Builtin.lenOf,sizeOf,typeInfo,hii,his,hc,hc2,awv]
  have aww:=hst
  simp at aww
  rw[aww];rfl
 simp[execOp,resolve,invoke,builtin,hx',hy,hcp]
theorem Ch{j fuel:Nat}{listed:Array Bool}{L':List a7}{Q:World->Prop}{vv:Value}(hj:l[j]?=some ⟨some d,op,ty,pos,bK,g⟩)(hg:∀a,Is n σ a->Region.wanted ⟨some d,op,ty,pos,bK,g⟩ (yielded l.toArray a.tmps)=true)(hd:Nat.blt d n=true)(h:∃w',(execOp (ev σ) ⟨some d,op,ty,pos,bK,g⟩).run P w= .ok (.value vv) w'/\Q w')(hQ:∀w',Q w'->Hp w0 w' L')
 (hk:∀w',Q w'->AN P n l (fun w=>Hp w0 w L') k fuel (listed.setIfInBounds j true) (lG σ d vv) w'):AO P n l (fun w=>Hp w0 w L') k fuel listed σ w j:=by grind[B4]
def oH(v:Value)(sz i:Nat):Value:=
 match v with
 | .slice a n cap=> .slice (if cap=i then a else a.map (·.add (i*sz))) (n-i) (cap-i)
 |v=>v
theorem ag1(hH:Hp w0 w L)(hi:L[i]?=some (.row v e sz m xs))(hm:0<m):∃gb cap,v= .slice (some ⟨gb,0,none⟩) m cap/\m<=cap:=by
 obtain⟨gb,cap,h,h2,-⟩:=hH.KE hi hm;exact⟨gb,cap,h,h2⟩
theorem ag2(xs:List Value)(o:Nat):rX xs o []=xs:=by simp[rX]
theorem p9{sT:TypeId}{u:Value}{c o m':Nat}{cells:List Value}(hH:Hp w0 w L)(hi:L[i]?=some (.row v e sz m xs))(hm:0<m)(hu:P.underlying t=some (.slice et))(hs:(P.info? et).map (·.size)=some sz)
  (hx:ev σ x=oH v sz o) (hy:ev σ y=u) (hS:Sl w u sz m' cells) (hc:Nat.min m' (m-o)=c) (ho:o<=m) (h1:∀q∈cells,q.oneCell'=true):
  ∃w',(execOp (ev σ) ⟨dst,.call {callee:= .builtin .copy,args:=#[x,y],argTypes:=#[t,sT]},ty,pos,bK,g⟩).run P w= .ok (.value (goInt c)) w'/\Hp w0 w' (L.set i (.row v e sz m (rX xs (o*sz) (cells.take (c*sz))))):=by
 obtain⟨gb,cap,rfl,hcap⟩:=ag1 hH hi hm
 have hcm:c<=m-o:=by have h:=Nat.min_le_right m' (m-o);rwa[show min m' (m-o)=c from hc]at h
 by_cases hco:cap=o
 .have h0:c=0:=J
  subst h0
  have hx':ev σ x= .slice (some ⟨sb (.slice (some ⟨gb,0,none⟩) m cap),so (.slice (some ⟨gb,0,none⟩) m cap)+0*sz,none⟩) (m-o) (cap-o):=by rw[hx];simp[oH,hco,sb,so]
  obtain⟨w',hr,h2⟩:=UA (sT:=sT) (dst:=dst) (ty:=ty) (pos:=pos) (bK:=bK) (g:=g) (o:=0) hH hi hm hu hs hx' hy hS hc J h1
  refine⟨w',hr,?_⟩
  simp only[Ro,wY,ag2]at h2⊢
  exact h2
 refine UA (dLen:=m-o) (dCap:=cap-o) hH hi hm hu hs ?_ hy hS hc J h1
 rw[hx]
 simp only[oH,aR hco,qt,Cg,sb,so]
theorem aDv{Q:World->Prop}{vv:Value}(hd:Nat.blt d n=true)(h:∃w',(execOp (ev σ) ⟨some d,op,ty,pos,bK,none⟩).run P w= .ok (.value vv) w'/\Q w')
 (hk:∀w',Q w'->RL P n ops k rest (lG σ d vv) w'):RL P n ops k (⟨some d,op,ty,pos,bK,none⟩::rest) σ w:=by grind[oP]
theorem Sl.fr{cells:List Value}(h:Sl w v sz m cells)(o:Nat)(ho:o<=m):Sl w (oH v sz o) sz (m-o) (cells.drop (o*sz)):=by
 obtain⟨a,cap,rfl,hcap,ha⟩:=h.shape
 have hl:=h.len
 refine⟨?_,by rw[xS,hl,Nat.sub_mul],fun j c hj=> ?_,by have:=h.small;omega⟩
 .by_cases h0:0<m-o
  .have h1:=ha J
   have hco:¬cap=o:=J
   refine⟨_,cap-o,rfl,J,fun _=> ?_⟩
   rw[h1];simp only[oH,aR hco,qt,Cg,sb,so]
  exact⟨_,cap-o,rfl,J,fun h=>absurd h h0⟩
 have h0:0<m-o:=by
  rcases Q7 (m-o)with h0|h0
  .rw[List.drop_eq_nil_of_le (by rw[hl];exact ry _ J)]at hj;cases hj
  exact h0
 rw[BD]at hj
 have h1:=ha J
 have h2:=h.cell _ _ hj
 have hco:¬cap=o:=J
 have e1:sb (oH (.slice a m cap) sz o)=sb (.slice a m cap):=by rw[h1];simp only[oH,aR hco,qt,Cg,sb,so]
 have e2:so (oH (.slice a m cap) sz o)=so (.slice a m cap)+o*sz:=by rw[h1];simp only[oH,aR hco,qt,Cg,sb,so]
 rw[e1,e2,yQ];exact h2
theorem gh{lo:Operand}{q:Int}{cells:List Value}(hS:Sl w v sz m cells)(hu:P.underlying t=some (.slice et))(hs:∀w,(sizeOf et).run P w= .ok sz w)(hx:ev σ x=v)(hlo:ev σ lo=I q)(h:0<=q/\q<=m):
  (execOp (ev σ) ⟨dst,.slice t x (some lo) none none,ty,pos,bK,g⟩).run P w= .ok (.value (oH v sz q.toNat)) w:=by
 obtain⟨a,cap,rfl,hcap,ha⟩:=hS.shape
 have h1:0<=q/\q<=(m:Int):=h
 have h2:(Instr.slice t (.slice a m cap) (some (I q)) none none).run P w= .ok (oH (.slice a m cap) sz q.toNat) w:=by
  simp[Instr.slice,Instr.sliceBounds,Instr.sliceBound,kr hu,asIntOf,h1,hs,oH]
 have h3:(Instr.sliceAt t (.slice a m cap) (some (I q)) none none).run P w= .ok (oH (.slice a m cap) sz q.toNat) w:=by
  simp[Instr.sliceAt,kr hu,h2]
 simp[execOp,hx,hlo,h3]
end
end
end Go.Proofs.YtlhjdflgjbkpmaaGreatDoor.E

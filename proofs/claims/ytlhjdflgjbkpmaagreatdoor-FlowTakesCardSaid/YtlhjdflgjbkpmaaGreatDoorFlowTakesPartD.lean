/- Part 4 of the proof of FlowTakes: its plain laws and the walks of its functions. -/
import Derived.Test.YtlhjdflgjbkpmaaGreatDoorFlowTakesPartC
set_option linter.all false
namespace Go.Proofs.YtlhjdflgjbkpmaaGreatDoor.W
section
open Go Go.RowKit Go.Proofs.YtlhjdflgjbkpmaaGreatDoor.E Go.Proofs.YtlhjdflgjbkpmaaGreatDoor.M
set_option maxRecDepth 100000
open Go.Proofs.Tryz
theorem qk:∀w,(zeroValue 86).run Tryz.prog w= .ok (.agg (dK Rl.none)) w:=fun w=>by
 rw[iH];exact Tryz.zeroValue86 w
theorem xB(a:Int):Tryz.prog.built 86 [(0,I a)]=some (dK ⟨a,fun _=>0#64⟩):=by
 rw[iH];rfl
theorem H8:Tryz.prog.fieldsOf 86=#[{name:= "N",type:=3,offset:=0,embedded:=false,tag:= "",pkgPath:= "",byteOffset:=0},{name:= "Up",type:=84,offset:=1,embedded:=false,tag:= "",pkgPath:= "",byteOffset:=8}]:=by
 unfold Program.fieldsOf;rw[bL]
theorem Hg:ajC Tryz.prog 86 {name:= "N",type:=3,offset:=0,embedded:=false,tag:= "",pkgPath:= "",byteOffset:=0} {name:= "Up",type:=84,offset:=1,embedded:=false,tag:= "",pkgPath:= "",byteOffset:=8} 35:=
 ⟨by rw[H8];exact bL,H8,ay,ay,rfl,rfl,bt,Tryz.isAgg3,qT,Tryz.isAgg84,sJ,dU,cX,Tryz.isAgg35,aN,aN⟩
theorem Fi:ElT Tryz.prog 37 35:=⟨cA,dU,cX,Tryz.isAgg35,aN⟩
theorem js:∀w,(zeroValue 37).run Tryz.prog w= .ok (.agg (iU dh)) w:=fun w=>by
 rw[aeD];exact Tryz.zeroValue37 w
theorem uJ:∀w,(zeroValue 88).run Tryz.prog w= .ok (.agg (tA ko)) w:=fun w=>Tryz.zeroValue88 w
theorem L3:Tryz.prog.built 86 []=some (dK Rl.none):=by
 rw[iH];rfl
theorem Xy{v:Value}(h:v.cells=#[v]):Tryz.prog.built 56 [(1,v)]=some #[B false,v]:=
 (show Tryz.prog.built 56 [(1,v)]=Instr.fill (#[(0,1),(1,1)][·]?) #[B false,.slice none 0 0] [(1,v)]from O).trans PY
theorem Xz:Tryz.prog.built 56 [(0,B true)]=some #[B true,.slice none 0 0]:=rfl
theorem ab0(k:Int)(b n:Nat)(l:List Tx):Tryz.prog.built 88 [(0,I k),(1,.slice (some ⟨b,0,none⟩) n n)]=some (tA ⟨k,.slice (some ⟨b,0,none⟩) n n,l,Rl.none⟩):=rfl
theorem OV(a:BitVec 64):Tryz.prog.built 37 [(0,U a)]=some (iU (zX dh 0 a)):=by
 rw[gR];rfl
theorem xC:Tryz.prog.built 37 []=some (iU dh):=by
 rw[gR];rfl
theorem T4:∀w,(zeroValue 58).run Tryz.prog w= .ok (.agg (K2 mX).toArray) w:=fun w=>Tryz.zeroValue58 w
theorem BC:∀w,(zeroValue 90).run Tryz.prog w= .ok (.agg (jW cg).toArray) w:=fun w=>(Tryz.zeroValue90 w).trans aN
theorem XA:∀w,(zeroValue 143).run Tryz.prog w= .ok (.agg (sO mw).toArray) w:=fun w=>(Tryz.zeroValue143 w).trans aN
theorem ahs:∀w,(zeroValue 44).run Tryz.prog w= .ok (.agg (u3 iJ).toArray) w:=fun w=>(Tryz.zeroValue44 w).trans aN
theorem ab1(r:Rl):Tryz.prog.built 212 [(0,.agg (dK r))]=some (kN r 0 0 (.slice none 0 0) (.slice none 0 0)).toArray:=by
 rw[iH];kernel_rfl
abbrev TX:M6:=(⟨95,97,141,59,62,64,66,56,199,139,72,117,135,212,[]⟩:M6)
abbrev Ae(fr:List a8):M6:=(⟨95,97,141,59,62,64,66,56,199,139,72,117,135,212,fr⟩:M6)
theorem ab2(f g k:FuncId)(a b c:Array Value):Tryz.prog.built 117 [(0,iW f a),(1,iW g b),(2,iW k c)]=some #[iW f a,iW g b,iW k c]:=rfl
theorem T5:∀w,(zeroValue 117).run Tryz.prog w= .ok (.agg #[.nilFunc,.nilFunc,.nilFunc]) w:=fun w=>Tryz.zeroValue117 w
variable{fr:List a8}
theorem Q3(n:Int)(w:World):Calls Tryz.prog 238 #[I n] w (Pure (B (yl n)) w):=by
 refine eH func238 rfl rfl fun hH=>SR<|va (v:=B false) rfl<|aa<|SR<|mI rfl<|V (di O O)<|mB rfl<|bI 5 O (fun h2=> ?_) (fun h2=> ?_)
 .refine mI rfl<|V (yh O O)<|mB rfl<|aB rfl<|aa<|aj<|oB O ?_ hH
  (simp[yl];omega)
 refine aG (v:=B false) rfl<|aB rfl<|aa<|aj<|oB O ?_ hH
 (simp[yl];omega)
theorem ny(n:Int)(w:World):Calls Tryz.prog 179 #[I n] w (Pure (U (below n)) w):=by
 refine eH func179 rfl rfl fun hH=>SR<|va (v:=U 0#64) rfl<|aa<|ah<|SR<|mI rfl<|V (yh O O)<|aa<|aF O (fun h2=> ?_) (fun h2=> ?_)
 .refine SR<|va (v:=U 0#64) rfl<|aa<|aj<|Ez O (aJ U (P9 aQ).symm) hH.below
 refine ak<|ah<|SR<|mI rfl<|V (di O O)<|aa<|aF O (fun h4=> ?_) (fun h4=> ?_)
 .refine SR<|va (v:=U 18446744073709551615#64) rfl<|aa<|aj<|Ez O (aJ U (aar aQ).symm) hH.below
 refine ak<|SR<|mI rfl<|V (kF bt DB O)<|V (J9 (a:=1#64) O O)<|V (RY O (b:=1#64) O)<|aU rfl<|aa<|aj<|Ez O (aJ U (aas aQ aQ).symm) hH.below
theorem Q4(n:Int)(s:BitVec 64)(w:World):Calls Tryz.prog 212 #[I n,U s] w (Pure (.tuple #[I (level n s).1,B (level n s).2]) w):=by
 refine eH func212 rfl rfl fun hH=>SR<|va (v:=I 0) rfl<|va (v:=B false) rfl<|aa<|ah<|SR<|mI rfl<|aE O hH (Q3 _ _) (aq call238 O)<|fun w1 a7=>V (bK O)<|aa<|bQ O (fun h5=> ?_) (fun h5=> ?_)
 .refine SR<|va (v:=I 0) rfl<|va (v:=B false) rfl<|aa<|aj<|have hn:=ajs ‹(!yl n)=true›;?_
  refine kp O (aJ I ?_) (aJ B ?_) a7.below<;>rw[Kk s hn]
 refine ak<|ah<|SR<|mI rfl<|aG (v:=I 0) rfl<|aa<|aC<|have hn:=ajr ‹(!yl n)=false›;bj (G:=Int) (fun k s' w'=>(Fr (rg 4 3 (rg 11 9 [])) _ s')/\(Hp w w' _)/\(s' 11=I k)/\(0<=k)/\(k<=n)/\(∀j:Int,0<=j->j<k->s≠below j)) (fun k=>(n-k).toNat) (0) ⟨Fr.refl _ _,a7,rfl,J,J,fun j a b=>absurd b J⟩<| ?_
 rintro k sg6 w6 ⟨OW,jg,L4,h0,hk,hf⟩
 obtain⟨Nl,aht⟩:=OW.w2 1 10
 refine SR<|V (aL L4 aht)<|aa<|ah<|aF O (fun h8=> ?_) (fun h8=> ?_)
 .refine ak<|ah<|aC<|SR<|aG L4<|aI rfl<|aa<|SR<|aG Nl<|mI rfl<|aE O jg (ny _ _) (aq F8 O)<|fun w9 bS=>V (jb O O)<|aa<|aF O (fun h12=> ?_) (fun h12=> ?_)
  .refine SR<|mI rfl<|aI rfl<|va (v:=B true) rfl<|aa<|aj<| ?_
   refine kp O (aJ I ?_) (aJ B ?_) bS.below<;>rw[Kl hn h0 J aQ hf]
  refine ak<|au<|V (ax L4 O J)<|mI rfl<|aa<| ?_
  refine⟨k+1,aW,OW.u4.u4.u1,bS,(aJ I aM),J,J,?_⟩
  exact fun j a b=>if e:j=k then e▸‹¬s=below k›else hf j a J
 refine aY (id:=0) rfl<|SR<|va (v:=I 0) rfl<|va (v:=B false) rfl<|aa<|aj<| ?_
 refine kp O (aJ I ?_) (aJ B ?_) jg.below<;>rw[DN hn (fun j a b=>hf j a J)]
theorem OX(i:Int)(w:World):Calls Tryz.prog 250 #[I i] w (Pure (B (ym i)) w):=by
 refine eH func250 rfl rfl fun hH=>SR<|va (v:=B false) rfl<|aa<|SR<|mI rfl<|V (di O O)<|mB rfl<|bI 5 O (fun h2=> ?_) (fun h2=> ?_)
 .refine mI rfl<|V (aL O O)<|mB rfl<|aB rfl<|aa<|aj<|oB O ?_ hH
  (simp[ym];try omega)
 refine aG (v:=B false) rfl<|aB rfl<|aa<|aj<|oB O ?_ hH
 (simp[ym];try omega)
theorem XB(s:BitVec 64)(i:Int)(w:World):Calls Tryz.prog 232 #[U s,I i] w (Pure (B (hasB s i)) w):=by
 refine eH func232 rfl rfl fun hH=>SR<|va (v:=B false) rfl<|aa<|SR<|mI rfl<|aE O hH (OX _ _) (aq call250 O)<|fun w1 a7=>mB rfl<|fW 7 O (fun h4=> ?_) (fun h4=> ?_)
 .refine mU rfl<|mI rfl<|V (kF bt DB O)<|V (Ew O O)<|V (lY O (b:=1#64) O)<|V (jb O (b:=1#64) O)<|mB rfl<|aB rfl<|aa<|aj<|oB O ?_ a7
  exact aju s ‹ym i=true›
 refine aG (v:=B false) rfl<|aB rfl<|aa<|aj<|oB O ?_ a7
 exact(Wl s ‹ym i=false›).symm
theorem BD(s:BitVec 64)(i:Int)(w:World):Calls Tryz.prog 231 #[U s,I i] w (Pure (U (uf s i)) w):=by
 refine eH func231 rfl rfl fun hH=>SR<|va (v:=U 0#64) rfl<|aa<|ah<|SR<|mI rfl<|aE O hH (OX _ _) (aq call250 O)<|fun w1 a7=>V (bK O)<|aa<|bQ O (fun h5=> ?_) (fun h5=> ?_)
 .refine SR<|mU rfl<|aU rfl<|aa<|aj<|oU O ?_ a7
  simp_all [uf]
 refine ak<|SR<|mU rfl<|mI rfl<|V (kF bt DB O)<|V (J9 (a:=1#64) O O)<|V (jj O O)<|aU rfl<|aa<|aj<|oU O ?_ a7
 simp_all [uf]
theorem Ec(a b:BitVec 64)(w:World):Calls Tryz.prog 140 #[U a,U b] w (Pure (B (dS a b)) w):=by
 refine eH func140 rfl rfl fun hH=>SR<|va (v:=B false) rfl<|aa<|SR<|mU rfl<|mU rfl<|V (RZ O O)<|V (jb O (b:=0#64) O)<|aB rfl<|aa<|aj<|oB O ?_ hH
 rfl
theorem xD(v:Value)(l:List Int)(w:World)(hs:Sl w v 1 l.length (l.map I)):Calls Tryz.prog 203 #[v] w (Pure (U (kq l)) w):=by
 have hm:=hs.small
 unfold maxLen at hm
 refine eH func203 rfl rfl fun hH=>SR<|va (v:=U 0#64) rfl<|aa<|SR<|va (v:=U 0#64) rfl<|aa<|ah<|SR<| ?_
 refine V (run_move bC) ?_
 refine V (aD (hs.hp hH) O bq O)<|aG (v:=I 0) rfl<|aa<|aC<|bj (G:=Int) (fun k s' w'=>(Fr (3::(5::(rg 8 8 []))) _ s')/\(Hp w w' _)/\(s' 3=U (kq (l.take k.toNat)))/\(s' 8=I k)/\(0<=k)/\(k<=l.length)) (fun k=>(l.length-k).toNat) (0) ⟨Fr.refl _ _,hH,(aJ U (by simp[Yu])),rfl,J,J⟩<| ?_
 rintro k sg1 w1 ⟨tg,iA,rI,Nn,h0,hk⟩
 obtain⟨No,T6⟩:=tg.w2 6 7
 refine SR<|V (aL Nn T6)<|aa<|ah<|aF O (fun h3=> ?_) (fun h3=> ?_)
 .refine ak<|ah<|aC<|SR<|V (ag (hs.hp iA) bq bp No Nn J)<|V (az bt O O ((hs.hp iA).cell _ _ (ew J)))<|aI rfl<|aa<|au<|aG rI<|mI rfl<|aE O iA (BD _ _ _) (aK call231 O O)<|fun w4 bP=>aU rfl<|aa<|au<|V (ax Nn O J)<|mI rfl<|aa<| ?_
  refine⟨k+1,aW,tg.u4.u4.u1.u1,bP,(aJ U (by rw[aat,<-NL h0 aQ])),(aJ I aM),J,J⟩
 refine aY (id:=0) rfl<|SR<|aG rI<|aU rfl<|aa<|aj<|oU O ?_ iA
 rw[Kn aQ]
theorem sx(s:BitVec 64)(i:Int)(w:World):Calls Tryz.prog 102 #[U s,I i] w (Pure (B (hasB s i)) w):=by
 refine eH func102 rfl rfl fun hH=>SR<|va (v:=B false) rfl<|aa<|ah<|SR<|mI rfl<|V (aL O O)<|mB rfl<|bI 8 O (fun h2=> ?_) (fun h2=> ?_)
 .refine aG (v:=B true) rfl<|aa<|cr rfl<|SR<|va (v:=B false) rfl<|aa<|aj<|oB O ?_ hH
  exact(Wl s (by simp[ym];omega)).symm
 refine mI rfl<|V (dx O O)<|mB rfl<|aa<|aF O (fun h4=> ?_) (fun h4=> ?_)
 .refine SR<|va (v:=B false) rfl<|aa<|aj<|oB O ?_ hH
  exact(Wl s (by simp[ym];omega)).symm
 refine ak<|ah<|SR<|va (v:=I 0) rfl<|aa<|aC<|bj (G:=Int) (fun k s' w'=>(Fr (0::(5::(rg 12 7 []))) _ s')/\(Hp w w' _)/\(s' 0=U (s>>>k.toNat))/\(s' 5=I k)/\(0<=k)/\(k<=i)) (fun k=>(i-k).toNat) (0) ⟨Fr.refl _ _,hH,(aJ U aA),rfl,J,J⟩<| ?_
 rintro k sg5 w5 ⟨fr5,bP,XC,ab4,h0,hk⟩
 have aqB:=fr5.w1 1
 refine ah<|SR<|aG ab4<|aG aqB<|V (aL O O)<|aa<|aF O (fun h7=> ?_) (fun h7=> ?_)
 .refine ak<|ah<|aC<|au<|aG XC<|V (J7 O (b:=2#64) O ay)<|aU rfl<|aa<|au<|aG ab4<|V (ax O O J)<|aI rfl<|aa<| ?_
  refine⟨k+1,aW,fr5.u4.u4.u1,bP,(aJ U V0),(aJ I aM),J,J⟩
 refine aY (id:=0) rfl<|SR<|aG XC<|V (J8 O (b:=2#64) O ay)<|V (jb O (b:=1#64) O)<|aB rfl<|aa<|aj<|oB O ?_ bP
 (rw[hasB,show ym i=true by simp[ym];omega,show k=i by omega];rw[gd];simp only[dP,po];exact IU s _)
theorem gW(v:Value)(l:List Int)(w:World)(hs:Sl w v 1 l.length (l.map I)):Calls Tryz.prog 154 #[v] w (Pure (U (kq l)) w):=by
 have hm:=hs.small
 unfold maxLen at hm
 refine eH func154 rfl rfl fun hH=>SR<|va (v:=U 0#64) rfl<|aa<|SR<|va (v:=U 0#64) rfl<|va (v:=U 1#64) rfl<|aa<|ah<|SR<|va (v:=I 0) rfl<|aa<|aC<|bj (G:=Int) (fun i s' w'=>(Fr (rg 3 25 []) _ s')/\(Hp w w' _)/\(s' 3=U (zy l i.toNat))/\(s' 4=U (1#64<<<i.toNat))/\(s' 5=I i)/\(0<=i)/\(i<=64)) (fun i=>(64-i).toNat) (0) ⟨Fr.refl _ _,hH,(aJ U aM),(aJ U aM),rfl,J,J⟩<| ?_
 rintro i sg1 w1 ⟨tg,iA,rI,yU,L5,i0,i1⟩
 obtain⟨lD,ahu⟩:=tg.w2 0 2
 refine ah<|SR<|aG L5<|V (aL O O)<|aa<|aF O (fun h3=> ?_) (fun h3=> ?_)
 .refine ak<|ah<|aC<|ah<|SR<|va (v:=I 0) rfl<|aa<|aC<|bj (G:=Int) (fun k s' w'=>(Fr (3::(6::(rg 11 15 []))) _ s')/\(Hp w w' _)/\(s' 3=U (zy l i.toNat))/\(s' 6=I k)/\(0<=k)/\(k<=l.length)/\(∀j:Int,0<=j->j<k->l.getD j.toNat 0≠i)) (fun k=>(l.length-k).toNat) (0) ⟨Fr.refl _ _,iA,rI,rfl,J,J,fun j a b=>absurd b J⟩<| ?_
  rintro k sg4 w4 ⟨BE,gL,xE,Ed,k0,k1,hf⟩
  obtain⟨ab5,T7,Fj⟩:=BE.t3 0 lD 4 yU 5 L5
  refine ah<|SR<|aG Ed<|aG ab5<|V (aD (hs.hp gL) O bq O)<|V (aL O O)<|aa<|aF O (fun h6=> ?_) (fun h6=> ?_)
  .refine ak<|ah<|aC<|SR<|aG ab5<|aG Ed<|V (ag (hs.hp gL) bq bp O O J)<|V (az bt O O ((hs.hp gL).cell _ _ (ew J)))<|aG Fj<|V (bO O O)<|aa<|aF O (fun h8=> ?_) (fun h8=> ?_)
   .refine SR<|aG xE<|aG T7<|V (adE O O)<|aU rfl<|aa<|aY (id:=2) rfl<|au<|aG T7<|V (J6 O (b:=2#64) O)<|aU rfl<|aa<|au<|aG Fj<|V (ax O O J)<|aI rfl<|aa<| ?_
    refine⟨i+1,aW,(((tg.u1.u1.u1).t BE O)).u4.u4.u4.u4.u4,gL,(aJ U (Wm i0 J k0 J aQ)),(aJ U adq),(aJ I aM),J,J⟩
   refine ak<|au<|aG Ed<|V (ax O O J)<|aI rfl<|aa<| ?_
   refine⟨k+1,aW,BE.u4.u4.u4.u1,gL,xE,(aJ I aM),J,J,?_⟩
   exact fun j a b=>if e:j=k then e▸‹¬l.getD k.toNat 0=i›else hf j a J
  refine aY (id:=2) rfl<|au<|aG T7<|V (J6 O (b:=2#64) O)<|aU rfl<|aa<|au<|aG Fj<|V (ax O O J)<|aI rfl<|aa<| ?_
  refine⟨i+1,aW,(((tg.u1.u1.u1).t BE O)).u4.u4.u1.u1,gL,(kZ xE (aJ U (aaw i0 (fun j a b=>hf j a J)))),(aJ U adq),(aJ I aM),J,J⟩
 refine aY (id:=0) rfl<|SR<|aG rI<|aU rfl<|aa<|aj<|oU O ?_ iA
 (rw[show i.toNat=64 by omega];rfl)
theorem Af(s:BitVec 64)(w:World):Calls Tryz.prog 101 #[U s] w (rM 3 1 (fZ s).length ((fZ s).map I) w):=by
 refine eH func101 rfl rfl fun hH=>SR<|va (v:= .slice none 0 0) rfl<|have iA:=hH.fl 3 1;aa<|SR<|va (v:= .slice none 0 0) rfl<|have a7:=iA.fl 3 1;aa<|ah<|SR<|va (v:=I 0) rfl<|aa<|aC<|bj (G:=Int×(List Int)×Value) (fun⟨k,l,v3⟩ s' w'=>(Fr (0::(rg 3 15 [])) _ s')/\(Hp w w' (.row v3 3 1 (l.length) (l.map I)::_))/\(s' 0=U (s>>>k.toNat))/\(s' 3=v3)/\(s' 4=I k)/\(0<=k)/\(k<=64)/\(l=rR s k.toNat)) (fun⟨k,l,v3⟩=>(64-k).toNat) ((0,[],(.slice none 0 0:Value))) ⟨Fr.refl _ _,a7,(aJ U aA),rfl,rfl,J,J,rfl⟩<| ?_
 rintro⟨k,l,v3⟩ sg3 w3 ⟨fr3,tK,Ag,aqC,alF,h0,hk,hl⟩
 refine ah<|SR<|aG alF<|V (aL O O)<|aa<|aF O (fun h5=> ?_) (fun h5=> ?_)
 .refine ak<|ah<|aC<|ah<|SR<|aG Ag<|V (J8 O (b:=2#64) O ay)<|V (jb O (b:=1#64) O)<|aa<|aF O (fun h7=> ?_) (fun h7=> ?_)
  .refine au<|aG aqC<|aG alF<|vP 1 1 tK (bZ bq O O (sz:=1) (vs:=[I _]) O O ay ay O O)<|fun b10 w8 iv=> ?_
   (try simp only[ot]at iv)
   refine jm O iv (i:=1) O (iv.dQ (i:=0) (n:=1) (sz:=1) O O ay) O O bq O O (size:=1) (bytes:=8) O O O ay jY (by have:=Gn s k.toNat;rw[<-hl]at this;omega) (by have:=Gn s k.toNat;rw[<-hl]at this;simp only[maxLen];omega)<|fun v11 Cx bY=> ?_
   refine V (run_assign bC) ?_
   refine aa<|au<|aG Ag<|V (J7 O (b:=2#64) O ay)<|aU rfl<|aa<|au<|aG alF<|V (ax O O J)<|aI rfl<|aa<| ?_
   refine⟨(k+1,l++[k],v11),aW,fr3.u4.u4.u4.u4,(Hp.conv (bY.sub (sQ sR)) aA),(aJ U V0),rfl,(aJ I aM),J,J,?_⟩
   rw[hl,aax h0 aQ]
  refine ak<|au<|aG Ag<|V (J7 O (b:=2#64) O ay)<|aU rfl<|aa<|au<|aG alF<|V (ax O O J)<|aI rfl<|aa<| ?_
  refine⟨(k+1,l,v3),aW,fr3.u4.u4.u1.u1.u1,(Hp.conv tK aM),(aJ U V0),aqC,(aJ I aM),J,J,?_⟩
  rw[hl,adT h0 aQ]
 refine aY (id:=0) rfl<|SR<|aG aqC<| ?_
 refine V (run_assign bC) ?_
 refine aa<|aj<|Nc O O tK (i:=0) O (by rw[hl,NM aQ hk]) (by rw[hl,NM aQ hk])
theorem qm(n:Int)(w:World):Calls Tryz.prog 119 #[I n] w (Pure (U (below n)) w):=by
 refine eH func119 rfl rfl fun hH=>SR<|va (v:=U 0#64) rfl<|aa<|SR<|va (v:= .slice none 0 0) rfl<|have iA:=hH.fl 3 1;aa<|ah<|SR<|va (v:=I 0) rfl<|aa<|aC<|bj (G:=Int×(List Int)×Value) (fun⟨k,l,v3⟩ s' w'=>(Fr (rg 3 15 []) _ s')/\(Hp w w' (.row v3 3 1 (l.length) (l.map I)::_))/\(s' 3=v3)/\(s' 4=I k)/\(0<=k)/\(k<=64)/\(k<=max n 0)/\(l=upto k)) (fun⟨k,l,v3⟩=>(64-k).toNat) ((0,[],(.slice none 0 0:Value))) ⟨Fr.refl _ _,iA,rfl,rfl,J,J,J,rfl⟩<| ?_
 rintro⟨k,l,v3⟩ sg2 w2 ⟨SL,a7,T8,alG,h0,hk,hn,hl⟩
 have aB3:=SL.w1 0
 refine ah<|SR<|aG alG<|aG aB3<|V (aL O O)<|mB rfl<|bI 8 O (fun h4=> ?_) (fun h4=> ?_)
 .refine aG alG<|V (aL O O)<|mB rfl<|aa<|aF O (fun h6=> ?_) (fun h6=> ?_)
  .refine ak<|ah<|aC<|au<|aG T8<|aG alG<|vP 1 1 a7 (bZ bq O O (sz:=1) (vs:=[I _]) O O ay ay O O)<|fun b9 w7 eX=> ?_
   (try simp only[ot]at eX)
   refine jm O eX (i:=1) O (eX.dQ (i:=0) (n:=1) (sz:=1) O O ay) O O bq O O (size:=1) (bytes:=8) O O O ay jY (by have:= @rS k;rw[<-hl]at this;omega) (by have:= @rS k;rw[<-hl]at this;simp only[maxLen];omega)<|fun v10 H9 cQ=> ?_
   refine V (run_assign bC) ?_
   refine aa<|au<|aG alG<|V (ax O O J)<|aI rfl<|aa<| ?_
   refine⟨(k+1,l++[k],v10),aW,SL.u4.u4.u4.u1.u1.u1,(Hp.conv (cQ.sub (sQ sR)) aA),rfl,(aJ I aM),J,J,J,?_⟩
   rw[hl,j9 h0]
  refine aY (id:=0) rfl<|SR<|aG T8<|aE O a7 (gW _ _ _ (a7.sl (i:=0) O)) (aq F9 O)<|fun C8 cw=>aU rfl<|aa<|aj<|oU O ?_ cw
  exact EC fun i a b=>by rw[hl,cH];omega
 refine aG (v:=B false) rfl<|aa<|dm rfl<|aY (id:=0) rfl<|SR<|aG T8<|aE O a7 (gW _ _ _ (a7.sl (i:=0) O)) (aq F9 O)<|fun XD cF=>aU rfl<|aa<|aj<|oU O ?_ cF
 exact EC fun i a b=>by rw[hl,cH];omega
theorem Q5(n:Int)(s:BitVec 64)(w:World):Calls Tryz.prog 178 #[I n,U s] w (Pure (B (level n s).2) w):=by
 refine eH func178 rfl rfl fun hH=>SR<|va (v:=B false) rfl<|aa<|SR<|mI rfl<|mU rfl<|aE O hH (Q4 _ _ _) (aK call212 O O)<|fun w1 a7=> ?_
 refine V (run_move bC) ?_
 refine V (bD O (v:=I _) O)<|V (bD O (v:=B _) O)<|aI rfl<|aB rfl<|aa<|SR<|mB rfl<|aB rfl<|aa<|aj<|oB O ?_ a7
 rfl
theorem Ah(n k:Int)(w:World):Calls Tryz.prog 185 #[I n,I k] w (Pure (.tuple #[U (ud n k).1,B (ud n k).2]) w):=by
 refine eH func185 rfl rfl fun hH=>SR<|va (v:=U 0#64) rfl<|va (v:=B false) rfl<|aa<|ah<|SR<|mI rfl<|V (aL O O)<|mB rfl<|bI 8 O (fun h2=> ?_) (fun h2=> ?_)
 .refine aG (v:=B true) rfl<|mB rfl<|cD O rfl<|aG (v:=B true) rfl<|mB rfl<|cD O rfl<|aG (v:=B true) rfl<|aa<|cr rfl<|SR<|va (v:=U 0#64) rfl<|va (v:=B false) rfl<|aa<|aj<| ?_
  refine kp O (aJ U ?_) (aJ B ?_) hH.below<;>rw[A8 J]
 refine mI rfl<|V (dx O O)<|mB rfl<|mB rfl<|bI 12 O (fun h4=> ?_) (fun h4=> ?_)
 .refine aG (v:=B true) rfl<|mB rfl<|cD O rfl<|aG (v:=B true) rfl<|aa<|cr rfl<|SR<|va (v:=U 0#64) rfl<|va (v:=B false) rfl<|aa<|aj<| ?_
  refine kp O (aJ U ?_) (aJ B ?_) hH.below<;>rw[A8 J]
 refine mI rfl<|V (aL O O)<|mB rfl<|mB rfl<|bI 16 O (fun h6=> ?_) (fun h6=> ?_)
 .refine aG (v:=B true) rfl<|aa<|cr rfl<|SR<|va (v:=U 0#64) rfl<|va (v:=B false) rfl<|aa<|aj<| ?_
  refine kp O (aJ U ?_) (aJ B ?_) hH.below<;>rw[A8 J]
 refine mI rfl<|mI rfl<|V (di O O)<|mB rfl<|aa<|aF O (fun h8=> ?_) (fun h8=> ?_)
 .refine SR<|va (v:=U 0#64) rfl<|va (v:=B false) rfl<|aa<|aj<| ?_
  refine kp O (aJ U ?_) (aJ B ?_) hH.below<;>rw[A8 J]
 refine ak<|SR<|mI rfl<|aE O hH (qm _ _) (aq call119 O)<|fun w9 bS=>aU rfl<|va (v:=B true) rfl<|aa<|aj<| ?_
 refine kp O (aJ U ?_) (aJ B ?_) bS.below<;>rw[tF J]
theorem yV(n:Int)(s:BitVec 64)(w:World):Calls Tryz.prog 152 #[I n,U s] w (Pure (.tuple #[I (level n s).1,B (level n s).2]) w):=by
 refine eH func152 rfl rfl fun hH=>SR<|va (v:=I 0) rfl<|va (v:=B false) rfl<|aa<|ah<|SR<|va (v:=I 0) rfl<|aa<|aC<|bj (G:=Int) (fun k s' w'=>(Fr (rg 4 27 []) _ s')/\(Hp w w' _)/\(s' 6=I k)/\(0<=k)/\(k<=n\/k=0)/\(k<=64)/\(n<=64->∀j:Int,0<=j->j<k->s≠below j)) (fun k=>(64-k).toNat) (0) ⟨Fr.refl _ _,hH,rfl,J,J,J,fun _ j a b=>absurd b J⟩<| ?_
 rintro k sg1 w1 ⟨tg,iA,No,h0,hk,h6,hf⟩
 obtain⟨lD,yW⟩:=tg.w2 0 1
 refine ah<|SR<|aG No<|aG lD<|V (aL O O)<|mB rfl<|bI 12 O (fun h3=> ?_) (fun h3=> ?_)
 .refine aG No<|V (aL O O)<|mB rfl<|aa<|aF O (fun h5=> ?_) (fun h5=> ?_)
  .refine ak<|ah<|aC<|SR<|aG lD<|aG No<|aE O iA (Ah _ _ _) (aK call185 O O)<|fun w6 eR=> ?_
   refine V (run_move bC) ?_
   refine V (bD O (v:=U _) O)<|V (bD O (v:=B _) O)<|aU rfl<|aB rfl<|aa<|SR<|mB rfl<|mB rfl<|fW 25 O (fun h9=> ?_) (fun h9=> ?_)
   .refine mU rfl<|aG yW<|V (jb O O)<|mB rfl<|aa<|aF O (fun h11=> ?_) (fun h11=> ?_)
    .refine SR<|aG No<|aI rfl<|va (v:=B true) rfl<|aa<|aj<| ?_
     refine kp O (aJ I ?_) (aJ B ?_) eR.below<;>rw[aay h0 aQ hf aQ]
    refine ak<|au<|aG No<|V (ax O O J)<|aI rfl<|aa<| ?_
    refine⟨k+1,aW,tg.u4.u4.u4.u4.u4.u4,eR,(aJ I aM),J,J,J,?_⟩
    exact R6 h0 aQ aQ hf
   refine aG (v:=B false) rfl<|aa<|dm rfl<|ak<|au<|aG No<|V (ax O O J)<|aI rfl<|aa<| ?_
   refine⟨k+1,aW,tg.u4.u4.u4.u4.u4.u4,eR,(aJ I aM),J,J,J,?_⟩
   exact R7 h0 aQ hf aQ
  refine aY (id:=0) rfl<|SR<|va (v:=I 0) rfl<|va (v:=B false) rfl<|aa<|aj<| ?_
  refine kp O (aJ I ?_) (aJ B ?_) iA.below<;>rw[CR h0 hk h6 hf J]
 refine aG (v:=B false) rfl<|aa<|dm rfl<|aY (id:=0) rfl<|SR<|va (v:=I 0) rfl<|va (v:=B false) rfl<|aa<|aj<| ?_
 refine kp O (aJ I ?_) (aJ B ?_) iA.below<;>rw[CR h0 hk h6 hf J]
theorem yX(s:BitVec 64)(w:World)(hT:oq w):Calls Tryz.prog 258 #[U s] w (Pure (I (tz s)) w):=by
 refine eH func258 rfl rfl fun hH=>SR<|va (v:=I 0) rfl<|aa<|ah<|SR<|mU rfl<|V (jb O (b:=0#64) O)<|aa<|aF O (fun h2=> ?_) (fun h2=> ?_)
 .refine SR<|va (v:=I 64) rfl<|aa<|aj<|oI O ?_ hH
  rw[‹s=0#64›];rfl
 refine ak<|SR<|mU rfl<|mU rfl<|V (adF O)<|V (lY O O)<|V (J6 O (b:=285870213051353865#64) O)<|V (Ew O (b:=58#64) O)<|V (bu underlying280 sizeOf5 O O (by exact adW _))<|V (az underlying5 O O (hT.at _))<|V (Wc underlying5 bt O (ajz (adY _)))<|aI rfl<|aa<|aj<|oI O ?_ hH
 exact atG aQ
theorem T9(f:FuncId)(cap:Array Value)(Inv Stop:List Int->World->Prop)(s:BitVec 64)(w:World)(hf:∀args w,(callFunc f args).run Tryz.prog w= .ok (.enter f args) w)(hm:∀l w w',Inv l w->Below w.heap.size w w'->Inv l w')(hT:∀l w,Inv l w->oq w)(go:∀l i r w,fZ s=l++i::r->Inv l w->Calls Tryz.prog f (#[I i]++cap) w (jF fun u w'=>∃c:Bool,u=B c/\(c=true->Inv (l++[i]) w')/\(c=false->Stop (l++[i]) w')))(h0:Inv [] w):Calls Tryz.prog 251 #[U s,.func (.func f) #[] cap] w (jF fun u w'=>u= .tuple #[]/\(Inv (fZ s) w'\/∃l i r,fZ s=l++i::r/\Stop (l++[i]) w')):=by
 refine eH func251 rfl rfl fun hH=>aC<|bj (G:=(BitVec 64)×(List Int)) (fun⟨s1,l⟩ s' w'=>(Fr (0::(rg 4 11 [])) _ s')/\(Inv l w')/\(s' 0=U s1)/\(fZ s=l++fZ s1)) (fun⟨s1,l⟩=>(fZ s1).length) ((s,[])) ⟨Fr.refl _ _,h0,rfl,aA⟩<| ?_
 rintro⟨s1,l⟩ sg1 w1 ⟨tg,iA,lD,hl⟩
 have hI1:=iA
 clear iA
 have iA:=Hp.start w1
 have yW:=tg.vv 1 (a:= .func _ _ _) rfl rfl
 refine ah<|SR<|aG lD<|V (tX O (b:=0#64) O)<|aa<|aF O (fun h3=> ?_) (fun h3=> ?_)
 .refine ak<|aC<|ah<|SR<|aG yW<|aG lD<|aE O iA (yX _ _ (hT _ _ hI1)) (aq call258 O)<|fun w4 bP=>have hI:=hm _ _ _ hI1 bP.below;Gj O (Wi hf O (v1:=I (tz s1)) O) (go l (tz s1) (fZ (s1&&&(s1-1#64))) _ (by rw[hl,Qa aQ]) hI)<| ?_
  rintro u8 w6 ⟨c,rfl,hJ1,hJ2⟩
  have eR:=Hp.start w6
  refine V (bK O)<|aa<|bQ O (fun h11=> ?_) (fun h11=> ?_)
  .refine aj<|p5 O ⟨rfl,.inr ⟨l,tz s1,fZ (s1&&&(s1-1#64)),by rw[hl,Qa aQ],hJ2 (by simpa using‹(!c)=true›)⟩⟩
  refine ak<|au<|aG lD<|aG lD<|V (RY O (b:=1#64) O)<|V (lY O O)<|aU rfl<|aa<| ?_
  refine⟨(s1&&&(s1-1#64),l++[tz s1]),?_,tg.u4.u4.u4,(hJ1 (by simpa using‹(!c)=false›)),rfl,?_⟩
  .exact Qb aQ
  rw[hl,Qa aQ];simp
 refine aY (id:=0) rfl<|have hn:fZ s1=[]:=yp.2 (by simpa using‹¬s1≠0#64›);p5 O ⟨rfl,.inl (by rw[hl,hn,lU];assumption)⟩
theorem Np(W0:World)(b:Nat)(v:Value)(l:List Int)(i:Int)(w:World)(hH:Hp W0 w [.row v 3 1 l.length (l.map I),.blk b (.cells #[v] 99 (0,0))])(hlen:l.length<=64):Calls Tryz.prog 252 #[I i,.pointer (some ⟨b,0,none⟩)] w (jF fun u w'=>u=B true/\∃v',Hp W0 w' [.row v' 3 1 (l++[i]).length ((l++[i]).map I),.blk b (.cells #[v'] 99 (0,0))]):=by
 refine en func252 rfl rfl<|SR<|va (v:=B false) rfl<|aa<|SR<|lV bq hH 1 O O rfl<|mI rfl<|vP 1 1 hH (bZ bq O O (sz:=1) (vs:=[I _]) O O ay ay O O)<|fun b3 w1 a7=> ?_
 (try simp only[ot]at a7)
 refine jm O a7 (i:=1) O (a7.dQ (i:=0) (n:=1) (sz:=1) O O ay) O O bq O O (size:=1) (bytes:=8) O O O ay jY J jv<|fun v4 w5 jg=> ?_
 refine bk jg (i:=2) O (bM O O bC (a6 (jg.get (i:=1) O)).1 (a6 (jg.get (i:=1) O)).2 (jg.blk (i:=2) O) aA) ?_
 intro w7 eX
 refine aa<|SR<|va (v:=B true) rfl<|aa<|aj<|ja O O ⟨rfl,(v4:Value),Hp.conv eX.tail aA⟩
theorem BF(s:BitVec 64)(w:World)(hT:oq w):Calls Tryz.prog 233 #[U s] w (rM 3 1 (fZ s).length ((fZ s).map I) w):=by
 refine eH func233 rfl rfl fun hH=>SR<|va (v:= .slice none 0 0) rfl<|aa<|SR<|ou hH (aZ Tryz.zeroValue99)<|fun b3 w1 a7=>have gL:=a7.fl 3 1;aa<|SR<|mU rfl<| ?_
 refine V (A6 bC) ?_
 refine Gj O (aK call251 (v1:=U s) O (v2:= .func (.func 252) #[] #[.pointer (some ⟨b3,0,none⟩)]) rfl) (T9 252 _ (fun l w'=>∃v,Hp w w' [.row v 3 1 l.length (l.map I),.blk b3 (.cells #[v] 99 (0,0))]) (fun _ _=>False) s _ call252 (fun l w' w'' h hb=>h.imp fun v h=>h.call hb) (fun l w' h=>h.elim fun v h=>hT.hp h) (fun l i r w' he h=>h.elim fun v h=>by
  have aB5:l.length<=64:=by have:=EA s;rw[he]at this;simp at this;omega
  have hc:=Np w b3 v l i w' h aB5
  refine jF.calls hc<|fun u w2 hq=>⟨true,hq.1,fun _=>hq.2,fun h=>n4⟩) ⟨.slice none 0 0,gL⟩) ?_
 rintro u w5 ⟨rfl,hor⟩
 obtain⟨v7,jg⟩:=hor.resolve_right (fun⟨_,_,_,_,h⟩=>h)
 refine aa<|SR<|lV bq jg 1 O O rfl<| ?_
 refine V (run_assign bC) ?_
 refine aa<|aj<|Nc O O jg (i:=0) O (O) (O)
theorem BG(a b:BitVec 64)(w:World):Calls Tryz.prog 55 #[U a,U b] w (Pure (B (dS a b)) w):=by
 have hl:=EA a
 refine eH func55 rfl rfl fun hH=>SR<|va (v:=B false) rfl<|aa<|SR<|mU rfl<|A3 O hH (Af _ _) (aq call101 O)<|fun v3 w1 a7=> ?_
 refine V (run_assign bC) ?_
 refine aa<|ah<|SR<|va (v:=I 0) rfl<|aa<|aC<|bj (G:=Int) (fun k s' w'=>(Fr (4::(6::(rg 9 13 []))) _ s')/\(Hp w w' _)/\(s' 6=I k)/\(0<=k)/\(k<=(fZ a).length)/\(∀j:Int,0<=j->j<k->hasB b ((fZ a).getD j.toNat 0)=true)) (fun k=>((fZ a).length-k).toNat) (0) ⟨Fr.refl _ _,a7,rfl,J,J,fun j a b=>absurd b J⟩<| ?_
 rintro k sg4 w4 ⟨BE,gL,Ed,h0,hk,hf⟩
 obtain⟨yY,Fj⟩:=BE.w2 1 5
 refine ah<|SR<|aG Ed<|aG Fj<|V (aD (gL.sl (i:=0) O) O bq O)<|V (aL O O)<|aa<|aF O (fun h6=> ?_) (fun h6=> ?_)
 .refine ak<|ah<|aC<|SR<|aG yY<|aG Fj<|aG Ed<|V (ag (gL.sl (i:=0) O) bq bp O O J)<|V (az bt O O ((gL.sl (i:=0) O).cell _ _ (ew J)))<|aE O gL (sx _ _ _) (aK call102 O O)<|fun w7 eX=>V (bK O)<|aa<|bQ O (fun h11=> ?_) (fun h11=> ?_)
  .refine SR<|va (v:=B false) rfl<|aa<|aj<|oB O ?_ eX
   (exact(ajy h0 aQ aQ).symm)
  refine ak<|au<|aG Ed<|V (ax O O J)<|aI rfl<|aa<| ?_
  refine⟨k+1,aW,BE.u4.u4.u4.u1.u1,eX,(aJ I aM),J,J,?_⟩
  exact fun j x y=>if e:j=k then e▸(by simpa using‹(!hasB b ((fZ a).getD k.toNat 0))=false›)else hf j x J
 refine aY (id:=0) rfl<|SR<|va (v:=B true) rfl<|aa<|aj<|oB O ?_ gL
 (exact(adX fun j x y=>hf j x J).symm)
theorem bJ(r:Rl)(w:World):Calls Tryz.prog 149 #[.agg (dK r)] w (Pure (I (pts r)) w):=by
 refine eH func149 rfl rfl fun hH=>SR<|gX hH (v:= .agg _) rfl<|fun b3 w1 a7=>va (v:=I 0) rfl<|aa<|ah<|SR<|V (fA bL 0 O bp O)<|lV bt a7 0 O O (fp _)<|V (aL O O)<|aa<|aF O (fun h5=> ?_) (fun h5=> ?_)
 .refine SR<|va (v:=I 0) rfl<|aa<|aj<|oI O ?_ a7
  (unfold pts;omega)
 refine ak<|ah<|SR<|V (fA bL 0 O bp O)<|lV bt a7 0 O O (fp _)<|V (dx O O)<|aa<|aF O (fun h7=> ?_) (fun h7=> ?_)
 .refine SR<|va (v:=I 64) rfl<|aa<|aj<|oI O ?_ a7
  (unfold pts;omega)
 refine ak<|SR<|V (fA bL 0 O bp O)<|lV bt a7 0 O O (fp _)<|aI rfl<|aa<|aj<|oI O ?_ a7
 (unfold pts;omega)
theorem ke(r:Rl)(w:World):Calls Tryz.prog 199 #[.agg (dK r)] w (Pure (I (pts r)) w):=by
 refine eH func199 rfl rfl fun hH=>SR<|gX hH (v:= .agg _) rfl<|fun b3 w1 a7=>va (v:=I 0) rfl<|aa<|SR<|V (fA bL 0 O bp O)<|lV bt a7 0 O O (fp _)<|V (tZ O O)<|V (Ey O O)<|aI rfl<|aa<|aj<|oI O ?_ a7
 rfl
theorem bA(r:Rl)(i j:Int)(w:World):Calls Tryz.prog 150 #[.agg (dK r),I i,I j] w (Pure (B (bE r i j)) w):=by
 have hp:=dr r
 refine eH func150 rfl rfl fun hH=>SR<|gX hH (v:= .agg _) rfl<|fun b3 w1 a7=>va (v:=B false) rfl<|aa<|SR<|V (aO bL O O O (a7.blk (i:=0) O))<|aE O a7 (bJ _ _) (aq nZ O)<|fun w4 bP=>aI rfl<|aa<|SR<|mI rfl<|V (di O O)<|mB rfl<|bI 12 O (fun h7=> ?_) (fun h7=> ?_)
 .refine mI rfl<|V (di O O)<|mB rfl<|mB rfl<|bI 16 O (fun h9=> ?_) (fun h9=> ?_)
  .refine mI rfl<|mI rfl<|V (aL O O)<|mB rfl<|mB rfl<|bI 21 O (fun h11=> ?_) (fun h11=> ?_)
   .refine mI rfl<|mI rfl<|V (aL O O)<|mB rfl<|mB rfl<|bI 26 O (fun Ua=> ?_) (fun Ua=> ?_)
    .refine mI rfl<|V (fA bL 1 O sJ O)<|V (bu qT cX O O J)<|lV dU bP 0 O O (vx _ J)<|mI rfl<|V (kF bt DB O)<|V (Ew O O)<|V (J8 O (b:=2#64) O ay)<|V (jb O (b:=1#64) O)<|mB rfl<|aB rfl<|aa<|aj<|oB O ?_ bP
     exact ajB J J J J
    refine aG (v:=B false) rfl<|aB rfl<|aa<|aj<|oB O ?_ bP
    exact(IW J).symm
   refine aG (v:=B false) rfl<|mB rfl<|cD O rfl<|aG (v:=B false) rfl<|aB rfl<|aa<|aj<|oB O ?_ bP
   exact(IW J).symm
  refine aG (v:=B false) rfl<|mB rfl<|cD O rfl<|aG (v:=B false) rfl<|mB rfl<|cD O rfl<|aG (v:=B false) rfl<|aB rfl<|aa<|aj<|oB O ?_ bP
  exact(IW J).symm
 refine aG (v:=B false) rfl<|mB rfl<|cD O rfl<|aG (v:=B false) rfl<|mB rfl<|cD O rfl<|aG (v:=B false) rfl<|mB rfl<|cD O rfl<|aG (v:=B false) rfl<|aB rfl<|aa<|aj<|oB O ?_ bP
 exact(IW J).symm
theorem CE(v:Value)(l:List Int)(x:Int)(w:World)(hs:Sl w v 1 l.length (l.map I)):Calls Tryz.prog 110 #[v,I x] w (Pure (B (l.contains x)) w):=by
 have hm:=hs.small
 unfold maxLen at hm
 refine eH func110 rfl rfl fun hH=>SR<|va (v:=B false) rfl<|aa<|ah<|SR<|va (v:=I 0) rfl<|aa<|aC<|bj (G:=Int) (fun k s' w'=>(Fr (rg 4 14 []) _ s')/\(Hp w w' _)/\(s' 5=I k)/\(0<=k)/\(k<=l.length)/\(∀j:Int,0<=j->j<k->l.getD j.toNat 0≠x)) (fun k=>(l.length-k).toNat) (0) ⟨Fr.refl _ _,hH,rfl,J,J,fun j a b=>absurd b J⟩<| ?_
 rintro k sg1 w1 ⟨tg,iA,L5,h0,hk,hf⟩
 obtain⟨lD,yW⟩:=tg.w2 0 1
 refine ah<|SR<|aG L5<|aG lD<|V (aD (hs.hp iA) O bq O)<|V (aL O O)<|aa<|aF O (fun h3=> ?_) (fun h3=> ?_)
 .refine ak<|ah<|aC<|SR<|aG lD<|aG L5<|V (ag (hs.hp iA) bq bp O O J)<|V (az bt O O ((hs.hp iA).cell _ _ (ew J)))<|aG yW<|V (bO O O)<|aa<|aF O (fun h5=> ?_) (fun h5=> ?_)
  .refine SR<|va (v:=B true) rfl<|aa<|aj<|oB O ?_ iA
   (exact(aoW h0 aQ aQ).symm)
  refine ak<|au<|aG L5<|V (ax O O J)<|aI rfl<|aa<| ?_
  refine⟨k+1,aW,tg.u4.u4.u4.u1,iA,(aJ I aM),J,J,?_⟩
  exact fun j a b=>if e:j=k then e▸‹¬l.getD k.toNat 0=x›else hf j a J
 refine aY (id:=0) rfl<|SR<|va (v:=B false) rfl<|aa<|aj<|oB O ?_ iA
 (exact(atI fun j a b=>hf j a J).symm)
theorem yZ(r:Rl)(i:Int)(hi:0<=i/\i<64)(w:World):Calls Tryz.prog 200 #[.agg (dK r),I i] w (Pure (U (ug r i)) w):=by
 refine eH func200 rfl rfl fun hH=>SR<|gX hH (v:= .agg _) rfl<|fun b3 w1 a7=>va (v:=U 0#64) rfl<|aa<|ah<|eu aN a7<|fun w4 bP=>have Nq:=bP;AQ 0 O Nq (mV (I _) O)<|AQ 1 O Nq (fA bL 1 O sJ O)<|AQ 2 O Nq (bu qT cX O O J)<|tV 3 O Nq dU 0 O O (vx _ J)<|AT 4 O Nq (fun w hS=>aO bL O O O (hS.blk (i:=0) O))<|A1 5<|cC O aH O bP sR (ke _ _) (aq Ga O)<|fun w6 eR=>A1 6<|cC O aH O eR sR (ny _ _) (aq F8 O)<|fun w8 iv=>AQ 7 O iv (lY O O)<|AQ 8 O iv (aV (U _) O)<|AD<|aj<|oU O ?_ iv
 rfl
theorem qn(r:Rl)(w:World):Calls Tryz.prog 165 #[.agg (dK r)] w (Pure (.agg (dK (ed r))) w):=by
 have hp:=dr r
 refine eH func165 rfl rfl fun hH=>SR<|gX hH (v:= .agg _) rfl<|fun b3 w1 a7=>ou a7 (aZ qk)<|fun b6 w4 bP=>aa<|SR<|V (aO bL O O O (bP.blk (i:=1) O))<|aE O bP (ke _ _) (aq Ga O)<|fun w7 eX=>V (dD (vs:=[(0,I _)]) O (xB _))<|ou eX (aZ qk)<|fun b11 w9 bS=>bk bS (i:=0) O (ni O O O (bS.blk (i:=0) O))<|fun Cx bY=>aa<|ah<|SR<|V (fA bL 0 O bp O)<|lV bt bY 0 O O (fp _)<|aG (v:=I 0) rfl<|aa<|aC<|have hz:(⟨pts r,fun _=>0#64⟩:Rl).n=pts r:=rfl;bj (G:=Int×Rl) (fun⟨k,r1⟩ s' w'=>(Fr (4::(rg 10 10 [])) _ s')/\(Hp w w' (.blk b11 (.cells (dK r1) 86 (0,0))::_))/\(s' 10=I k)/\(0<=k)/\(k<=pts r)/\(r1=CS (pts r) (fun i=>ug r i) k)) (fun⟨k,r1⟩=>(pts r-k).toNat) ((0,⟨pts r,fun _=>0#64⟩)) ⟨Fr.refl _ _,bY,rfl,J,J,Gr _ _⟩<| ?_
 rintro⟨k,r1⟩ XE Na ⟨lO,cw,L6,h0,hk,hr⟩
 obtain⟨L7,zM,jT,zN⟩:=lO.w4 1 2 3 9
 have hn:r1.n=pts r:=by rw[hr];rfl
 refine SR<|V (aL L6 zN)<|aa<|ah<|aF O (fun xF=> ?_) (fun xF=> ?_)
 .refine ak<|ah<|aC<|SR<|aG L6<|aI rfl<|aa<|au<|mI rfl<|V (aO bL O O L7 (cw.blk (i:=2) O))<|mI rfl<|aE O cw (yZ _ _ J _) (aK call200 O O)<|fun OY dH=>V (fA bL 1 O sJ jT)<|V (bu qT cX O O J)<|bk dH (i:=0) O (bM O O (v:=U _) O O O (dH.blk (i:=0) O) Gf)<|fun Ub cJ=> ?_
  rw[xe]at cJ
  refine aa<|au<|V (ax L6 O J)<|mI rfl<|aa<| ?_
  refine⟨(k+1,_),aW,lO.u4.u4.u1.u1.u1,cJ,(aJ I aM),J,J,?_⟩
  rw[hr];exact Ko h0 (by rw[fF h0])
 refine aY (id:=0) rfl<|SR<|V (aO bL O O jT (cw.blk (i:=0) O))<|bk cw (i:=1) O (ni O zM O (cw.blk (i:=1) O))<|fun Nr c8=>aa<|aj<|ad8 O zM c8 (i:=1) O bL O O ⟨?_,c8.below⟩
 (rw[hr,show k=pts r by omega];rfl)
theorem BH(r:Rl)(s:BitVec 64)(w:World)(hT:oq w):Calls Tryz.prog 209 #[.agg (dK r),U s] w (Pure (U (upR r s)) w):=by
 have hp:=dr r
 refine eH func209 rfl rfl fun hH=>SR<|gX hH (v:= .agg _) rfl<|fun b3 w1 a7=>va (v:=U 0#64) rfl<|aa<|SR<|va (v:=U 0#64) rfl<|aa<|ah<|SR<|mU rfl<|V (aO bL O O O (a7.blk (i:=0) O))<|aE O a7 (ke _ _) (aq Ga O)<|fun w4 bP=>aE O bP (ny _ _) (aq F8 O)<|fun w6 eR=>V (lY O O)<|A3 O eR (BF _ _ (hT.hp eR)) (aq call233 O)<|fun v10 w8 iv=>V (aD (iv.sl (i:=0) O) O bq O)<|aG (v:=I 0) rfl<|aa<|aC<|have hl:=EA (s&&&below (pts r));bj (G:=Int) (fun k s' w'=>(Fr (5::(7::(rg 15 10 []))) _ s')/\(Hp w w' _)/\(s' 5=U (vp (ug r) ((fZ (s&&&below (pts r))).take k.toNat)))/\(s' 15=I k)/\(0<=k)/\(k<=(fZ (s&&&below (pts r))).length)) (fun k=>((fZ (s&&&below (pts r))).length-k).toNat) (0) ⟨Fr.refl _ _,iv,(aJ U (by simp[vp])),rfl,J,J⟩<| ?_
 rintro k aB6 H9 ⟨ahv,dN,anB,XF,h0,hk⟩
 obtain⟨avq,aqD,aqE⟩:=ahv.w3 2 13 14
 refine SR<|V (aL XF aqE)<|aa<|ah<|aF O (fun Ua=> ?_) (fun Ua=> ?_)
 .refine ak<|ah<|aC<|SR<|V (ag (dN.sl (i:=0) O) bq bp aqD XF J)<|V (az bt O O ((dN.sl (i:=0) O).cell _ _ (ew J)))<|aI rfl<|aa<|au<|aG anB<|V (aO bL O O avq (dN.blk (i:=1) O))<|mI rfl<|aE O dN (yZ _ _ (by exact NO oY oY) _) (aK call200 O O)<|fun Na iu=>V (jj O O)<|aU rfl<|aa<|au<|V (ax XF O J)<|mI rfl<|aa<| ?_
  refine⟨k+1,aW,ahv.u4.u4.u4,iu,(aJ U (Kp h0 aQ)),(aJ I aM),J,J⟩
 refine aY (id:=0) rfl<|SR<|aG anB<|aU rfl<|aa<|aj<|oU O ?_ dN
 (rw[Kn aQ];rfl)
theorem wK(r:Rl)(s:BitVec 64)(w:World):Calls Tryz.prog 211 #[.agg (dK r),U s] w (Pure (U (CT r s)) w):=by
 have hp:=dr r
 refine eH func211 rfl rfl fun hH=>SR<|gX hH (v:= .agg _) rfl<|fun b3 w1 a7=>va (v:=U 0#64) rfl<|aa<|SR<|va (v:=U 0#64) rfl<|aa<|ah<|SR<|V (aO bL O O O (a7.blk (i:=0) O))<|aE O a7 (ke _ _) (aq Ga O)<|fun w4 bP=>aG (v:=I 0) rfl<|aa<|aC<|bj (G:=Int) (fun k s' w'=>(Fr (5::6::(rg 9 13 [])) _ s')/\(Hp w w' _)/\(s' 5=U (wC r s k))/\(s' 9=I k)/\(0<=k)/\(k<=pts r)) (fun k=>(pts r-k).toNat) (0) ⟨Fr.refl _ _,bP,(aJ U (by simp[wC,mQ])),rfl,J,J⟩<| ?_
 rintro k sg6 w6 ⟨OW,jg,aqF,alH,h0,hk⟩
 obtain⟨Nl,ahw,aB7⟩:=OW.w3 1 2 8
 refine SR<|V (aL alH aB7)<|aa<|ah<|aF O (fun h8=> ?_) (fun h8=> ?_)
 .refine ak<|ah<|aC<|SR<|aG alH<|aI rfl<|aa<|SR<|V (aO bL O O ahw (jg.blk (i:=0) O))<|mI rfl<|aE O jg (yZ _ _ J _) (aK call200 O O)<|fun w9 bS=>aG Nl<|V (lY O O)<|V (tX O (b:=0#64) O)<|aa<|aF O (fun h12=> ?_) (fun h12=> ?_)
  .refine au<|aG aqF<|mI rfl<|aE O bS (BD _ _ _) (aK call231 O O)<|fun C8 cw=>aU rfl<|aa<|au<|V (ax alH O J)<|mI rfl<|aa<| ?_
   refine⟨k+1,aW,OW.u4.u4.u4.u1.u1.u1,cw,(aJ U (by exact ad3 h0 J aQ)),(aJ I aM),J,J⟩
  refine ak<|au<|V (ax alH O J)<|mI rfl<|aa<| ?_
  refine⟨k+1,aW,OW.u4.u4.u1.u1.u1,bS,(kZ aqF (aJ U (by exact ad4 h0 aQ))),(aJ I aM),J,J⟩
 refine aY (id:=0) rfl<|SR<|aG aqF<|aU rfl<|aa<|aj<|oU O ?_ jg
 (rw[show k=pts r by omega];rfl)
theorem qo(r:Rl)(w:World):Calls Tryz.prog 242 #[.agg (dK r)] w (Pure (.agg (dK (ed r))) w):=by
 have hp:=dr r
 refine eH func242 rfl rfl fun hH=>SR<|gX hH (v:= .agg _) rfl<|fun b3 w1 a7=>ou a7 (aZ qk)<|fun b6 w4 bP=>aa<|SR<|V (aO bL O O O (bP.blk (i:=1) O))<|aE O bP (bJ _ _) (aq nZ O)<|fun w7 eX=>V (dD (vs:=[(0,I _)]) O (xB _))<|ou eX (aZ qk)<|fun b11 w9 bS=>bk bS (i:=0) O (ni O O O (bS.blk (i:=0) O))<|fun Cx bY=>aa<|ah<|SR<|va (v:=I 0) rfl<|aa<|aC<|have hz:(⟨pts r,fun _=>0#64⟩:Rl).n=pts r:=rfl;bj (G:=Int×Rl) (fun⟨k,r1⟩ s' w'=>(Fr (rg 4 3 (rg 10 25 [])) _ s')/\(Hp w w' (.blk b11 (.cells (dK r1) 86 (0,0))::_))/\(s' 4=I k)/\(0<=k)/\(k<=pts r)/\(r1=CS (pts r) (fun i=>ug r i) k)) (fun⟨k,r1⟩=>(pts r-k).toNat) ((0,⟨pts r,fun _=>0#64⟩)) ⟨Fr.refl _ _,bY,rfl,J,J,Gr _ _⟩<| ?_
 rintro⟨k,r1⟩ XE Na ⟨lO,cw,C9,h0,hk,hr⟩
 obtain⟨L7,zM,jT⟩:=lO.w3 1 2 3
 have hn:r1.n=pts r:=by rw[hr];rfl
 refine ah<|SR<|aG C9<|V (fA bL 0 O bp jT)<|lV bt cw 0 O O (fp _)<|V (aL O O)<|aa<|aF O (fun xF=> ?_) (fun xF=> ?_)
 .refine ak<|ah<|aC<|SR<|va (v:= .slice none 0 0) rfl<|have er:=cw.fl 3 1;aa<|ah<|SR<|va (v:=I 0) rfl<|aa<|aC<|bj (G:=Int×(List Int)×Value) (fun⟨j,l,v5⟩ s' w'=>(Fr (5::6::(rg 16 14 [])) _ s')/\(Hp w w' (.row v5 3 1 (l.length) (l.map I)::_))/\(s' 5=v5)/\(s' 6=I j)/\(0<=j)/\(j<=pts r)/\(l=p7 r k j)) (fun⟨j,l,v5⟩=>(pts r-j).toNat) ((0,[],(.slice none 0 0:Value))) ⟨Fr.refl _ _,er,rfl,rfl,J,J,rfl⟩<| ?_
  rintro⟨j,l,v5⟩ aqG Uc ⟨wL,dH,ahx,Ud,j0,j1,hl⟩
  obtain⟨ZW,L8,L9⟩:=wL.t3 1 L7 3 jT 4 C9
  refine ah<|SR<|aG Ud<|V (fA bL 0 O bp L8)<|lV bt dH 1 O O (fp _)<|V (aL O O)<|aa<|aF O (fun Jm=> ?_) (fun Jm=> ?_)
  .refine ak<|ah<|aC<|SR<|V (aO bL O O ZW (dH.blk (i:=3) O))<|aG L9<|aG Ud<|aE O dH (bA _ _ _ _) (bz jJ O O O)<|fun Nr c8=>aa<|bQ O (fun zL=> ?_) (fun zL=> ?_)
   .refine au<|aG ahx<|aG Ud<|vP 1 1 c8 (bZ bq O O (sz:=1) (vs:=[I _]) O O ay ay O O)<|fun b27 w25 j6=> ?_
    (try simp only[ot]at j6)
    refine jm O j6 (i:=1) O (j6.dQ (i:=0) (n:=1) (sz:=1) O O ay) O O bq O O (size:=1) (bytes:=8) O O O ay jY (by have:= @NN r k j;rw[<-hl]at this;omega) (by have:= @NN r k j;rw[<-hl]at this;simp only[maxLen];omega)<|fun v28 w29 iN=> ?_
    refine V (run_assign bC) ?_
    refine aa<|au<|aG Ud<|V (ax O O J)<|aI rfl<|aa<| ?_
    refine⟨(j+1,l++[j],v28),aW,wL.u4.u4.u4.u4,(Hp.conv (iN.sub (sQ sR)) aA),rfl,(aJ I aM),J,J,?_⟩
    (rw[hl];exact aaB j0 aQ)
   refine ak<|au<|aG Ud<|V (ax O O J)<|aI rfl<|aa<| ?_
   refine⟨(j+1,l,v5),aW,wL.u4.u4.u1.u1.u1,(Hp.conv c8 aM),ahx,(aJ I aM),J,J,?_⟩
   (rw[hl];exact aaC j0 aQ)
  refine aY (id:=2) rfl<|au<|aG L9<|aG ahx<|aE O dH (gW _ _ _ (dH.sl (i:=0) O)) (aq F9 O)<|fun w31 iM=>V (fA bL 1 O sJ L8)<|V (bu qT cX O O J)<|bk iM (i:=1) O (bM O O (v:=U _) O O O (iM.blk (i:=1) O) Gf)<|fun w33 mG=> ?_
  rw[xe]at mG
  refine aa<|au<|aG L9<|V (ax O O J)<|aI rfl<|aa<| ?_
  refine⟨(k+1,_),aW,(((lO.u4.u1.u1).t wL O)).u4.u4.u4,(mG.sub (sQ sR)),(aJ I aM),J,J,?_⟩
  rw[hr];exact Ko h0 (by rw[fF h0,hl,show j=pts r by omega];exact aaD ⟨h0,J⟩)
 refine aY (id:=0) rfl<|SR<|V (aO bL O O jT (cw.blk (i:=0) O))<|bk cw (i:=1) O (ni O zM O (cw.blk (i:=1) O))<|fun w35 m6=>aa<|aj<|ad8 O zM m6 (i:=1) O bL O O ⟨?_,m6.below⟩
 (rw[hr,show k=pts r by omega];rfl)
theorem Hh(r:Rl)(w:World):Calls Tryz.prog 201 #[.agg (dK r)] w (Pure (.agg (dK (iG r))) w):=by
 have hp:=dr r
 have hn0:(ed r).n=pts r:=rfl
 refine eH func201 rfl rfl fun hH=>SR<|gX hH (v:= .agg _) rfl<|fun b3 w1 a7=>ou a7 (aZ qk)<|fun b6 w4 bP=>aa<|SR<|V (aO bL O O O (bP.blk (i:=1) O))<|aE O bP (qn _ _) (aq call165 O)<|fun w7 eX=>ou eX (aZ qk)<|fun b11 w9 bS=>bk bS (i:=0) O (ni O O O (bS.blk (i:=0) O))<|fun Cx bY=>aa<|ah<|SR<|V (fA bL 0 O bp O)<|lV bt bY 0 O O (fp _)<|aG (v:=I 0) rfl<|aa<|aC<|bj (G:=Int×Rl) (fun⟨k,r1⟩ s' w'=>(Fr (4::(rg 11 13 [])) _ s')/\(Hp w w' (.blk b11 (.cells (dK r1) 86 (0,0))::_))/\(s' 11=I k)/\(0<=k)/\(k<=pts r)/\(r1=⟨pts r,o3 (ed r).up k⟩)) (fun⟨k,r1⟩=>(pts r-k).toNat) ((0,ed r)) ⟨Fr.refl _ _,bY,rfl,J,J,aaE _ _⟩<| ?_
 rintro⟨k,r1⟩ XE Na ⟨lO,cw,Ma,h0,hk,hr⟩
 obtain⟨zM,jT,L6⟩:=lO.w3 2 3 10
 have hn:r1.n=pts r:=by rw[hr]
 refine SR<|V (aL Ma L6)<|aa<|ah<|aF O (fun xF=> ?_) (fun xF=> ?_)
 .refine ak<|ah<|aC<|SR<|aG Ma<|aI rfl<|aa<|au<|mI rfl<|mI rfl<|V (fA bL 1 O sJ jT)<|V (bu qT cX O O J)<|lV dU cw 0 O O (vx _ J)<|mI rfl<|aE O cw (BD _ _ _) (aK call231 O O)<|fun OY dH=>V (fA bL 1 O sJ jT)<|V (bu qT cX O O J)<|bk dH (i:=0) O (bM O O (v:=U _) O O O (dH.blk (i:=0) O) Gf)<|fun Ub cJ=> ?_
  rw[xe]at cJ
  refine aa<|au<|V (ax Ma O J)<|mI rfl<|aa<| ?_
  refine⟨(k+1,_),aW,lO.u4.u4.u4.u1.u1,cJ,(aJ I aM),J,J,?_⟩
  rw[hr];exact ad5 h0
 refine aY (id:=0) rfl<|ah<|SR<|V (fA bL 0 O bp jT)<|lV bt cw 0 O O (fp _)<|aG (v:=I 0) rfl<|aa<|aC<|bj (G:=Int×Rl) (fun⟨m,r2⟩ s' w'=>(Fr (5::6::(rg 26 27 [])) _ s')/\(Hp w w' (.blk b11 (.cells (dK r2) 86 (0,0))::_))/\(s' 26=I m)/\(0<=m)/\(m<=pts r)/\(r2=⟨pts r,wall (pts r) (o3 (ed r).up (pts r)) m.toNat⟩)) (fun⟨m,r2⟩=>(pts r-m).toNat) ((0,r1)) ⟨Fr.refl _ _,cw,rfl,J,J,(by rw[hr,show k=pts r by omega];rfl)⟩<| ?_
 rintro⟨m,r2⟩ aB8 Nr ⟨ab7,fD,XG,m0,m1,hr2⟩
 have aqI:=ab7.w1 25
 obtain⟨anC,Mb⟩:=ab7.t2 2 zM 3 jT
 have Oq:r2.n=pts r:=by rw[hr2]
 refine SR<|V (aL XG aqI)<|aa<|ah<|aF O (fun Fk=> ?_) (fun Fk=> ?_)
 .refine ak<|ah<|aC<|SR<|aG XG<|aI rfl<|aa<|SR<|V (fA bL 0 O bp Mb)<|lV bt fD 0 O O (fp _)<|aG (v:=I 0) rfl<|aa<|aC<|bj (G:=Int×Rl) (fun⟨i,r3⟩ s' w'=>(Fr (6::(rg 31 21 [])) _ s')/\(Hp w w' (.blk b11 (.cells (dK r3) 86 (0,0))::_))/\(s' 31=I i)/\(0<=i)/\(i<=pts r)/\(r3=⟨pts r,jo m.toNat i r2.up⟩)) (fun⟨i,r3⟩=>(pts r-i).toNat) ((0,r2)) ⟨Fr.refl _ _,fD,rfl,J,J,(by rw[hr2];exact aaF _ _ _)⟩<| ?_
  rintro⟨i,r3⟩ aKy w24 ⟨ab8,qB,Mc,i0,i1,hr3⟩
  obtain⟨anD,aqJ⟩:=ab8.w2 5 30
  obtain⟨ZX,aqK⟩:=ab8.t2 3 Mb 26 XG
  have hn3:r3.n=pts r:=by rw[hr3]
  refine SR<|V (aL Mc aqJ)<|aa<|ah<|aF O (fun h26=> ?_) (fun h26=> ?_)
  .refine ak<|ah<|aC<|SR<|aG Mc<|aI rfl<|aa<|SR<|mI rfl<|V (fA bL 1 O sJ ZX)<|V (bu qT cX O O J)<|lV dU qB 0 O O (vx _ J)<|aG anD<|aE O qB (XB _ _ _) (aK call232 O O)<|fun w27 jC=>aa<|bQ O (fun Ue=> ?_) (fun Ue=> ?_)
   .refine ia aN jC (sQ sR)<|fun w31 iM=>have Md:=iM.sub (sQ sR);AQ 0 O Md (mV (I _) O)<|AQ 1 O Md (fA bL 1 O sJ ZX)<|AQ 2 O Md (bu qT cX O O J)<|AQ 4 O Md (run_move anD)<|AQ 5 O Md (fA bL 1 O sJ ZX)<|AQ 6 O Md (bu qT cX O O J)<|AQ 9 O Md (fA bL 1 O sJ ZX)<|ic 3 7 aN ?_ ?_
    .refine bW O aH O iM (sQ sR) (az dU O O (iM.cell (i:=0) O (vx _ J)))<|A1 7<|bW O aH O iM (sQ sR) (az dU O O (iM.cell (i:=0) O (vx _ J)))<|AQ 8 O Md (jj O O)<|AQ 10 O Md (bu qT cX O O J)<|A1 11<|eK O aH iM (j:=0) O (sQ sR) (bM O O (v:=U _) O O O (iM.blk (i:=0) O) Gf)<|fun w39 nM=> ?_
     rw[xe]at nM
     refine AD<|au<|V (ax Mc O J)<|mI rfl<|aa<| ?_
     refine⟨(i+1,_),aW,ab8.u4.u4.u4.u4.u4.u1.u1,nM,(aJ I aM),J,J,?_⟩
     (rw[hr3]at*;exact R9 m0 i0 aQ)
    refine bW O aH O iM (sQ sR) (az dU O O (iM.cell (i:=0) O (vx _ J)))<|A1 3<|bW O aH O iM (sQ sR) (az dU O O (iM.cell (i:=0) O (vx _ J)))<|AQ 8 O Md (jj O O)<|AQ 10 O Md (bu qT cX O O J)<|A1 11<|eK O aH iM (j:=0) O (sQ sR) (bM O O (v:=U _) O O O (iM.blk (i:=0) O) Gf)<|fun w47 mH=> ?_
    rw[xe]at mH
    refine AD<|au<|V (ax Mc O J)<|mI rfl<|aa<| ?_
    refine⟨(i+1,_),aW,ab8.u4.u4.u4.u4.u4.u1.u1,mH,(aJ I aM),J,J,?_⟩
    (rw[hr3]at*;exact R9 m0 i0 aQ)
   refine ak<|au<|V (ax Mc O J)<|mI rfl<|aa<| ?_
   refine⟨(i+1,_),aW,ab8.u4.u4.u1.u1.u1,jC,(aJ I aM),J,J,?_⟩
   (rw[hr3]at*;exact ad7 ⟨m0,J⟩ i0 aQ)
  refine aY (id:=4) rfl<|au<|V (ax aqK O J)<|mI rfl<|aa<| ?_
  refine⟨(m+1,_),aW,(((ab7.u4.u1.u1).t ab8 O)).u1.u1.u1,qB,(aJ I aM),J,J,?_⟩
  rw[hr3,hr2,show i=pts r by omega];exact aaG m0
 refine aY (id:=2) rfl<|SR<|V (aO bL O O Mb (fD.blk (i:=0) O))<|bk fD (i:=1) O (ni O anC O (fD.blk (i:=1) O))<|fun w49 ey=>aa<|aj<|ad8 O anC ey (i:=1) O bL O O ⟨?_,ey.below⟩
 (rw[hr2,show m=pts r by omega];rfl)
theorem y8(r:Rl)(i:Int)(w:World):Calls Tryz.prog 215 #[.agg (dK r),I i] w (rM 3 1 (wD r i).length ((wD r i).map I) w):=by
 have hp:=dr r
 refine eH func215 rfl rfl fun hH=>SR<|gX hH (v:= .agg _) rfl<|fun b3 w1 a7=>va (v:= .slice none 0 0) rfl<|have gL:=a7.fl 3 1;aa<|ah<|SR<|mI rfl<|V (aL O O)<|mB rfl<|bI 10 O (fun h6=> ?_) (fun h6=> ?_)
 .refine aG (v:=B true) rfl<|aa<|cr rfl<|SR<|va (v:= .slice none 0 0) rfl<|have eR:=gL.fl 3 1;aa<|aj<|Nc O O eR (i:=0) O PZ PZ
 refine mI rfl<|V (aO bL O O O (gL.blk (i:=1) O))<|aE O gL (bJ _ _) (aq nZ O)<|fun w8 iv=>V (di O O)<|mB rfl<|aa<|aF O (fun h11=> ?_) (fun h11=> ?_)
 .refine SR<|va (v:= .slice none 0 0) rfl<|have cQ:=iv.fl 3 1;aa<|aj<|Nc O O cQ (i:=0) O PZ PZ
 refine ak<|SR<|mI rfl<|vP 1 1 iv (bZ bq O O (sz:=1) (vs:=[I _]) O O ay ay O O)<|fun b15 C8 cw=> ?_
 (try simp only[ot]at cw)
 have cF:=cw.A9 1 1 O ay
 refine V (run_assign bC) ?_
 refine aa<|ah<|SR<|va (v:=I 0) rfl<|aa<|aC<|bj (G:=Int×(List Int)×Value) (fun⟨a,l,v5⟩ s' w'=>(Fr (rg 5 3 (rg 18 29 [])) _ s')/\(Hp w w' (.row v5 3 1 (l.length) (l.map I)::_))/\(s' 5=v5)/\(s' 6=I a)/\(0<=a)/\(a<=l.length)/\(Sb r l)/\(UW r (65-a.toNat) a.toNat l=wD r i)) (fun⟨a,l,v5⟩=>((65:Int)-a).toNat) ((0,[i],(.slice (some ⟨b15,0,none⟩) 1 1:Value))) ⟨Fr.refl _ _,cF,rfl,rfl,J,aA,Sb.one J,(by rw[wD,aR (p6.2 J)];rfl)⟩<| ?_
 rintro⟨a,l,v5⟩ aB9 OY ⟨ahy,er,Me,anF,a0,a1,hok,hl⟩
 obtain⟨avs,aHk⟩:=ahy.w2 2 4
 refine ah<|SR<|aG anF<|aG Me<|V (aD (er.sl (i:=0) O) O bq O)<|V (aL O O)<|aa<|aF O (fun Mf=> ?_) (fun Mf=> ?_)
 .refine ak<|ah<|aC<|SR<|va (v:=I 0) rfl<|aa<|aC<|bj (G:=Int×(List Int)×Value) (fun⟨b,l2,v5⟩ s' w'=>(Fr (5::(7::(rg 24 23 []))) _ s')/\(Hp w w' (.row v5 3 1 (l2.length) (l2.map I)::_))/\(s' 5=v5)/\(s' 7=I b)/\(0<=b)/\(b<=pts r)/\(l2=scan r (l.getD a.toNat 0) l b.toNat)/\(Sb r l2)/\(l.length<=l2.length)/\(l2.getD a.toNat 0=l.getD a.toNat 0)) (fun⟨b,l2,v5⟩=>(pts r-b).toNat) ((0,l,(v5:Value))) ⟨Fr.refl _ _,er,Me,rfl,J,J,rfl,hok,eI _,rfl⟩<| ?_
  rintro⟨b,l2,v5⟩ aKz w20 ⟨ahz,cJ,OZ,Mg,b0,b1,h2,Uf,hle,Se⟩
  obtain⟨anG,anH⟩:=ahz.t2 2 avs 6 anF
  refine ah<|SR<|aG Mg<|V (aO bL O O anG (cJ.blk (i:=2) O))<|aE O cJ (bJ _ _) (aq nZ O)<|fun Nr c8=>V (aL O O)<|aa<|aF O (fun zL=> ?_) (fun zL=> ?_)
  .refine ak<|ah<|aC<|ah<|eu aN c8<|fun w25 j6=>have IB:=j6;AT 0 O IB (fun w hS=>aO bL O O anG (hS.blk (i:=2) O))<|AQ 1 O IB (run_move OZ)<|AQ 2 O IB (run_move anH)<|AT 3 O IB (fun w hS=>ag (hS.sl (i:=0) O) bq bp O O J)<|AT 4 O IB (fun w hS=>az bt O O ((hS.sl (i:=0) O).cell _ _ (ew J)))<|AQ 5 O IB (run_move Mg)<|A1 6<|cC O aH O j6 sR (bA r (l2.getD a.toNat 0) b _) (bz jJ O O O)<|fun w27 jC=>have XH:=jC;AQ 7 O XH (mV (B _) O)<|Kh (dj:=37) O (fun Ue=> ?_) (fun Ue=> ?_)
   .refine BQ 8 O O (bR (c:=true) Ue) jC (run_move OZ)<|BQ 9 O O (bR (c:=true) Ue) jC (run_move Mg)<|A1 10<|cC O (A5 O (bR (c:=true) Ue)) O jC sR (CE _ _ _ _ (jC.sl (i:=0) O)) (aK call110 O O)<|fun w31 iM=>BQ 11 O O (bR (c:=true) Ue) iM (bK O)<|AQ 12 O iM (gC (bR (c:=true) Ue) (v:=B _) O)<|AD<|bQ O (fun CF=> ?_) (fun CF=> ?_)
    .refine au<|aG OZ<|aG Mg<|vP 1 1 iM (bZ bq O O (sz:=1) (vs:=[I _]) O O ay ay O O)<|fun b38 w36 xG=> ?_
     (try simp only[ot]at xG)
     refine jm O xG (i:=1) O (xG.dQ (i:=0) (n:=1) (sz:=1) O O ay) O O bq O O (size:=1) (bytes:=8) O O O ay jY (by have:=Uf.len;omega) (by have:=Uf.len;simp only[maxLen];omega)<|fun v39 w40 jD=> ?_
     refine V (run_assign bC) ?_
     refine aa<|au<|aG Mg<|V (ax O O J)<|aI rfl<|aa<| ?_
     refine⟨(b+1,l2++[b],v39),aW,ahz.u4.u4.u4.u4.u4.u4.u1,(Hp.conv (jD.sub (sQ sR)) aA),rfl,(aJ I aM),J,J,?_,?_,J3,?_⟩
     .rw[Se]at*;((rw[h2]at*;exact aeb b0 aQ (nt aQ)))
     .exact Uf.add ⟨b0,aQ⟩ (nt aQ)
     (rw[<-Se,ep,ep,xS J])
    refine ak<|au<|aG Mg<|V (ax O O J)<|aI rfl<|aa<| ?_
    refine⟨(b+1,l2,v5),aW,ahz.u4.u4.u4.u4.u4,(Hp.conv iM aM),OZ,(aJ I aM),J,J,?_,?_,?_,?_⟩
    .rw[Se]at*;((rw[h2]at*;exact aed b0 (nf aQ)))
    .exact Uf
    .exact hle
    exact Se
   refine AK 8 O O (bR (c:=false) Ue) jC<|AK 9 O O (bR (c:=false) Ue) jC<|AK 10 O O (bR (c:=false) Ue) jC<|AK 11 O O (bR (c:=false) Ue) jC<|AQ 12 O XH (dV (bR (c:=false) Ue) (v:=B false) O)<|AD<|dm rfl<|ak<|au<|aG Mg<|V (ax O O J)<|aI rfl<|aa<| ?_
   refine⟨(b+1,l2,v5),aW,ahz.u4.u4.u4.u4.u4,(Hp.conv jC aM),OZ,(aJ I aM),J,J,?_,?_,?_,?_⟩
   .rw[Se]at*;((rw[h2]at*;exact aec b0 aQ))
   .exact Uf
   .exact hle
   exact Se
  refine aY (id:=2) rfl<|au<|aG anH<|V (ax O O (by have:=hok.len;omega))<|aI rfl<|aa<| ?_
  refine⟨(a+1,l2,v5),?_,(((ahy.u4.u1).t ahz O)).u4.u1.u1.u1,(Hp.conv c8 aM),OZ,(aJ I aM),J,J,?_,?_⟩
  .have:=hok.len;(try dsimp only);omega
  .exact Uf
  (rw[h2,show b=pts r by omega,<-aea a0 aQ hok.len];exact hl)
 refine aY (id:=0) rfl<|SR<|aG Me<| ?_
 refine V (run_assign bC) ?_
 refine aa<|aj<|Nc O O er (i:=0) O (by rw[<-hl,YA a0 aQ]) (by rw[<-hl,YA a0 aQ])
theorem wM(r:Rl)(w:World):Calls Tryz.prog 183 #[.agg (dK r)] w (Pure (.agg (dK (iG r))) w):=by
 have hp:=dr r
 refine eH func183 rfl rfl fun hH=>SR<|gX hH (v:= .agg _) rfl<|fun b3 w1 a7=>ou a7 (aZ qk)<|fun b6 w4 bP=>aa<|SR<|V (aO bL O O O (bP.blk (i:=1) O))<|aE O bP (bJ _ _) (aq nZ O)<|fun w7 eX=>V (dD (vs:=[(0,I _)]) O (xB _))<|ou eX (aZ qk)<|fun b11 w9 bS=>bk bS (i:=0) O (ni O O O (bS.blk (i:=0) O))<|fun Cx bY=>aa<|ah<|SR<|va (v:=I 0) rfl<|aa<|aC<|have hz:(⟨pts r,fun _=>0#64⟩:Rl).n=pts r:=rfl;bj (G:=Int×Rl) (fun⟨k,r1⟩ s' w'=>(Fr (4::(rg 8 13 [])) _ s')/\(Hp w w' (.blk b11 (.cells (dK r1) 86 (0,0))::_))/\(s' 4=I k)/\(0<=k)/\(k<=pts r)/\(r1=CS (pts r) (fun i=>kq (wD r i)) k)) (fun⟨k,r1⟩=>(pts r-k).toNat) ((0,⟨pts r,fun _=>0#64⟩)) ⟨Fr.refl _ _,bY,rfl,J,J,Gr _ _⟩<| ?_
 rintro⟨k,r1⟩ XE Na ⟨lO,cw,C9,h0,hk,hr⟩
 obtain⟨L7,zM,jT⟩:=lO.w3 1 2 3
 have hn:r1.n=pts r:=by rw[hr];rfl
 refine ah<|SR<|aG C9<|V (fA bL 0 O bp jT)<|lV bt cw 0 O O (fp _)<|V (aL O O)<|aa<|aF O (fun xF=> ?_) (fun xF=> ?_)
 .refine ak<|ah<|aC<|au<|aG C9<|V (aO bL O O L7 (cw.blk (i:=2) O))<|aG C9<|A3 O cw (y8 _ _ _) (aK call215 O O)<|fun v19 OY dH=>aE O dH (gW _ _ _ (dH.sl (i:=0) O)) (aq F9 O)<|fun w20 fD=>V (fA bL 1 O sJ jT)<|V (bu qT cX O O J)<|bk fD (i:=1) O (bM O O (v:=U _) O O O (fD.blk (i:=1) O) Gf)<|fun Ug eU=> ?_
  rw[xe]at eU
  refine aa<|au<|aG C9<|V (ax O O J)<|aI rfl<|aa<| ?_
  refine⟨(k+1,_),aW,lO.u4.u4.u4.u1.u1,(eU.sub (sQ sR)),(aJ I aM),J,J,?_⟩
  rw[hr];exact Ko h0 (by rw[fF h0])
 refine aY (id:=0) rfl<|SR<|V (aO bL O O jT (cw.blk (i:=0) O))<|bk cw (i:=1) O (ni O zM O (cw.blk (i:=1) O))<|fun w24 mc=>aa<|aj<|ad8 O zM mc (i:=1) O bL O O ⟨?_,mc.below⟩
 (rw[hr,show k=pts r by omega,ajD])
theorem Da(a b:Rl)(w:World):Calls Tryz.prog 136 #[.agg (dK a),.agg (dK b)] w (Pure (B (decide ((ed a).eq (ed b)))) w):=by
 refine eH func136 rfl rfl fun hH=>SR<|gX hH (v:= .agg _) rfl<|fun b3 w1 a7=>gX a7 (v:= .agg _) rfl<|fun b6 w4 bP=>va (v:=B false) rfl<|aa<|ah<|eu aN bP<|fun w7 eX=>AT 0 O eX (fun w hS=>aO bL O O O (hS.blk (i:=1) O))<|AT 2 O eX (fun w hS=>aO bL O O O (hS.blk (i:=0) O))<|A1 1<|cC O aH O eX sR (qn _ _) (aq call165 O)<|fun w9 bS=>A1 3<|cC O aH O bS sR (qn _ _) (aq call165 O)<|fun H9 cQ=>AQ 4 O cQ (DO Hg O O)<|AQ 5 O cQ (aV (B _) O)<|AD<|aj<|oB O ?_ cQ
 rfl
theorem Ai(a b:Rl)(w:World):Calls Tryz.prog 214 #[.agg (dK a),.agg (dK b)] w (Pure (B (decide ((ed a).eq (ed b)))) w):=by
 refine eH func214 rfl rfl fun hH=>SR<|gX hH (v:= .agg _) rfl<|fun b3 w1 a7=>gX a7 (v:= .agg _) rfl<|fun b6 w4 bP=>va (v:=B false) rfl<|aa<|ah<|eu aN bP<|fun w7 eX=>AT 0 O eX (fun w hS=>aO bL O O O (hS.blk (i:=1) O))<|AT 2 O eX (fun w hS=>aO bL O O O (hS.blk (i:=0) O))<|A1 1<|cC O aH O eX sR (qo _ _) (aq call242 O)<|fun w9 bS=>A1 3<|cC O aH O bS sR (qo _ _) (aq call242 O)<|fun H9 cQ=>AQ 4 O cQ (DO Hg O O)<|AQ 5 O cQ (aV (B _) O)<|AD<|aj<|oB O ?_ cQ
 rfl
theorem zO(r:Rl)(w:World):Calls Tryz.prog 166 #[.agg (dK r)] w (Pure (B (decide ((ed r).eq (iG r)))) w):=by
 refine eH func166 rfl rfl fun hH=>SR<|gX hH (v:= .agg _) rfl<|fun b3 w1 a7=>va (v:=B false) rfl<|aa<|ah<|eu aN a7<|fun w4 bP=>AT 0 O bP (fun w hS=>aO bL O O O (hS.blk (i:=0) O))<|AT 2 O bP (fun w hS=>aO bL O O O (hS.blk (i:=0) O))<|A1 1<|cC O aH O bP sR (qn _ _) (aq call165 O)<|fun w6 eR=>A1 3<|cC O aH O eR sR (Hh _ _) (aq call201 O)<|fun w8 iv=>AQ 4 O iv (DO Hg O O)<|AQ 5 O iv (aV (B _) O)<|AD<|aj<|oB O ?_ iv
 rfl
theorem pE(r:Rl)(w:World):Calls Tryz.prog 182 #[.agg (dK r)] w (Pure (B (decide ((ed r).eq (iG r)))) w):=by
 refine eH func182 rfl rfl fun hH=>SR<|gX hH (v:= .agg _) rfl<|fun b3 w1 a7=>va (v:=B false) rfl<|aa<|ah<|eu aN a7<|fun w4 bP=>AT 0 O bP (fun w hS=>aO bL O O O (hS.blk (i:=0) O))<|AT 1 O bP (fun w hS=>aO bL O O O (hS.blk (i:=0) O))<|A1 2<|cC O aH O bP sR (wM _ _) (aq call183 O)<|fun w6 eR=>A1 3<|cC O aH O eR sR (Ai _ _ _) (aK call214 O O)<|fun w8 iv=>AQ 4 O iv (aV (B _) O)<|AD<|aj<|oB O ?_ iv
 rw[aaK]
theorem y9(n:Int)(w:World):Calls Tryz.prog 208 #[I n] w (Pure (.agg (dK (aee n))) w):=by
 refine eH func208 rfl rfl fun hH=>SR<|ou hH (aZ qk)<|fun b3 w1 a7=>aa<|SR<|mI rfl<|V (dD (vs:=[(0,I _)]) O (xB _))<|aE O a7 (ke _ _) (aq Ga O)<|fun w4 bP=>V (dD (vs:=[(0,I _)]) O (xB _))<|bk bP (i:=0) O (ni O O O (bP.blk (i:=0) O))<|fun w6 eR=>aa<|aj<|ad8 O O eR (i:=0) O bL O O ⟨?_,eR.below⟩
 rfl
theorem IC(r:Rl)(i:Int)(w:World)(hT:oq w):Calls Tryz.prog 202 #[.agg (dK r),I i] w (Pure (U (Cf r i)) w):=by
 refine eH func202 rfl rfl fun hH=>SR<|gX hH (v:= .agg _) rfl<|fun b3 w1 a7=>va (v:=U 0#64) rfl<|aa<|SR<|mI rfl<|vP 1 1 a7 (bZ bq O O (sz:=1) (vs:=[I _]) O O ay ay O O)<|fun b6 w4 bP=> ?_
 (try simp only[ot]at bP)
 refine aE O bP (xD _ [i] _ (bP.dQ (i:=0) (n:=1) (sz:=1) O O ay)) (aq call203 O)<|fun w7 eX=>aU rfl<|aa<|ah<|eu aN eX<|fun w9 bS=>have za:=bS;AT 0 O za (fun w hS=>aO bL O O O (hS.blk (i:=1) O))<|AQ 1 O za (mV (U _) O)<|AT 3 O za (fun w hS=>aO bL O O O (hS.blk (i:=1) O))<|AQ 4 O za (mV (U _) O)<|A1 2<|cC O aH O bS sR (BH _ _ _ (hT.hp bS)) (aK call209 O O)<|fun H9 cQ=>A1 5<|cC O aH O cQ sR (wK _ _ _) (aK call211 O O)<|fun C8 cw=>AQ 6 O cw (lY O O)<|AQ 7 O cw (aV (U _) O)<|AD<|aj<|oU O ?_ cw
 rfl
theorem Mh(r:Rl)(w:World)(hT:oq w):Calls Tryz.prog 167 #[.agg (dK r)] w (Pure (B (fO r)) w):=by
 have hp:=dr r
 refine eH func167 rfl rfl fun hH=>SR<|gX hH (v:= .agg _) rfl<|fun b3 w1 a7=>va (v:=B false) rfl<|aa<|ah<|SR<|V (aO bL O O O (a7.blk (i:=0) O))<|aE O a7 (zO _ _) (aq call166 O)<|fun w4 bP=>V (tY O)<|aa<|aF O (fun h9=> ?_) (fun h9=> ?_)
 .refine SR<|va (v:=B false) rfl<|aa<|aj<|oB O ?_ bP
  exact(aaM aQ).symm
 refine ak<|ah<|SR<|V (aO bL O O O (bP.blk (i:=0) O))<|aE O bP (ke _ _) (aq Ga O)<|fun Hi dN=>aG (v:=I 0) rfl<|aa<|aC<|have hc:=FR ‹¬¬(ed r).eq (iG r)›;bj (G:=Int) (fun k s' w'=>(Fr (2::3::(rg 9 11 [])) _ s')/\(Hp w w' _)/\(s' 9=I k)/\(0<=k)/\(k<=pts r)/\(∀j:Int,0<=j->j<k->Cf r j=kq [j])) (fun k=>(pts r-k).toNat) (0) ⟨Fr.refl _ _,dN,rfl,J,J,fun j a b=>absurd b J⟩<| ?_
 rintro k ahA Cx ⟨o9,cQ,ahB,h0,hk,hf⟩
 obtain⟨uK,Mi⟩:=o9.w2 1 8
 refine SR<|V (aL ahB Mi)<|aa<|ah<|aF O (fun Jn=> ?_) (fun Jn=> ?_)
 .refine ak<|ah<|aC<|SR<|aG ahB<|aI rfl<|aa<|SR<|V (aO bL O O uK (cQ.blk (i:=0) O))<|mI rfl<|aE O cQ (IC _ _ _ (hT.hp cQ)) (aK call202 O O)<|fun XD cF=>mI rfl<|vP 1 1 cF (bZ bq O O (sz:=1) (vs:=[I _]) O O ay ay O O)<|fun XI OY dH=> ?_
  (try simp only[ot]at dH)
  refine aE O dH (xD _ [k] _ (dH.dQ (i:=0) (n:=1) (sz:=1) O O ay)) (aq call203 O)<|fun w20 fD=>V (tX O O)<|aa<|aF O (fun Fk=> ?_) (fun Fk=> ?_)
  .refine SR<|va (v:=B false) rfl<|aa<|aj<|oB O ?_ fD
   exact(aeg hc ⟨h0,J⟩ aQ).symm
  refine ak<|au<|V (ax ahB O J)<|mI rfl<|aa<| ?_
  refine⟨k+1,aW,o9.u4.u4.u4,(fD.sub (sQ sR)),(aJ I aM),J,J,?_⟩
  exact fun j a b=>if e:j=k then e▸FR ‹_›else hf j a J
 refine aY (id:=0) rfl<|SR<|va (v:=B true) rfl<|aa<|aj<|oB O ?_ cQ
 exact(aaN hc fun j a b=>hf j a J).symm
theorem zc(r:Rl)(w:World):Calls Tryz.prog 148 #[.agg (dK r)] w (Pure (B (fO r)) w):=by
 have hp:=dr r
 refine eH func148 rfl rfl fun hH=>SR<|gX hH (v:= .agg _) rfl<|fun b3 w1 a7=>va (v:=B false) rfl<|aa<|ah<|SR<|va (v:=I 0) rfl<|aa<|aC<|bj (G:=Int) (fun k s' w'=>(Fr (rg 2 24 []) _ s')/\(Hp w w' _)/\(s' 3=I k)/\(0<=k)/\(k<=pts r)/\(∀i j:Int,0<=j->j<i->i<k->(bE r i j&&bE r j i)=false)) (fun k=>(pts r-k).toNat) (0) ⟨Fr.refl _ _,a7,rfl,J,J,fun i j a b c=>absurd c J⟩<| ?_
 rintro k sg4 w4 ⟨BE,gL,xE,k0,k1,hf⟩
 have yY:=BE.w1 1
 refine ah<|SR<|aG xE<|V (aO bL O O yY (gL.blk (i:=0) O))<|aE O gL (bJ _ _) (aq nZ O)<|fun w5 jg=>V (aL O O)<|aa<|aF O (fun h8=> ?_) (fun h8=> ?_)
 .refine ak<|ah<|aC<|SR<|va (v:=I 0) rfl<|aa<|aC<|bj (G:=Int) (fun j s' w'=>(Fr (2::(4::(rg 11 15 []))) _ s')/\(Hp w w' _)/\(s' 4=I j)/\(0<=j)/\(j<=k)/\(∀x:Int,0<=x->x<j->(bE r k x&&bE r x k)=false)) (fun j=>(k-j).toNat) (0) ⟨Fr.refl _ _,jg,rfl,J,J,fun x a b=>absurd b J⟩<| ?_
  rintro j sg9 w9 ⟨fr9,iv,Ns,j0,j1,hg⟩
  obtain⟨XJ,XK⟩:=fr9.t2 1 yY 3 xE
  refine ah<|SR<|aG Ns<|aG XK<|V (aL O O)<|aa<|aF O (fun h11=> ?_) (fun h11=> ?_)
  .refine ak<|ah<|aC<|SR<|V (aO bL O O XJ (iv.blk (i:=0) O))<|aG XK<|aG Ns<|aE O iv (bA _ _ _ _) (bz jJ O O O)<|fun Cx bY=>mB rfl<|fW 20 O (fun Mj=> ?_) (fun Mj=> ?_)
   .refine V (aO bL O O XJ (bY.blk (i:=0) O))<|aG Ns<|aG XK<|aE O bY (bA _ _ _ _) (bz jJ O O O)<|fun Ml er=>mB rfl<|aa<|bQ O (fun Mf=> ?_) (fun Mf=> ?_)
    .refine SR<|va (v:=B false) rfl<|aa<|aj<|oB O ?_ er
     exact(Sk ‹bE r k j=true› ‹bE r j k=true› aQ).symm
    refine ak<|au<|aG Ns<|V (ax O O J)<|aI rfl<|aa<| ?_
    refine⟨j+1,aW,fr9.u4.u4.u4.u4,er,(aJ I aM),J,J,?_⟩
    exact fun x u v=>if e:x=j then e▸(by rw[‹bE r j k=false›];simp)else hg x u J
   refine aG (v:=B false) rfl<|aa<|dm rfl<|ak<|au<|aG Ns<|V (ax O O J)<|aI rfl<|aa<| ?_
   refine⟨j+1,aW,fr9.u4.u4.u4.u4,bY,(aJ I aM),J,J,?_⟩
   exact fun x u v=>if e:x=j then e▸(by rw[‹bE r k j=false›];rfl)else hg x u J
  refine aY (id:=2) rfl<|au<|aG XK<|V (ax O O J)<|aI rfl<|aa<| ?_
  refine⟨k+1,aW,(((BE.u4.u1).t fr9 O)).u4.u1.u1,iv,(aJ I aM),J,J,?_⟩
  exact fun i x u v y=>if e:i=k then e▸hg x u (by omega)else hf i x u v J
 refine aY (id:=0) rfl<|SR<|V (aO bL O O yY (jg.blk (i:=0) O))<|aE O jg (pE _ _) (aq call182 O)<|fun w20 fD=>aB rfl<|aa<|aj<|oB O ?_ fD
 exact(aaO aQ hf).symm
theorem XL(r:Rl)(i:Int)(w:World):Calls Tryz.prog 210 #[.agg (dK r),I i] w (Pure (B (zU r i)) w):=by
 have hp:=dr r
 have hnn:(aee r.n).n=pts r:=rfl
 refine eH func210 rfl rfl fun hH=>SR<|gX hH (v:= .agg _) rfl<|fun b3 w1 a7=>va (v:=B false) rfl<|aa<|SR<|mI rfl<|V (di O O)<|mB rfl<|bI 7 O (fun h5=> ?_) (fun h5=> ?_)
 .refine mI rfl<|V (fA bL 0 O bp O)<|lV bt a7 0 O O (fp _)<|aE O a7 (y9 _ _) (aq call208 O)<|fun w6 eR=>V (Gl bL O isAgg3 O (fp _))<|V (aL O O)<|mB rfl<|aB rfl<|aa<|aj<|oB O ?_ eR
  (rw[zU,gd];simp only[dP,sZ,ya];omega)
 refine aG (v:=B false) rfl<|aB rfl<|aa<|aj<|oB O ?_ a7
 (rw[zU,gd];simp only[dP,sZ,ya];omega)
theorem Db(r:Rl)(i:Int)(w:World)(hT:oq w):Calls Tryz.prog 176 #[.agg (dK r),I i] w (Pure (U (ig r i)) w):=by
 refine eH func176 rfl rfl fun hH=>SR<|gX hH (v:= .agg _) rfl<|fun b3 w1 a7=>va (v:=U 0#64) rfl<|aa<|ah<|eu aN a7<|fun w4 bP=>AT 0 O bP (fun w hS=>aO bL O O O (hS.blk (i:=0) O))<|AQ 1 O bP (mV (I _) O)<|A1 2<|cN O aH O bP sR (f:=fun b=> .slice (some ⟨b,0,none⟩) 1 1) (bZ bq O O (sz:=1) (vs:=[I _]) O O ay ay O O)<|fun b8 w6 eR=> ?_
 (try simp only[ot]at eR)
 refine A1 3<|cC O aH O eR (sQ sR) (xD _ [i] _ (eR.dQ (i:=0) (n:=1) (sz:=1) O O ay)) (aq call203 O)<|fun w9 bS=>A1 4<|cC O aH O bS (sQ sR) (BH _ _ _ (hT.hp bS)) (aK call209 O O)<|fun H9 cQ=>AQ 5 O (cQ.sub (sQ sR)) (aV (U _) O)<|AD<|aj<|oU O ?_ cQ
 rfl
theorem Dc(r:Rl)(i:Int)(w:World)(hT:oq w):Calls Tryz.prog 177 #[.agg (dK r),I i] w (Pure (U (bN r i)) w):=by
 refine eH func177 rfl rfl fun hH=>SR<|gX hH (v:= .agg _) rfl<|fun b3 w1 a7=>va (v:=U 0#64) rfl<|aa<|ah<|SR<|V (aO bL O O O (a7.blk (i:=0) O))<|mI rfl<|aE O a7 (XL _ _ _) (aK call210 O O)<|fun w4 bP=>V (bK O)<|aa<|bQ O (fun h8=> ?_) (fun h8=> ?_)
 .refine SR<|va (v:=U 0#64) rfl<|aa<|aj<|oU O ?_ bP
  rw[bN,aP (by simpa using‹(!zU r i)=true›)]
 refine ak<|ah<|eu aN bP<|fun w9 bS=>AT 0 O bS (fun w hS=>aO bL O O O (hS.blk (i:=0) O))<|AQ 1 O bS (mV (I _) O)<|A1 2<|cN O aH O bS sR (f:=fun b=> .slice (some ⟨b,0,none⟩) 1 1) (bZ bq O O (sz:=1) (vs:=[I _]) O O ay ay O O)<|fun Mm H9 cQ=> ?_
 (try simp only[ot]at cQ)
 refine A1 3<|cC O aH O cQ (sQ sR) (xD _ [i] _ (cQ.dQ (i:=0) (n:=1) (sz:=1) O O ay)) (aq call203 O)<|fun Na iu=>A1 4<|cC O aH O iu (sQ sR) (wK _ _ _) (aK call211 O O)<|fun Ml er=>AQ 5 O (er.sub (sQ sR)) (aV (U _) O)<|AD<|aj<|oU O ?_ er
 rw[bN,aR (by simpa using‹(!zU r i)=false›)]
theorem zP(r:Rl)(i j:Int)(f:FuncId)(gg:Int->BitVec 64)(w:World)(hf:∀args w,(callFunc f args).run Tryz.prog w= .ok (.enter f args) w)(go:∀i w,oq w->Calls Tryz.prog f #[.agg (dK r),I i] w (Pure (U (gg i)) w))(hn:∀u,hasB (gg i&&&gg j) u=true->u<pts r)(hT:oq w):Calls Tryz.prog 204 #[.agg (dK r),I i,I j,.func (.func f) #[] #[]] w (Pure (.tuple #[I (zC gg (pts r) i j).1,B (zC gg (pts r) i j).2]) w):=by
 have hl:=EA (gg i&&&gg j)
 refine eH func204 rfl rfl fun hH=>SR<|gX hH (v:= .agg _) rfl<|fun b3 w1 a7=>va (v:=I 0) rfl<|va (v:=B false) rfl<|aa<|ah<|eu aN a7<|fun w4 bP=>have Nq:=bP;AQ 0 O Nq (mV (.func _ _ _) rfl)<|AT 1 rfl Nq (fun w hS=>aO bL O O O (hS.blk (i:=0) O))<|AQ 2 O Nq (mV (I _) O)<|AQ 4 O Nq (mV (.func _ _ _) O)<|AT 5 O Nq (fun w hS=>aO bL O O O (hS.blk (i:=0) O))<|AQ 6 O Nq (mV (I _) O)<|A1 3<|cC O aH O bP sR (go _ _ (hT.hp bP)) (iw hf (cs:=[]) O O O)<|fun w6 eR=>A1 7<|cC O aH O eR sR (go _ _ (hT.hp eR)) (iw hf (cs:=[]) O O O)<|fun w8 iv=>AQ 8 O iv (lY O O)<|AQ 9 O iv (aV (U _) O)<|AD<|ah<|SR<|mU rfl<|A3 O iv (BF _ _ (hT.hp iv)) (aq call233 O)<|fun v12 Hi dN=>V (aD (dN.sl (i:=0) O) O bq O)<|aG (v:=I 0) rfl<|aa<|aC<|bj (G:=Int) (fun a s' w'=>(Fr (8::9::(12::(rg 25 12 []))) _ s')/\(Hp w w' _)/\(s' 25=I a)/\(0<=a)/\(a<=(fZ (gg i&&&gg j)).length)/\(∀b:Int,0<=b->b<a->dS (gg i&&&gg j) (gg ((fZ (gg i&&&gg j)).getD b.toNat 0))=false)) (fun a=>((fZ (gg i&&&gg j)).length-a).toNat) (0) ⟨Fr.refl _ _,dN,rfl,J,J,fun b x y=>absurd y J⟩<| ?_
 rintro a acf C8 ⟨sV,bY,Mn,a0,a1,hg⟩
 have zQ:=sV.vv 3 (a:= .func _ _ _) rfl rfl
 obtain⟨Fl,aqN,XM,Mo⟩:=sV.w4 4 10 23 24
 refine SR<|V (aL Mn Mo)<|aa<|ah<|aF O (fun Mj=> ?_) (fun Mj=> ?_)
 .refine ak<|ah<|aC<|SR<|V (ag (bY.sl (i:=0) O) bq bp XM Mn J)<|V (az bt O O ((bY.sl (i:=0) O).cell _ _ (ew J)))<|aI rfl<|aa<|SR<|aG aqN<|aG zQ<|V (aO bL O O Fl (bY.blk (i:=1) O))<|mI rfl<|aE O bY (go _ _ (hT.hp bY)) (iw hf (cs:=[]) O O O)<|fun Ml er=>aE O er (Ec _ _ _) (aK call140 O O)<|fun Uc j7=>aa<|bQ O (fun Q6=> ?_) (fun Q6=> ?_)
  .refine SR<|mI rfl<|aI rfl<|va (v:=B true) rfl<|aa<|aj<| ?_
   refine kp O (aJ I ?_) (aJ B ?_) j7.below<;>rw[aep hn a0 aQ aQ hg]
  refine ak<|au<|V (ax Mn O J)<|mI rfl<|aa<| ?_
  refine⟨a+1,aW,sV.u4.u4.u4,j7,(aJ I aM),J,J,?_⟩
  exact fun b x y=>if e:b=a then e▸‹_›else hg b x J
 refine aY (id:=0) rfl<|SR<|va (v:=I 0) rfl<|va (v:=B false) rfl<|aa<|aj<| ?_
 refine kp O (aJ I ?_) (aJ B ?_) bY.below<;>rw[ajH aQ hg]
theorem ze(r:Rl)(i j:Int)(w:World)(hT:oq w):Calls Tryz.prog 168 #[.agg (dK r),I i,I j] w (Pure (.tuple #[I (iC r i j).1,B (iC r i j).2]) w):=by
 refine eH func168 rfl rfl fun hH=>SR<|gX hH (v:= .agg _) rfl<|fun b3 w1 a7=>va (v:=I 0) rfl<|va (v:=B false) rfl<|aa<|SR<|V (aO bL O O O (a7.blk (i:=0) O))<|mI rfl<|mI rfl<|aE O a7 (zP r i j 176 (ig r) _ call176 (fun i w h=>Db r i w h) (fun u h=>aeq h) (hT.hp a7)) (iQ call204 O O O O)<|fun w4 bP=>V (bD O (v:=I _) O)<|V (bD O (v:=B _) O)<|aI rfl<|aB rfl<|aa<|aj<|kp O (aJ I ?_) (aJ B ?_) bP.below
 all_goals rfl
theorem Q7(r:Rl)(i j:Int)(w:World)(hT:oq w):Calls Tryz.prog 169 #[.agg (dK r),I i,I j] w (Pure (.tuple #[I (pZ r i j).1,B (pZ r i j).2]) w):=by
 refine eH func169 rfl rfl fun hH=>SR<|gX hH (v:= .agg _) rfl<|fun b3 w1 a7=>va (v:=I 0) rfl<|va (v:=B false) rfl<|aa<|SR<|V (aO bL O O O (a7.blk (i:=0) O))<|mI rfl<|mI rfl<|aE O a7 (zP r i j 177 (bN r) _ call177 (fun i w h=>Dc r i w h) (fun u h=>aaQ h) (hT.hp a7)) (iQ call204 O O O O)<|fun w4 bP=>V (bD O (v:=I _) O)<|V (bD O (v:=B _) O)<|aI rfl<|aB rfl<|aa<|aj<|kp O (aJ I ?_) (aJ B ?_) bP.below
 all_goals rfl
theorem nN(r:Rl)(i:Int)(w:World)(hT:oq w):Calls Tryz.prog 144 #[.agg (dK r),I i] w (Pure (U (bN r i)) w):=by
 refine eH func144 rfl rfl fun hH=>SR<|gX hH (v:= .agg _) rfl<|fun b3 w1 a7=>va (v:=U 0#64) rfl<|aa<|SR<|V (aO bL O O O (a7.blk (i:=0) O))<|mI rfl<|aE O a7 (Dc _ _ _ (hT.hp a7)) (aK call177 O O)<|fun w4 bP=>aU rfl<|aa<|aj<|oU O ?_ bP
 rfl
theorem wN(r:Rl)(s:BitVec 64)(w:World)(hT:oq w):Calls Tryz.prog 181 #[.agg (dK r),U s] w (Pure (.tuple #[I (eC r s).1,B (eC r s).2]) w):=by
 have hp:=dr r
 have hnn:(aee r.n).n=pts r:=rfl
 refine eH func181 rfl rfl fun hH=>SR<|gX hH (v:= .agg _) rfl<|fun b3 w1 a7=>va (v:=I 0) rfl<|va (v:=B false) rfl<|aa<|ah<|SR<|V (fA bL 0 O bp O)<|lV bt a7 0 O O (fp _)<|aE O a7 (y9 _ _) (aq call208 O)<|fun w4 bP=>V (Gl bL O isAgg3 O (fp _))<|aG (v:=I 0) rfl<|aa<|aC<|bj (G:=Int) (fun k s' w'=>(Fr (rg 4 3 (rg 11 10 [])) _ s')/\(Hp w w' _)/\(s' 11=I k)/\(0<=k)/\(k<=pts r)/\(∀j:Int,0<=j->j<k->bN r j≠s)) (fun k=>(pts r-k).toNat) (0) ⟨Fr.refl _ _,bP,rfl,J,J,fun j x y=>absurd y J⟩<| ?_
 rintro k sg6 w6 ⟨OW,jg,L4,h0,hk,hg⟩
 obtain⟨Nl,ahw,aht⟩:=OW.w3 1 2 10
 refine SR<|V (aL L4 aht)<|aa<|ah<|aF O (fun h8=> ?_) (fun h8=> ?_)
 .refine ak<|ah<|aC<|SR<|aG L4<|aI rfl<|aa<|SR<|V (aO bL O O ahw (jg.blk (i:=0) O))<|mI rfl<|aE O jg (nN _ _ _ (hT.hp jg)) (aK Gb O O)<|fun w9 bS=>aG Nl<|V (jb O O)<|aa<|aF O (fun h12=> ?_) (fun h12=> ?_)
  .refine SR<|mI rfl<|aI rfl<|va (v:=B true) rfl<|aa<|aj<| ?_
   refine kp O (aJ I ?_) (aJ B ?_) bS.below<;>rw[Cg h0 J aQ hg]
  refine ak<|au<|V (ax L4 O J)<|mI rfl<|aa<| ?_
  refine⟨k+1,aW,OW.u4.u4.u1.u1,bS,(aJ I aM),J,J,?_⟩
  exact fun j x y=>if e:j=k then e▸‹¬bN r k=s›else hg j x J
 refine aY (id:=0) rfl<|SR<|va (v:=I 0) rfl<|va (v:=B false) rfl<|aa<|aj<| ?_
 refine kp O (aJ I ?_) (aJ B ?_) jg.below<;>rw[EH J hg]
theorem Nt(r:Rl)(a b:BitVec 64)(w:World)(hT:oq w):Calls Tryz.prog 205 #[.agg (dK r),U a,U b] w (Pure (U (jq r a b)) w):=by
 refine eH func205 rfl rfl fun hH=>SR<|gX hH (v:= .agg _) rfl<|fun b3 w1 a7=>va (v:=U 0#64) rfl<|aa<|ah<|SR<|V (aO bL O O O (a7.blk (i:=0) O))<|mU rfl<|aE O a7 (wN _ _ _ (hT.hp a7)) (aK call181 O O)<|fun w4 bP=> ?_
 refine V (run_move bC) ?_
 refine V (bD O (v:=I _) O)<|V (bD O (v:=B _) O)<|aI rfl<|aB rfl<|aa<|SR<|mB rfl<|aa<|bQ O (fun h7=> ?_) (fun h7=> ?_)
 .refine SR<|V (aO bL O O O (bP.blk (i:=0) O))<|mU rfl<|aE O bP (wN _ _ _ (hT.hp bP)) (aK call181 O O)<|fun w8 iv=> ?_
  refine V (run_move bC) ?_
  refine V (bD O (v:=I _) O)<|V (bD O (v:=B _) O)<|aI rfl<|aB rfl<|aa<|SR<|mB rfl<|aa<|bQ O (fun h11=> ?_) (fun h11=> ?_)
  .refine SR<|V (aO bL O O O (iv.blk (i:=0) O))<|mI rfl<|mI rfl<|aE O iv (ze _ _ _ _ (hT.hp iv)) (bz call168 O O O)<|fun Cx bY=> ?_
   refine V (run_move bC) ?_
   refine V (bD O (v:=I _) O)<|V (bD O (v:=B _) O)<|aI rfl<|aB rfl<|aa<|SR<|mB rfl<|aa<|bQ O (fun Mj=> ?_) (fun Mj=> ?_)
   .refine SR<|V (aO bL O O O (bY.blk (i:=0) O))<|mI rfl<|aE O bY (nN _ _ _ (hT.hp bY)) (aK Gb O O)<|fun Ml er=>aU rfl<|aa<|aj<|oU O ?_ er
    rw[NR aQ aQ aQ]
   refine ak<|SR<|mU rfl<|mU rfl<|V (jj O O)<|aU rfl<|aa<|aj<|oU O ?_ bY
   rw[aaR aQ]
  refine ak<|SR<|mU rfl<|mU rfl<|V (jj O O)<|aU rfl<|aa<|aj<|oU O ?_ iv
  rw[NT aQ]
 refine ak<|SR<|mU rfl<|mU rfl<|V (jj O O)<|aU rfl<|aa<|aj<|oU O ?_ bP
 rw[NS aQ]
theorem Uh(r:Rl)(f:FuncId)(gg:Int->BitVec 64)(w:World)(hf:∀args w,(callFunc f args).run Tryz.prog w= .ok (.enter f args) w)(go:∀i w,oq w->Calls Tryz.prog f #[.agg (dK r),I i] w (Pure (U (gg i)) w))(hT:oq w):Calls Tryz.prog 175 #[.agg (dK r),.func (.func f) #[] #[]] w (Pure (.tuple #[I (DS r gg).1,B (DS r gg).2]) w):=by
 have hp:=dr r
 have hnn:(aee r.n).n=pts r:=rfl
 refine eH func175 rfl rfl fun hH=>SR<|gX hH (v:= .agg _) rfl<|fun b3 w1 a7=>va (v:=I 0) rfl<|va (v:=B false) rfl<|aa<|SR<|V (fA bL 0 O bp O)<|lV bt a7 0 O O (fp _)<|aE O a7 (y9 _ _) (aq call208 O)<|fun w4 bP=>V (Gl bL O isAgg3 O (fp _))<|aI rfl<|aa<|ah<|SR<|mI rfl<|aG (v:=I 0) rfl<|aa<|aC<|bj (G:=Int) (fun k s' w'=>(Fr (4::5::(7::(rg 13 12 []))) _ s')/\(Hp w w' _)/\(s' 13=I k)/\(0<=k)/\(k<=pts r)/\(∀j:Int,0<=j->j<k->gg j≠below (pts r))) (fun k=>(pts r-k).toNat) (0) ⟨Fr.refl _ _,bP,rfl,J,J,fun j x y=>absurd y J⟩<| ?_
 rintro k sg6 w6 ⟨OW,jg,ahC,h0,hk,hg⟩
 have Nl:=OW.vv 1 (a:= .func _ _ _) rfl rfl
 obtain⟨ahw,aCa,avu⟩:=OW.w3 2 6 12
 refine SR<|V (aL ahC avu)<|aa<|ah<|aF O (fun h8=> ?_) (fun h8=> ?_)
 .refine ak<|ah<|aC<|SR<|aG ahC<|aI rfl<|aa<|SR<|aG Nl<|V (aO bL O O ahw (jg.blk (i:=0) O))<|mI rfl<|aE O jg (go _ _ (hT.hp jg)) (iw hf (cs:=[]) O O O)<|fun w9 bS=>aG aCa<|aE O bS (ny _ _) (aq F8 O)<|fun H9 cQ=>V (jb O O)<|aa<|aF O (fun Jn=> ?_) (fun Jn=> ?_)
  .refine SR<|mI rfl<|aI rfl<|va (v:=B true) rfl<|aa<|aj<| ?_
   refine kp O (aJ I ?_) (aJ B ?_) cQ.below<;>rw[ajK h0 J aQ hg]
  refine ak<|au<|V (ax ahC O J)<|mI rfl<|aa<| ?_
  refine⟨k+1,aW,OW.u4.u4.u4,cQ,(aJ I aM),J,J,?_⟩
  exact fun j x y=>if e:j=k then e▸‹¬gg k=below _›else hg j x J
 refine aY (id:=0) rfl<|SR<|va (v:=I 0) rfl<|va (v:=B false) rfl<|aa<|aj<| ?_
 refine kp O (aJ I ?_) (aJ B ?_) jg.below<;>rw[ao0 J hg]
theorem Mp(r:Rl)(w:World)(hT:oq w):Calls Tryz.prog 143 #[.agg (dK r)] w (Pure (.tuple #[I (DS r (ig r)).1,B (DS r (ig r)).2]) w):=by
 refine eH func143 rfl rfl fun hH=>SR<|gX hH (v:= .agg _) rfl<|fun b3 w1 a7=>va (v:=I 0) rfl<|va (v:=B false) rfl<|aa<|SR<|V (aO bL O O O (a7.blk (i:=0) O))<|aE O a7 (Uh r 176 (ig r) _ call176 (fun i w h=>Db r i w h) (hT.hp a7)) (aK call175 O O)<|fun w4 bP=>V (bD O (v:=I _) O)<|V (bD O (v:=B _) O)<|aI rfl<|aB rfl<|aa<|aj<|kp O (aJ I ?_) (aJ B ?_) bP.below
 all_goals rfl
theorem ID(r:Rl)(w:World)(hT:oq w):Calls Tryz.prog 138 #[.agg (dK r)] w (Pure (B (rV r)) w):=by
 have hp:=dr r
 refine eH func138 rfl rfl fun hH=>SR<|gX hH (v:= .agg _) rfl<|fun b3 w1 a7=>va (v:=B false) rfl<|aa<|ah<|SR<|V (fA bL 0 O bp O)<|lV bt a7 0 O O (fp _)<|V (aL O O)<|mB rfl<|bI 12 O (fun h5=> ?_) (fun h5=> ?_)
 .refine aG (v:=B true) rfl<|mB rfl<|cD O rfl<|aG (v:=B true) rfl<|aa<|cr rfl<|SR<|va (v:=B false) rfl<|aa<|aj<|oB O ?_ a7
  exact(I1 J).symm
 refine V (fA bL 0 O bp O)<|lV bt a7 0 O O (fp _)<|V (dx O O)<|mB rfl<|mB rfl<|bI 17 O (fun h7=> ?_) (fun h7=> ?_)
 .refine aG (v:=B true) rfl<|aa<|cr rfl<|SR<|va (v:=B false) rfl<|aa<|aj<|oB O ?_ a7
  exact(I1 J).symm
 refine V (aO bL O O O (a7.blk (i:=0) O))<|aE O a7 (Mh _ _ (hT.hp a7)) (aq call167 O)<|fun w8 iv=>V (bK O)<|mB rfl<|aa<|bQ O (fun h12=> ?_) (fun h12=> ?_)
 .refine SR<|va (v:=B false) rfl<|aa<|aj<|oB O ?_ iv
  exact(YF (nt aQ)).symm
 refine ak<|ah<|SR<|V (fA bL 0 O bp O)<|lV bt iv 0 O O (fp _)<|aG (v:=I 0) rfl<|aa<|aC<|have hn:1<=r.n/\r.n<=64:=J;have ho:fO r=true:=nf aQ;bj (G:=Int) (fun i s' w'=>(Fr (rg 2 7 (rg 24 29 [])) _ s')/\(Hp w w' _)/\(s' 24=I i)/\(0<=i)/\(i<=r.n)/\(∀a b:Int,0<=b->b<a->a<i->s5 r a b=true)) (fun i=>(r.n-i).toNat) (0) ⟨Fr.refl _ _,iv,rfl,J,J,fun a b x y z=>absurd z J⟩<| ?_
 rintro i acf C8 ⟨sV,bY,Mo,i0,i1,hg⟩
 obtain⟨Fm,XM⟩:=sV.w2 1 23
 refine SR<|V (aL Mo XM)<|aa<|ah<|aF O (fun Mj=> ?_) (fun Mj=> ?_)
 .refine ak<|ah<|aC<|SR<|aG Mo<|aI rfl<|aa<|SR<|mI rfl<|aG (v:=I 0) rfl<|aa<|aC<|bj (G:=Int) (fun j s' w'=>(Fr (2::(rg 4 5 (rg 28 24 []))) _ s')/\(Hp w w' _)/\(s' 28=I j)/\(0<=j)/\(j<=i)/\(∀b:Int,0<=b->b<j->s5 r i b=true)) (fun j=>(i-j).toNat) (0) ⟨Fr.refl _ _,bY,rfl,J,J,fun b x y=>absurd y J⟩<| ?_
  rintro j acg Ml ⟨oJ,cF,XN,j0,j1,hh⟩
  obtain⟨qp,aqO⟩:=oJ.w2 3 27
  obtain⟨vR,aqP⟩:=oJ.t2 1 Fm 24 Mo
  refine SR<|V (aL XN aqO)<|aa<|ah<|aF O (fun pL=> ?_) (fun pL=> ?_)
  .refine ak<|ah<|aC<|SR<|aG XN<|aI rfl<|aa<|SR<|V (aO bL O O vR (cF.blk (i:=0) O))<|aG qp<|mI rfl<|aE O cF (ze _ _ _ _ (hT.hp cF)) (bz call168 O O O)<|fun Ub cJ=> ?_
   refine V (run_move bC) ?_
   refine V (bD O (v:=I _) O)<|V (bD O (v:=B _) O)<|aI rfl<|aB rfl<|aa<|SR<|V (aO bL O O vR (cJ.blk (i:=0) O))<|aG qp<|mI rfl<|aE O cJ (Q7 _ _ _ _ (hT.hp cJ)) (bz call169 O O O)<|fun Ug eU=> ?_
   refine V (run_move bC) ?_
   refine V (bD O (v:=I _) O)<|V (bD O (v:=B _) O)<|aI rfl<|aB rfl<|aa<|SR<|mB rfl<|V (bK O)<|mB rfl<|fW 47 O (fun h26=> ?_) (fun h26=> ?_)
   .refine aG (v:=B true) rfl<|aa<|cr rfl<|SR<|va (v:=B false) rfl<|aa<|aj<|oB O ?_ eU
    exact(I2 ‹i<r.n› j0 ‹j<i› adr).symm
   refine mB rfl<|V (bK O)<|mB rfl<|aa<|bQ O (fun h28=> ?_) (fun h28=> ?_)
   .refine SR<|va (v:=B false) rfl<|aa<|aj<|oB O ?_ eU
    exact(I2 ‹i<r.n› j0 ‹j<i› adn).symm
   refine ak<|au<|V (ax XN O J)<|mI rfl<|aa<| ?_
   refine⟨j+1,aW,oJ.u4.u4.u4.u4.u4.u4.u4.u1,eU,(aJ I aM),J,J,?_⟩
   exact fun b x y=>if e:b=j then e▸(by rw[s5,cm];exact⟨nf ‹(!(iC r i j).2)=false›,nf ‹(!(pZ r i j).2)=false›⟩)else hh b x J
  refine aY (id:=2) rfl<|au<|V (ax aqP O J)<|mI rfl<|aa<| ?_
  refine⟨i+1,aW,(((sV.u4.u1).t oJ O)).u1.u1.u1,cF,(aJ I aM),J,J,?_⟩
  exact fun a b x y z=>if e:a=i then e▸hh b x (by omega)else hg a b x y J
 refine aY (id:=0) rfl<|SR<|va (v:=B true) rfl<|aa<|aj<|oB O ?_ bY
 exact(YG hn ho aQ hg).symm
theorem Aj(r:Rl)(i j:Int)(w:World):Calls Tryz.prog 121 #[.agg (dK r),I i,I j] w (Pure (.tuple #[I (iC r i j).1,B (iC r i j).2]) w):=by
 have hp:=dr r
 refine eH func121 rfl rfl fun hH=>SR<|gX hH (v:= .agg _) rfl<|fun b3 w1 a7=>va (v:=I 0) rfl<|va (v:=B false) rfl<|aa<|ah<|SR<|va (v:=I 0) rfl<|aa<|aC<|bj (G:=Int) (fun u s' w'=>(Fr (rg 6 46 []) _ s')/\(Hp w w' _)/\(s' 8=I u)/\(0<=u)/\(u<=pts r)/\(∀x:Int,0<=x->x<u->mS (ig r) i j x=false)) (fun u=>(pts r-u).toNat) (0) ⟨Fr.refl _ _,a7,rfl,J,J,fun x a b=>absurd b J⟩<| ?_
 rintro u sg4 w4 ⟨BE,gL,Hj,u0,u1,hg⟩
 obtain⟨yY,IE,xE⟩:=BE.w3 1 2 3
 refine ah<|SR<|aG Hj<|V (aO bL O O xE (gL.blk (i:=0) O))<|aE O gL (bJ _ _) (aq nZ O)<|fun w5 jg=>V (aL O O)<|aa<|aF O (fun h8=> ?_) (fun h8=> ?_)
 .refine ak<|ah<|aC<|SR<|V (aO bL O O xE (jg.blk (i:=0) O))<|aG yY<|aG Hj<|aE O jg (bA _ _ _ _) (bz jJ O O O)<|fun w9 bS=>mB rfl<|fW 21 O (fun h12=> ?_) (fun h12=> ?_)
  .refine V (aO bL O O xE (bS.blk (i:=0) O))<|aG IE<|aG Hj<|aE O bS (bA _ _ _ _) (bz jJ O O O)<|fun C8 cw=>mB rfl<|aB rfl<|aa<|ah<|SR<|va (v:=I 0) rfl<|aa<|aC<|bj (G:=Int) (fun v s' w'=>(Fr (9::10::(rg 27 23 [])) _ s')/\(Hp w w' _)/\(s' 9=B (CU r i j u v))/\(s' 10=I v)/\(0<=v)/\(v<=pts r)) (fun v=>(pts r-v).toNat) (0) ⟨Fr.refl _ _,cw,(aJ B (by simp[CU,upto, *])),rfl,J,J⟩<| ?_
   rintro v acg Ml ⟨oJ,cF,Fp,m7,v0,v1⟩
   obtain⟨vR,Ui,qp,Mq⟩:=oJ.t4 1 yY 2 IE 3 xE 8 Hj
   refine ah<|SR<|aG m7<|V (aO bL O O qp (cF.blk (i:=0) O))<|aE O cF (bJ _ _) (aq nZ O)<|fun Uc j7=>V (aL O O)<|aa<|aF O (fun Q6=> ?_) (fun Q6=> ?_)
   .refine ak<|ah<|aC<|SR<|V (aO bL O O qp (j7.blk (i:=0) O))<|aG vR<|aG m7<|aE O j7 (bA _ _ _ _) (bz jJ O O O)<|fun Ug eU=>mB rfl<|fW 37 O (fun Hl=> ?_) (fun Hl=> ?_)
    .refine V (aO bL O O qp (eU.blk (i:=0) O))<|aG Ui<|aG m7<|aE O eU (bA _ _ _ _) (bz jJ O O O)<|fun Uj dw=>mB rfl<|mB rfl<|fW 43 O (fun qC=> ?_) (fun qC=> ?_)
     .refine V (aO bL O O qp (dw.blk (i:=0) O))<|aG Mq<|aG m7<|aE O dw (bA _ _ _ _) (bz jJ O O O)<|fun w30 lQ=>V (bK O)<|mB rfl<|aa<|bQ O (fun h34=> ?_) (fun h34=> ?_)
      .refine au<|va (v:=B false) rfl<|aa<|au<|aG m7<|V (ax O O J)<|aI rfl<|aa<| ?_
       refine⟨v+1,aW,oJ.u4.u4.u4.u4.u4.u4.u1,lQ,(aJ B AX),(aJ I aM),J,J⟩
      refine ak<|au<|aG m7<|V (ax O O J)<|aI rfl<|aa<| ?_
      refine⟨v+1,aW,oJ.u4.u4.u4.u4.u4.u4,lQ,(kZ Fp (aJ B AX)),(aJ I aM),J,J⟩
     refine aG (v:=B false) rfl<|aa<|dm rfl<|ak<|au<|aG m7<|V (ax O O J)<|aI rfl<|aa<| ?_
     refine⟨v+1,aW,oJ.u4.u4.u4.u4.u4.u4,dw,(kZ Fp (aJ B AX)),(aJ I aM),J,J⟩
    refine aG (v:=B false) rfl<|mB rfl<|cD O rfl<|aG (v:=B false) rfl<|aa<|dm rfl<|ak<|au<|aG m7<|V (ax O O J)<|aI rfl<|aa<| ?_
    refine⟨v+1,aW,oJ.u4.u4.u4.u4.u4.u4,eU,(kZ Fp (aJ B AX)),(aJ I aM),J,J⟩
   refine aY (id:=2) rfl<|SR<|aG Fp<|aa<|bQ O (fun CF=> ?_) (fun CF=> ?_)
   .refine SR<|aG Mq<|aI rfl<|va (v:=B true) rfl<|aa<|aj<| ?_
    (refine kp O (aJ I ?_) (aJ B ?_) j7.below<;>rw[Sp u0 aQ (show v=pts r by omega) aQ hg])
   refine ak<|au<|aG Mq<|V (ax O O J)<|aI rfl<|aa<| ?_
   refine⟨u+1,aW,(((BE.u4.u4.u4.u4).t oJ O)).u4.u4,j7,(aJ I aM),J,J,?_⟩
   exact fun x a b=>if e:x=u then e▸(by rw[Gx r i j u (show v=pts r by omega)];assumption)else hg x a J
  refine aG (v:=B false) rfl<|aB rfl<|aa<|ah<|SR<|va (v:=I 0) rfl<|aa<|aC<|bj (G:=Int) (fun v s' w'=>(Fr (9::10::(rg 27 23 [])) _ s')/\(Hp w w' _)/\(s' 9=B (CU r i j u v))/\(s' 10=I v)/\(0<=v)/\(v<=pts r)) (fun v=>(pts r-v).toNat) (0) ⟨Fr.refl _ _,bS,(aJ B (by simp[CU,upto, *])),rfl,J,J⟩<| ?_
  rintro v aCb w36 ⟨Ho,m6,Fq,m8,v0,v1⟩
  obtain⟨ahD,ahE,Fs,Mr⟩:=Ho.t4 1 yY 2 IE 3 xE 8 Hj
  refine ah<|SR<|aG m8<|V (aO bL O O Fs (m6.blk (i:=0) O))<|aE O m6 (bJ _ _) (aq nZ O)<|fun w38 oK=>V (aL O O)<|aa<|aF O (fun h41=> ?_) (fun h41=> ?_)
  .refine ak<|ah<|aC<|SR<|V (aO bL O O Fs (oK.blk (i:=0) O))<|aG ahD<|aG m8<|aE O oK (bA _ _ _ _) (bz jJ O O O)<|fun w42 me=>mB rfl<|fW 37 O (fun h45=> ?_) (fun h45=> ?_)
   .refine V (aO bL O O Fs (me.blk (i:=0) O))<|aG ahE<|aG m8<|aE O me (bA _ _ _ _) (bz jJ O O O)<|fun w46 nO=>mB rfl<|mB rfl<|fW 43 O (fun h49=> ?_) (fun h49=> ?_)
    .refine V (aO bL O O Fs (nO.blk (i:=0) O))<|aG Mr<|aG m8<|aE O nO (bA _ _ _ _) (bz jJ O O O)<|fun w50 u7=>V (bK O)<|mB rfl<|aa<|bQ O (fun h54=> ?_) (fun h54=> ?_)
     .refine au<|va (v:=B false) rfl<|aa<|au<|aG m8<|V (ax O O J)<|aI rfl<|aa<| ?_
      refine⟨v+1,aW,Ho.u4.u4.u4.u4.u4.u4.u1,u7,(aJ B AX),(aJ I aM),J,J⟩
     refine ak<|au<|aG m8<|V (ax O O J)<|aI rfl<|aa<| ?_
     refine⟨v+1,aW,Ho.u4.u4.u4.u4.u4.u4,u7,(kZ Fq (aJ B AX)),(aJ I aM),J,J⟩
    refine aG (v:=B false) rfl<|aa<|dm rfl<|ak<|au<|aG m8<|V (ax O O J)<|aI rfl<|aa<| ?_
    refine⟨v+1,aW,Ho.u4.u4.u4.u4.u4.u4,nO,(kZ Fq (aJ B AX)),(aJ I aM),J,J⟩
   refine aG (v:=B false) rfl<|mB rfl<|cD O rfl<|aG (v:=B false) rfl<|aa<|dm rfl<|ak<|au<|aG m8<|V (ax O O J)<|aI rfl<|aa<| ?_
   refine⟨v+1,aW,Ho.u4.u4.u4.u4.u4.u4,me,(kZ Fq (aJ B AX)),(aJ I aM),J,J⟩
  refine aY (id:=2) rfl<|SR<|aG Fq<|aa<|bQ O (fun h55=> ?_) (fun h55=> ?_)
  .refine SR<|aG Mr<|aI rfl<|va (v:=B true) rfl<|aa<|aj<| ?_
   (refine kp O (aJ I ?_) (aJ B ?_) oK.below<;>rw[Sp u0 aQ (show v=pts r by omega) aQ hg])
  refine ak<|au<|aG Mr<|V (ax O O J)<|aI rfl<|aa<| ?_
  refine⟨u+1,aW,(((BE.u4.u4.u4.u4).t Ho O)).u4.u4,oK,(aJ I aM),J,J,?_⟩
  exact fun x a b=>if e:x=u then e▸(by rw[Gx r i j u (show v=pts r by omega)];assumption)else hg x a J
 refine aY (id:=0) rfl<|SR<|va (v:=I 0) rfl<|va (v:=B false) rfl<|aa<|aj<| ?_
 (refine kp O (aJ I ?_) (aJ B ?_) jg.below<;>rw[ajI aQ hg])
theorem Ak(r:Rl)(i j:Int)(w:World):Calls Tryz.prog 184 #[.agg (dK r),I i,I j] w (Pure (.tuple #[I (pZ r i j).1,B (pZ r i j).2]) w):=by
 have hp:=dr r
 refine eH func184 rfl rfl fun hH=>SR<|gX hH (v:= .agg _) rfl<|fun b3 w1 a7=>va (v:=I 0) rfl<|va (v:=B false) rfl<|aa<|ah<|SR<|va (v:=I 0) rfl<|aa<|aC<|bj (G:=Int) (fun u s' w'=>(Fr (rg 6 46 []) _ s')/\(Hp w w' _)/\(s' 8=I u)/\(0<=u)/\(u<=pts r)/\(∀x:Int,0<=x->x<u->mS (bN r) i j x=false)) (fun u=>(pts r-u).toNat) (0) ⟨Fr.refl _ _,a7,rfl,J,J,fun x a b=>absurd b J⟩<| ?_
 rintro u sg4 w4 ⟨BE,gL,Hj,u0,u1,hg⟩
 obtain⟨yY,IE,xE⟩:=BE.w3 1 2 3
 refine ah<|SR<|aG Hj<|V (aO bL O O xE (gL.blk (i:=0) O))<|aE O gL (bJ _ _) (aq nZ O)<|fun w5 jg=>V (aL O O)<|aa<|aF O (fun h8=> ?_) (fun h8=> ?_)
 .refine ak<|ah<|aC<|SR<|V (aO bL O O xE (jg.blk (i:=0) O))<|aG Hj<|aG yY<|aE O jg (bA _ _ _ _) (bz jJ O O O)<|fun w9 bS=>mB rfl<|fW 21 O (fun h12=> ?_) (fun h12=> ?_)
  .refine V (aO bL O O xE (bS.blk (i:=0) O))<|aG Hj<|aG IE<|aE O bS (bA _ _ _ _) (bz jJ O O O)<|fun C8 cw=>mB rfl<|aB rfl<|aa<|ah<|SR<|va (v:=I 0) rfl<|aa<|aC<|bj (G:=Int) (fun v s' w'=>(Fr (9::10::(rg 27 23 [])) _ s')/\(Hp w w' _)/\(s' 9=B (CV r i j u v))/\(s' 10=I v)/\(0<=v)/\(v<=pts r)) (fun v=>(pts r-v).toNat) (0) ⟨Fr.refl _ _,cw,(aJ B (by simp[CV,upto, *])),rfl,J,J⟩<| ?_
   rintro v acg Ml ⟨oJ,cF,Fp,m7,v0,v1⟩
   obtain⟨vR,Ui,qp,Mq⟩:=oJ.t4 1 yY 2 IE 3 xE 8 Hj
   refine ah<|SR<|aG m7<|V (aO bL O O qp (cF.blk (i:=0) O))<|aE O cF (bJ _ _) (aq nZ O)<|fun Uc j7=>V (aL O O)<|aa<|aF O (fun Q6=> ?_) (fun Q6=> ?_)
   .refine ak<|ah<|aC<|SR<|V (aO bL O O qp (j7.blk (i:=0) O))<|aG m7<|aG vR<|aE O j7 (bA _ _ _ _) (bz jJ O O O)<|fun Ug eU=>mB rfl<|fW 37 O (fun Hl=> ?_) (fun Hl=> ?_)
    .refine V (aO bL O O qp (eU.blk (i:=0) O))<|aG m7<|aG Ui<|aE O eU (bA _ _ _ _) (bz jJ O O O)<|fun Uj dw=>mB rfl<|mB rfl<|fW 43 O (fun qC=> ?_) (fun qC=> ?_)
     .refine V (aO bL O O qp (dw.blk (i:=0) O))<|aG m7<|aG Mq<|aE O dw (bA _ _ _ _) (bz jJ O O O)<|fun w30 lQ=>V (bK O)<|mB rfl<|aa<|bQ O (fun h34=> ?_) (fun h34=> ?_)
      .refine au<|va (v:=B false) rfl<|aa<|au<|aG m7<|V (ax O O J)<|aI rfl<|aa<| ?_
       refine⟨v+1,aW,oJ.u4.u4.u4.u4.u4.u4.u1,lQ,(aJ B AY),(aJ I aM),J,J⟩
      refine ak<|au<|aG m7<|V (ax O O J)<|aI rfl<|aa<| ?_
      refine⟨v+1,aW,oJ.u4.u4.u4.u4.u4.u4,lQ,(kZ Fp (aJ B AY)),(aJ I aM),J,J⟩
     refine aG (v:=B false) rfl<|aa<|dm rfl<|ak<|au<|aG m7<|V (ax O O J)<|aI rfl<|aa<| ?_
     refine⟨v+1,aW,oJ.u4.u4.u4.u4.u4.u4,dw,(kZ Fp (aJ B AY)),(aJ I aM),J,J⟩
    refine aG (v:=B false) rfl<|mB rfl<|cD O rfl<|aG (v:=B false) rfl<|aa<|dm rfl<|ak<|au<|aG m7<|V (ax O O J)<|aI rfl<|aa<| ?_
    refine⟨v+1,aW,oJ.u4.u4.u4.u4.u4.u4,eU,(kZ Fp (aJ B AY)),(aJ I aM),J,J⟩
   refine aY (id:=2) rfl<|SR<|aG Fp<|aa<|bQ O (fun CF=> ?_) (fun CF=> ?_)
   .refine SR<|aG Mq<|aI rfl<|va (v:=B true) rfl<|aa<|aj<| ?_
    (refine kp O (aJ I ?_) (aJ B ?_) j7.below<;>rw[Sq u0 aQ (show v=pts r by omega) aQ hg])
   refine ak<|au<|aG Mq<|V (ax O O J)<|aI rfl<|aa<| ?_
   refine⟨u+1,aW,(((BE.u4.u4.u4.u4).t oJ O)).u4.u4,j7,(aJ I aM),J,J,?_⟩
   exact fun x a b=>if e:x=u then e▸(by rw[Gy r i j u (show v=pts r by omega)];assumption)else hg x a J
  refine aG (v:=B false) rfl<|aB rfl<|aa<|ah<|SR<|va (v:=I 0) rfl<|aa<|aC<|bj (G:=Int) (fun v s' w'=>(Fr (9::10::(rg 27 23 [])) _ s')/\(Hp w w' _)/\(s' 9=B (CV r i j u v))/\(s' 10=I v)/\(0<=v)/\(v<=pts r)) (fun v=>(pts r-v).toNat) (0) ⟨Fr.refl _ _,bS,(aJ B (by simp[CV,upto, *])),rfl,J,J⟩<| ?_
  rintro v aCb w36 ⟨Ho,m6,Fq,m8,v0,v1⟩
  obtain⟨ahD,ahE,Fs,Mr⟩:=Ho.t4 1 yY 2 IE 3 xE 8 Hj
  refine ah<|SR<|aG m8<|V (aO bL O O Fs (m6.blk (i:=0) O))<|aE O m6 (bJ _ _) (aq nZ O)<|fun w38 oK=>V (aL O O)<|aa<|aF O (fun h41=> ?_) (fun h41=> ?_)
  .refine ak<|ah<|aC<|SR<|V (aO bL O O Fs (oK.blk (i:=0) O))<|aG m8<|aG ahD<|aE O oK (bA _ _ _ _) (bz jJ O O O)<|fun w42 me=>mB rfl<|fW 37 O (fun h45=> ?_) (fun h45=> ?_)
   .refine V (aO bL O O Fs (me.blk (i:=0) O))<|aG m8<|aG ahE<|aE O me (bA _ _ _ _) (bz jJ O O O)<|fun w46 nO=>mB rfl<|mB rfl<|fW 43 O (fun h49=> ?_) (fun h49=> ?_)
    .refine V (aO bL O O Fs (nO.blk (i:=0) O))<|aG m8<|aG Mr<|aE O nO (bA _ _ _ _) (bz jJ O O O)<|fun w50 u7=>V (bK O)<|mB rfl<|aa<|bQ O (fun h54=> ?_) (fun h54=> ?_)
     .refine au<|va (v:=B false) rfl<|aa<|au<|aG m8<|V (ax O O J)<|aI rfl<|aa<| ?_
      refine⟨v+1,aW,Ho.u4.u4.u4.u4.u4.u4.u1,u7,(aJ B AY),(aJ I aM),J,J⟩
     refine ak<|au<|aG m8<|V (ax O O J)<|aI rfl<|aa<| ?_
     refine⟨v+1,aW,Ho.u4.u4.u4.u4.u4.u4,u7,(kZ Fq (aJ B AY)),(aJ I aM),J,J⟩
    refine aG (v:=B false) rfl<|aa<|dm rfl<|ak<|au<|aG m8<|V (ax O O J)<|aI rfl<|aa<| ?_
    refine⟨v+1,aW,Ho.u4.u4.u4.u4.u4.u4,nO,(kZ Fq (aJ B AY)),(aJ I aM),J,J⟩
   refine aG (v:=B false) rfl<|mB rfl<|cD O rfl<|aG (v:=B false) rfl<|aa<|dm rfl<|ak<|au<|aG m8<|V (ax O O J)<|aI rfl<|aa<| ?_
   refine⟨v+1,aW,Ho.u4.u4.u4.u4.u4.u4,me,(kZ Fq (aJ B AY)),(aJ I aM),J,J⟩
  refine aY (id:=2) rfl<|SR<|aG Fq<|aa<|bQ O (fun h55=> ?_) (fun h55=> ?_)
  .refine SR<|aG Mr<|aI rfl<|va (v:=B true) rfl<|aa<|aj<| ?_
   (refine kp O (aJ I ?_) (aJ B ?_) oK.below<;>rw[Sq u0 aQ (show v=pts r by omega) aQ hg])
  refine ak<|au<|aG Mr<|V (ax O O J)<|aI rfl<|aa<| ?_
  refine⟨u+1,aW,(((BE.u4.u4.u4.u4).t Ho O)).u4.u4,oK,(aJ I aM),J,J,?_⟩
  exact fun x a b=>if e:x=u then e▸(by rw[Gy r i j u (show v=pts r by omega)];assumption)else hg x a J
 refine aY (id:=0) rfl<|SR<|va (v:=I 0) rfl<|va (v:=B false) rfl<|aa<|aj<| ?_
 (refine kp O (aJ I ?_) (aJ B ?_) jg.below<;>rw[ajJ aQ hg])
theorem wO(r:Rl)(w:World):Calls Tryz.prog 151 #[.agg (dK r)] w (Pure (B (rV r)) w):=by
 have hp:=dr r
 refine eH func151 rfl rfl fun hH=>SR<|gX hH (v:= .agg _) rfl<|fun b3 w1 a7=>va (v:=B false) rfl<|aa<|ah<|SR<|V (fA bL 0 O bp O)<|lV bt a7 0 O O (fp _)<|V (aL O O)<|mB rfl<|bI 12 O (fun h5=> ?_) (fun h5=> ?_)
 .refine aG (v:=B true) rfl<|mB rfl<|cD O rfl<|aG (v:=B true) rfl<|aa<|cr rfl<|SR<|va (v:=B false) rfl<|aa<|aj<|oB O ?_ a7
  exact(I1 J).symm
 refine V (fA bL 0 O bp O)<|lV bt a7 0 O O (fp _)<|V (dx O O)<|mB rfl<|mB rfl<|bI 17 O (fun h7=> ?_) (fun h7=> ?_)
 .refine aG (v:=B true) rfl<|aa<|cr rfl<|SR<|va (v:=B false) rfl<|aa<|aj<|oB O ?_ a7
  exact(I1 J).symm
 refine V (aO bL O O O (a7.blk (i:=0) O))<|aE O a7 (zc _ _) (aq call148 O)<|fun w8 iv=>V (bK O)<|mB rfl<|aa<|bQ O (fun h12=> ?_) (fun h12=> ?_)
 .refine SR<|va (v:=B false) rfl<|aa<|aj<|oB O ?_ iv
  exact(YF (nt aQ)).symm
 refine ak<|ah<|SR<|va (v:=I 0) rfl<|aa<|aC<|have hn:1<=r.n/\r.n<=64:=J;have ho:fO r=true:=nf aQ;bj (G:=Int) (fun i s' w'=>(Fr (rg 2 7 (rg 22 31 [])) _ s')/\(Hp w w' _)/\(s' 3=I i)/\(0<=i)/\(i<=r.n)/\(∀a b:Int,0<=b->b<a->a<i->s5 r a b=true)) (fun i=>(r.n-i).toNat) (0) ⟨Fr.refl _ _,iv,rfl,J,J,fun a b x y z=>absurd z J⟩<| ?_
 rintro i acf C8 ⟨sV,bY,zQ,i0,i1,hg⟩
 have Fm:=sV.w1 1
 refine ah<|SR<|aG zQ<|V (fA bL 0 O bp Fm)<|lV bt bY 0 O O (fp _)<|V (aL O O)<|aa<|aF O (fun Mj=> ?_) (fun Mj=> ?_)
 .refine ak<|ah<|aC<|SR<|va (v:=I 0) rfl<|aa<|aC<|bj (G:=Int) (fun j s' w'=>(Fr (2::(rg 4 5 (rg 28 25 []))) _ s')/\(Hp w w' _)/\(s' 4=I j)/\(0<=j)/\(j<=i)/\(∀b:Int,0<=b->b<j->s5 r i b=true)) (fun j=>(i-j).toNat) (0) ⟨Fr.refl _ _,bY,rfl,J,J,fun b x y=>absurd y J⟩<| ?_
  rintro j acg Ml ⟨oJ,cF,Ms,j0,j1,hh⟩
  obtain⟨vR,qp⟩:=oJ.t2 1 Fm 3 zQ
  refine ah<|SR<|aG Ms<|aG qp<|V (aL O O)<|aa<|aF O (fun pL=> ?_) (fun pL=> ?_)
  .refine ak<|ah<|aC<|SR<|V (aO bL O O vR (cF.blk (i:=0) O))<|aG qp<|aG Ms<|aE O cF (Aj _ _ _ _) (bz call121 O O O)<|fun Ub cJ=> ?_
   refine V (run_move bC) ?_
   refine V (bD O (v:=I _) O)<|V (bD O (v:=B _) O)<|aI rfl<|aB rfl<|aa<|SR<|V (aO bL O O vR (cJ.blk (i:=0) O))<|aG qp<|aG Ms<|aE O cJ (Ak _ _ _ _) (bz call184 O O O)<|fun Ug eU=> ?_
   refine V (run_move bC) ?_
   refine V (bD O (v:=I _) O)<|V (bD O (v:=B _) O)<|aI rfl<|aB rfl<|aa<|SR<|mB rfl<|V (bK O)<|mB rfl<|fW 49 O (fun h26=> ?_) (fun h26=> ?_)
   .refine aG (v:=B true) rfl<|aa<|cr rfl<|SR<|va (v:=B false) rfl<|aa<|aj<|oB O ?_ eU
    exact(I2 ‹i<r.n› j0 ‹j<i› adr).symm
   refine mB rfl<|V (bK O)<|mB rfl<|aa<|bQ O (fun h28=> ?_) (fun h28=> ?_)
   .refine SR<|va (v:=B false) rfl<|aa<|aj<|oB O ?_ eU
    exact(I2 ‹i<r.n› j0 ‹j<i› adn).symm
   refine ak<|au<|aG Ms<|V (ax O O J)<|aI rfl<|aa<| ?_
   refine⟨j+1,aW,oJ.u4.u4.u4.u4.u4.u4.u4.u1.u1,eU,(aJ I aM),J,J,?_⟩
   exact fun b x y=>if e:b=j then e▸(by rw[s5,cm];exact⟨nf ‹(!(iC r i j).2)=false›,nf ‹(!(pZ r i j).2)=false›⟩)else hh b x J
  refine aY (id:=2) rfl<|au<|aG qp<|V (ax O O J)<|aI rfl<|aa<| ?_
  refine⟨i+1,aW,(((sV.u4.u1).t oJ O)).u4.u1.u1,cF,(aJ I aM),J,J,?_⟩
  exact fun a b x y z=>if e:a=i then e▸hh b x (by omega)else hg a b x y J
 refine aY (id:=0) rfl<|SR<|va (v:=B true) rfl<|aa<|aj<|oB O ?_ bY
 exact(YG hn ho aQ hg).symm
theorem Al(r:Rl)(i:Int)(w:World):Calls Tryz.prog 117 #[.agg (dK r),I i] w (Pure (U (bN r i)) w):=by
 have hp:=dr r
 refine eH func117 rfl rfl fun hH=>SR<|gX hH (v:= .agg _) rfl<|fun b3 w1 a7=>va (v:=U 0#64) rfl<|aa<|SR<|va (v:= .slice none 0 0) rfl<|have gL:=a7.fl 3 1;aa<|ah<|SR<|va (v:=I 0) rfl<|aa<|aC<|bj (G:=Int×(List Int)×Value) (fun⟨k,l,v5⟩ s' w'=>(Fr (rg 5 16 []) _ s')/\(Hp w w' (.row v5 3 1 (l.length) (l.map I)::_))/\(s' 5=v5)/\(s' 6=I k)/\(0<=k)/\(k<=pts r)/\(l=p8 r i k)) (fun⟨k,l,v5⟩=>(pts r-k).toNat) ((0,[],(.slice none 0 0:Value))) ⟨Fr.refl _ _,gL,rfl,rfl,J,J,rfl⟩<| ?_
 rintro⟨k,l,v5⟩ sg5 w5 ⟨fr5,bP,ab4,ahF,k0,k1,hl⟩
 obtain⟨aqB,aqS⟩:=fr5.w2 1 2
 refine ah<|SR<|aG ahF<|V (aO bL O O aqS (bP.blk (i:=1) O))<|aE O bP (bJ _ _) (aq nZ O)<|fun w6 eR=>V (aL O O)<|aa<|aF O (fun h9=> ?_) (fun h9=> ?_)
 .refine ak<|ah<|aC<|SR<|V (aO bL O O aqS (eR.blk (i:=1) O))<|aG ahF<|aG aqB<|aE O eR (bA _ _ _ _) (bz jJ O O O)<|fun Hi dN=>aa<|bQ O (fun Ua=> ?_) (fun Ua=> ?_)
  .refine au<|aG ab4<|aG ahF<|vP 1 1 dN (bZ bq O O (sz:=1) (vs:=[I _]) O O ay ay O O)<|fun b16 Na iu=> ?_
   (try simp only[ot]at iu)
   refine jm O iu (i:=1) O (iu.dQ (i:=0) (n:=1) (sz:=1) O O ay) O O bq O O (size:=1) (bytes:=8) O O O ay jY (by have:= @NU r i k;rw[<-hl]at this;omega) (by have:= @NU r i k;rw[<-hl]at this;simp only[maxLen];omega)<|fun v17 Uc j7=> ?_
   refine V (run_assign bC) ?_
   refine aa<|au<|aG ahF<|V (ax O O J)<|aI rfl<|aa<| ?_
   refine⟨(k+1,l++[k],v17),aW,fr5.u4.u4.u4.u4,(Hp.conv (j7.sub (sQ sR)) aA),rfl,(aJ I aM),J,J,?_⟩
   (rw[hl];exact aaS k0 aQ)
  refine ak<|au<|aG ahF<|V (ax O O J)<|aI rfl<|aa<| ?_
  refine⟨(k+1,l,v5),aW,fr5.u4.u4.u1.u1.u1,(Hp.conv dN aM),ab4,(aJ I aM),J,J,?_⟩
  (rw[hl];exact aer k0 aQ)
 refine aY (id:=0) rfl<|SR<|aG ab4<|aE O eR (gW _ _ _ (eR.sl (i:=0) O)) (aq F9 O)<|fun w20 fD=>aU rfl<|aa<|aj<|oU O ?_ fD
 (rw[hl];exact aaT J)
theorem zf(r:Rl)(s:BitVec 64)(w:World):Calls Tryz.prog 120 #[.agg (dK r),U s] w (Pure (.tuple #[I (eC r s).1,B (eC r s).2]) w):=by
 have hp:=dr r
 refine eH func120 rfl rfl fun hH=>SR<|gX hH (v:= .agg _) rfl<|fun b3 w1 a7=>va (v:=I 0) rfl<|va (v:=B false) rfl<|aa<|ah<|SR<|va (v:=I 0) rfl<|aa<|aC<|bj (G:=Int) (fun k s' w'=>(Fr (rg 4 15 []) _ s')/\(Hp w w' _)/\(s' 6=I k)/\(0<=k)/\(k<=pts r)/\(∀j:Int,0<=j->j<k->bN r j≠s)) (fun k=>(pts r-k).toNat) (0) ⟨Fr.refl _ _,a7,rfl,J,J,fun j x y=>absurd y J⟩<| ?_
 rintro k sg4 w4 ⟨BE,gL,Ed,h0,hk,hg⟩
 obtain⟨yY,IE⟩:=BE.w2 1 2
 refine ah<|SR<|aG Ed<|V (aO bL O O IE (gL.blk (i:=0) O))<|aE O gL (bJ _ _) (aq nZ O)<|fun w5 jg=>V (aL O O)<|aa<|aF O (fun h8=> ?_) (fun h8=> ?_)
 .refine ak<|ah<|aC<|SR<|V (aO bL O O IE (jg.blk (i:=0) O))<|aG Ed<|aE O jg (Al _ _ _) (aK call117 O O)<|fun w9 bS=>aG yY<|V (jb O O)<|aa<|aF O (fun h12=> ?_) (fun h12=> ?_)
  .refine SR<|aG Ed<|aI rfl<|va (v:=B true) rfl<|aa<|aj<| ?_
   refine kp O (aJ I ?_) (aJ B ?_) bS.below<;>rw[Cg h0 aQ aQ hg]
  refine ak<|au<|aG Ed<|V (ax O O J)<|aI rfl<|aa<| ?_
  refine⟨k+1,aW,BE.u4.u4.u4,bS,(aJ I aM),J,J,?_⟩
  exact fun j x y=>if e:j=k then e▸‹¬bN r k=s›else hg j x J
 refine aY (id:=0) rfl<|SR<|va (v:=I 0) rfl<|va (v:=B false) rfl<|aa<|aj<| ?_
 refine kp O (aJ I ?_) (aJ B ?_) jg.below<;>rw[EH aQ hg]
theorem zg(r:Rl)(w:World):Calls Tryz.prog 137 #[.agg (dK r)] w (Pure (B (cZ r)) w):=by
 refine eH func137 rfl rfl fun hH=>SR<|gX hH (v:= .agg _) rfl<|fun b3 w1 a7=>va (v:=B false) rfl<|aa<|SR<|V (fA bL 0 O bp O)<|lV bt a7 0 O O (fp _)<|V (di O O)<|mB rfl<|bI 6 O (fun h5=> ?_) (fun h5=> ?_)
 .refine V (fA bL 0 O bp O)<|lV bt a7 0 O O (fp _)<|V (yh O O)<|mB rfl<|mB rfl<|bI 11 O (fun h7=> ?_) (fun h7=> ?_)
  .refine V (aO bL O O O (a7.blk (i:=0) O))<|aE O a7 (zO _ _) (aq call166 O)<|fun w8 iv=>mB rfl<|aB rfl<|aa<|aj<|oB O ?_ iv
   rw[cZ,gq (show 1<=r.n/\r.n<=8 by omega),po]
  refine aG (v:=B false) rfl<|aB rfl<|aa<|aj<|oB O ?_ a7
  rw[cZ,gm (show¬(1<=r.n/\r.n<=8)by omega),pU]
 refine aG (v:=B false) rfl<|mB rfl<|cD O rfl<|aG (v:=B false) rfl<|aB rfl<|aa<|aj<|oB O ?_ a7
 rw[cZ,gm (show¬(1<=r.n/\r.n<=8)by omega),pU]
theorem XO(r:Rl)(s:BitVec 64)(o:Int)(ho:0<=o/\o<8)(w:World):Calls Tryz.prog 241 #[.agg (dK r),U s,I o] w (Pure (U (HR r s o)) w):=by
 refine eH func241 rfl rfl fun hH=>SR<|gX hH (v:= .agg _) rfl<|fun b3 w1 a7=>va (v:=U 0#64) rfl<|aa<|SR<|mU rfl<|mI rfl<|V (B6 O O J)<|V (kF bt DB O)<|V (Ew O O)<|V (fA bL 0 O bp O)<|lV bt a7 0 O O (fp _)<|aE O a7 (ny _ _) (aq F8 O)<|fun w4 bP=>V (lY O O)<|aU rfl<|aa<|aj<|oU O ?_ bP
 rfl
theorem Uk(r:Rl)(f:FuncId)(cs:List Value)(ff:Int->BitVec 64)(hn:1<=r.n/\r.n<=8)(w:World)(hf:∀args w,(callFunc f args).run Tryz.prog w= .ok (.enter f args) w)(go:∀i w',Below w.heap.size w w'->0<=i->i<r.n->Calls Tryz.prog f (I i::cs).toArray w' (Pure (U (ff i)) w')):Calls Tryz.prog 239 #[.agg (dK r),.func (.func f) #[] cs.toArray] w (Pure (U (vB ff r.n)) w):=by
 refine eH func239 rfl rfl fun hH=>SR<|gX hH (v:= .agg _) rfl<|fun b3 w1 a7=>va (v:=U 0#64) rfl<|aa<|SR<|va (v:=U 0#64) rfl<|aa<|ah<|SR<|V (fA bL 0 O bp O)<|lV bt a7 0 O O (fp _)<|aG (v:=I 0) rfl<|aa<|aC<|bj (G:=Int) (fun k s' w'=>(Fr (5::6::(rg 9 13 [])) _ s')/\(Hp w w' _)/\(s' 5=U (vB ff k))/\(s' 9=I k)/\(0<=k)/\(k<=r.n)) (fun k=>(r.n-k).toNat) (0) ⟨Fr.refl _ _,a7,rfl,rfl,J,J⟩<| ?_
 rintro k sg4 w4 ⟨BE,gL,Fj,aci,h0,hk⟩
 have yY:=BE.vv 1 (a:= .func _ _ _) rfl rfl
 have Hj:=BE.w1 8
 refine SR<|V (aL aci Hj)<|aa<|ah<|aF O (fun h6=> ?_) (fun h6=> ?_)
 .refine ak<|ah<|aC<|SR<|aG aci<|aI rfl<|aa<|au<|aG Fj<|aG yY<|mI rfl<|aE O gL (go _ _ gL.below J J) (kH hf (cs:=cs) O O)<|fun w7 eX=>mI rfl<|V (B6 O O J)<|V (kF bt DB O)<|V (J9 O O)<|V (jj O O)<|aU rfl<|aa<|au<|V (ax aci O J)<|mI rfl<|aa<| ?_
  refine⟨k+1,aW,BE.u4.u4.u4.u1.u1.u1,eX,(aJ U (GC h0)),(aJ I aM),J,J⟩
 refine aY (id:=0) rfl<|SR<|aG Fj<|aU rfl<|aa<|aj<|oU O ?_ gL
 (rw[show k=r.n by omega])
theorem Mt(b c:Nat)(r:Rl)(s:BitVec 64)(o:Int)(hr:cZ r=true)(w:World)(hb:w.heap[b]?=some (.cells (dK r) 86 (0,0)))(hc:w.heap[c]?=some (.cells #[U s] 35 (0,0)))(hT:oq w):Calls Tryz.prog 240 #[I o,.pointer (some ⟨b,0,none⟩),.pointer (some ⟨c,0,none⟩)] w (Pure (U (GD r s o)) w):=by
 have hl:=EA (upR r (kq [o]))
 refine eH func240 rfl rfl fun hH=>SR<|va (v:=U 0#64) rfl<|aa<|SR<|va (v:=U 0#64) rfl<|aa<|ah<|ah<|eu aN hH<|fun w1 a7=>have j8:=a7;AT 0 O j8 (fun w hS=>aO bL O O O (hS.ext hb))<|AQ 1 O j8 (mV (I _) O)<|AQ 7 O j8 (mV (I 0) O)<|A1 2<|cN O aH O a7 sR (f:=fun b=> .slice (some ⟨b,0,none⟩) 1 1) (bZ bq O O (sz:=1) (vs:=[I _]) O O ay ay O O)<|fun b5 w3 gL=> ?_
 (try simp only[ot]at gL)
 have jg:=gL.A9 1 1 O ay
 refine A1 3<|cC O aH O jg (sQ sR) (xD _ [o] _ (jg.sl (i:=0) O)) (aq call203 O)<|fun w7 eX=>A1 4<|cC O aH O eX (sQ sR) (BH _ _ _ (hT.hp eX)) (aK call209 O O)<|fun w9 bS=>A1 5<|Kg O aH O bS (sQ sR) (BF _ _ (hT.hp bS)) (aq call233 O)<|fun v13 H9 cQ=>A1 6<|bW O aH O cQ (sQ (sQ sR)) (aD (cQ.sl (i:=0) O) O bq O)<|AD<|aC<|bj (G:=Int) (fun k s' w'=>(Fr (5::(7::(rg 15 13 []))) _ s')/\(Hp w w' _)/\(s' 5=U (vp (fun p=>CT r (HR r s p)) ((fZ (upR r (kq [o]))).take k.toNat)))/\(s' 15=I k)/\(0<=k)/\(k<=(fZ (upR r (kq [o]))).length)) (fun k=>((fZ (upR r (kq [o]))).length-k).toNat) (0) ⟨Fr.refl _ _,cQ,(aJ U (by simp[vp])),rfl,J,J⟩<| ?_
 rintro k acg Ml ⟨oJ,cF,Dd,XP,h0,hk⟩
 obtain⟨vR,Ui,aqT,aqU⟩:=oJ.w4 1 2 13 14
 refine SR<|V (aL XP aqU)<|aa<|ah<|aF O (fun pL=> ?_) (fun pL=> ?_)
 .refine ak<|ah<|aC<|SR<|V (ag (cF.sl (i:=0) O) bq bp aqT XP J)<|V (az bt O O ((cF.sl (i:=0) O).cell _ _ (ew J)))<|aI rfl<|aa<|eu aN cF<|fun Ub cJ=>have zh:=cJ;AQ 0 O zh (run_move Dd)<|AT 1 O zh (fun w hS=>aO bL O O vR (hS.ext hb))<|AT 2 O zh (fun w hS=>aO bL O O vR (hS.ext hb))<|AT 3 O zh (fun w hS=>az dU O Ui (hS.dY hc (v:=U _) O))<|AQ 4 O zh (mV (I _) O)<|A1 5<|cC O aH O cJ sR (XO _ _ _ (aew hr (Wq h0 aQ)) _) (bz call241 O O O)<|fun Nr c8=>A1 6<|cC O aH O c8 sR (wK _ _ _) (aK call211 O O)<|fun w23 qB=>AQ 7 O qB (jj O O)<|AQ 8 O qB (aV (U _) O)<|AD<|au<|V (ax XP O J)<|mI rfl<|aa<| ?_
  refine⟨k+1,aW,oJ.u4.u4.u4.u1.u1.u1,qB,(aJ U (Kp (f:=fun p=>CT r (HR r s p)) h0 aQ)),(aJ I aM),J,J⟩
 refine aY (id:=0) rfl<|SR<|aG Dd<|aU rfl<|aa<|aj<|oU O ?_ cF
 (rw[Kn aQ];rfl)
theorem Q8(r:Rl)(s:BitVec 64)(w:World)(hT:oq w):Calls Tryz.prog 213 #[.agg (dK r),U s] w (Pure (U (fy r s)) w):=by
 refine eH func213 rfl rfl fun hH=>SR<|gX hH (v:= .agg _) rfl<|fun b3 w1 a7=>gX a7 (v:=U _) rfl<|fun b6 w4 bP=>va (v:=U 0#64) rfl<|aa<|ah<|SR<|V (aO bL O O O (bP.blk (i:=1) O))<|aE O bP (zg _ _) (aq call137 O)<|fun w7 eX=>V (bK O)<|aa<|bQ O (fun h11=> ?_) (fun h11=> ?_)
 .refine SR<|va (v:=U 0#64) rfl<|aa<|aj<|oU O ?_ eX
  exact(Sy (nt aQ)).symm
 refine ak<|SR<|V (aO bL O O O (eX.blk (i:=1) O))<| ?_
 refine V (rP bC bC) ?_
 refine aE O eX (Uk r 240 [.pointer (some ⟨b3,0,none⟩),.pointer (some ⟨b6,0,none⟩)] (GD r s) (gx (nf ‹(!cZ r)=false›)).1 _ call240 (fun i w h _ _=>Mt b3 b6 r s i (nf ‹(!cZ r)=false›) w (keep h (eX.blk (i:=1) O)) (keep h (eX.blk (i:=0) O)) ((hT.hp eX).below h))) (aK call239 O O)<|fun Cx bY=>aU rfl<|aa<|aj<|oU O ?_ bY
 exact aaW (nf aQ)
theorem Nu(r:Rl)(s:BitVec 64)(w:World)(hT:oq w):Calls Tryz.prog 180 #[.agg (dK r),U s] w (Pure (B (oN r s)) w):=by
 refine eH func180 rfl rfl fun hH=>SR<|gX hH (v:= .agg _) rfl<|fun b3 w1 a7=>va (v:=B false) rfl<|aa<|SR<|V (aO bL O O O (a7.blk (i:=0) O))<|aE O a7 (zg _ _) (aq call137 O)<|fun w4 bP=>mB rfl<|fW 7 O (fun h7=> ?_) (fun h7=> ?_)
 .refine V (aO bL O O O (bP.blk (i:=0) O))<|mU rfl<|aE O bP (Q8 _ _ _ (hT.hp bP)) (aK call213 O O)<|fun w8 iv=>mU rfl<|V (jb O O)<|mB rfl<|aB rfl<|aa<|aj<|oB O ?_ iv
  (rw[oN,‹cZ r=true›];rfl)
 refine aG (v:=B false) rfl<|aB rfl<|aa<|aj<|oB O ?_ bP
 (rw[oN,‹cZ r=false›];rfl)
theorem qq(r:Rl)(w:World):Calls Tryz.prog 146 #[.agg (dK r)] w (Pure (B (cZ r)) w):=by
 refine eH func146 rfl rfl fun hH=>SR<|gX hH (v:= .agg _) rfl<|fun b3 w1 a7=>va (v:=B false) rfl<|aa<|SR<|V (fA bL 0 O bp O)<|lV bt a7 0 O O (fp _)<|V (di O O)<|mB rfl<|bI 6 O (fun h5=> ?_) (fun h5=> ?_)
 .refine V (fA bL 0 O bp O)<|lV bt a7 0 O O (fp _)<|V (yh O O)<|mB rfl<|mB rfl<|bI 11 O (fun h7=> ?_) (fun h7=> ?_)
  .refine V (aO bL O O O (a7.blk (i:=0) O))<|aE O a7 (pE _ _) (aq call182 O)<|fun w8 iv=>mB rfl<|aB rfl<|aa<|aj<|oB O ?_ iv
   rw[cZ,gq (show 1<=r.n/\r.n<=8 by omega),po]
  refine aG (v:=B false) rfl<|aB rfl<|aa<|aj<|oB O ?_ a7
  rw[cZ,gm (show¬(1<=r.n/\r.n<=8)by omega),pU]
 refine aG (v:=B false) rfl<|mB rfl<|cD O rfl<|aG (v:=B false) rfl<|aB rfl<|aa<|aj<|oB O ?_ a7
 rw[cZ,gm (show¬(1<=r.n/\r.n<=8)by omega),pU]
theorem BI(r:Rl)(s:BitVec 64)(o x:Int)(hn:1<=r.n/\r.n<=8)(w:World):Calls Tryz.prog 216 #[.agg (dK r),U s,I o,I x] w (Pure (B (EI r s o x)) w):=by
 refine eH func216 rfl rfl fun hH=>SR<|gX hH (v:= .agg _) rfl<|fun b3 w1 a7=>va (v:=B false) rfl<|aa<|SR<|mI rfl<|V (di O O)<|mB rfl<|bI 11 O (fun h5=> ?_) (fun h5=> ?_)
 .refine mI rfl<|V (di O O)<|mB rfl<|mB rfl<|bI 15 O (fun h7=> ?_) (fun h7=> ?_)
  .refine mI rfl<|V (fA bL 0 O bp O)<|lV bt a7 0 O O (fp _)<|V (aL O O)<|mB rfl<|mB rfl<|bI 21 O (fun h9=> ?_) (fun h9=> ?_)
   .refine mI rfl<|V (fA bL 0 O bp O)<|lV bt a7 0 O O (fp _)<|V (aL O O)<|mB rfl<|mB rfl<|bI 27 O (fun h11=> ?_) (fun h11=> ?_)
    .refine mU rfl<|mI rfl<|V (B6 O O J)<|mI rfl<|V (ax O O J)<|aE O a7 (sx _ _ _) (aK call102 O O)<|fun Cx bY=>mB rfl<|aB rfl<|aa<|aj<|oB O ?_ bY
     rw[EI,gq J,po]
    refine aG (v:=B false) rfl<|aB rfl<|aa<|aj<|oB O ?_ a7
    rw[EI,gm J,pU]
   refine aG (v:=B false) rfl<|mB rfl<|cD O rfl<|aG (v:=B false) rfl<|aB rfl<|aa<|aj<|oB O ?_ a7
   rw[EI,gm J,pU]
  refine aG (v:=B false) rfl<|mB rfl<|cD O rfl<|aG (v:=B false) rfl<|mB rfl<|cD O rfl<|aG (v:=B false) rfl<|aB rfl<|aa<|aj<|oB O ?_ a7
  rw[EI,gm J,pU]
 refine aG (v:=B false) rfl<|mB rfl<|cD O rfl<|aG (v:=B false) rfl<|mB rfl<|cD O rfl<|aG (v:=B false) rfl<|mB rfl<|cD O rfl<|aG (v:=B false) rfl<|aB rfl<|aa<|aj<|oB O ?_ a7
 rw[EI,gm J,pU]
theorem wP(r:Rl)(s:BitVec 64)(o x:Int)(hn:1<=r.n/\r.n<=8)(w:World):Calls Tryz.prog 186 #[.agg (dK r),U s,I o,I x] w (Pure (B (Qf r s o x)) w):=by
 refine eH func186 rfl rfl fun hH=>SR<|gX hH (v:= .agg _) rfl<|fun b3 w1 a7=>va (v:=B false) rfl<|aa<|ah<|SR<|va (v:=I 0) rfl<|aa<|aC<|bj (G:=Int) (fun p s' w'=>(Fr (rg 8 32 []) _ s')/\(Hp w w' _)/\(s' 9=I p)/\(0<=p)/\(p<=r.n)/\(∀q y:Int,0<=q->q<p->¬(EI r s q y=true/\bE r o q=true/\bE r x y=true))) (fun p=>(r.n-p).toNat) (0) ⟨Fr.refl _ _,a7,rfl,J,J,fun q y a b=>absurd b J⟩<| ?_
 rintro p sg4 w4 ⟨BE,gL,aci,p0,p1,hf⟩
 obtain⟨yY,IE,xE,T7⟩:=BE.w4 1 2 3 4
 refine ah<|SR<|aG aci<|V (fA bL 0 O bp T7)<|lV bt gL 0 O O (fp _)<|V (aL O O)<|aa<|aF O (fun h6=> ?_) (fun h6=> ?_)
 .refine ak<|ah<|aC<|SR<|va (v:=I 0) rfl<|aa<|aC<|bj (G:=Int) (fun y s' w'=>(Fr (8::(10::(rg 17 23 []))) _ s')/\(Hp w w' _)/\(s' 10=I y)/\(0<=y)/\(y<=r.n)/\(∀z:Int,0<=z->z<y->¬(EI r s p z=true/\bE r o p=true/\bE r x z=true))) (fun y=>(r.n-y).toNat) (0) ⟨Fr.refl _ _,gL,rfl,J,J,fun z a b=>absurd b J⟩<| ?_
  rintro y sg7 w7 ⟨Es,eR,O0,y0,y1,hg⟩
  obtain⟨acj,aqV,ack,Hq,Nv⟩:=Es.t5 1 yY 2 IE 3 xE 4 T7 9 aci
  refine ah<|SR<|aG O0<|V (fA bL 0 O bp Hq)<|lV bt eR 0 O O (fp _)<|V (aL O O)<|aa<|aF O (fun h9=> ?_) (fun h9=> ?_)
  .refine ak<|ah<|aC<|SR<|V (aO bL O O Hq (eR.blk (i:=0) O))<|aG acj<|aG Nv<|aG O0<|aE O eR (BI _ _ _ _ oY _) (iQ call216 O O O O)<|fun Hi dN=>mB rfl<|fW 28 O (fun Ua=> ?_) (fun Ua=> ?_)
   .refine V (aO bL O O Hq (dN.blk (i:=0) O))<|aG aqV<|aG Nv<|aE O dN (bA _ _ _ _) (bz jJ O O O)<|fun Na iu=>mB rfl<|mB rfl<|fW 34 O (fun Q9=> ?_) (fun Q9=> ?_)
    .refine V (aO bL O O Hq (iu.blk (i:=0) O))<|aG ack<|aG O0<|aE O iu (bA _ _ _ _) (bz jJ O O O)<|fun Uc j7=>mB rfl<|aa<|bQ O (fun Q6=> ?_) (fun Q6=> ?_)
     .refine SR<|va (v:=B true) rfl<|aa<|aj<|oB O ?_ j7
      exact(I6.2 ⟨p,y,aQ,aQ,aQ⟩).symm
     refine ak<|au<|aG O0<|V (ax O O J)<|aI rfl<|aa<| ?_
     refine⟨y+1,aW,Es.u4.u4.u4.u4.u4.u4,j7,(aJ I aM),J,J,?_⟩
     exact fun z a b h=>if e:z=y then(by subst e;simp_all)else hg z a J h
    refine aG (v:=B false) rfl<|aa<|dm rfl<|ak<|au<|aG O0<|V (ax O O J)<|aI rfl<|aa<| ?_
    refine⟨y+1,aW,Es.u4.u4.u4.u4.u4.u4,iu,(aJ I aM),J,J,?_⟩
    exact fun z a b h=>if e:z=y then(by subst e;simp_all)else hg z a J h
   refine aG (v:=B false) rfl<|mB rfl<|cD O rfl<|aG (v:=B false) rfl<|aa<|dm rfl<|ak<|au<|aG O0<|V (ax O O J)<|aI rfl<|aa<| ?_
   refine⟨y+1,aW,Es.u4.u4.u4.u4.u4.u4,dN,(aJ I aM),J,J,?_⟩
   exact fun z a b h=>if e:z=y then(by subst e;simp_all)else hg z a J h
  refine aY (id:=2) rfl<|au<|aG Nv<|V (ax O O J)<|aI rfl<|aa<| ?_
  refine⟨p+1,aW,(((BE.u4.u1).t Es O)).u4.u1.u1.u1,eR,(aJ I aM),J,J,?_⟩
  exact fun q y a b h=>if e:q=p then hg y (Ch.1 h.1).1.2.1 (by have:=(Ch.1 h.1).1;omega) (e▸h)else hf q y a J h
 refine aY (id:=0) rfl<|SR<|va (v:=B false) rfl<|aa<|aj<|oB O ?_ gL
 exact(aes aQ hf).symm
theorem zi(r:Rl)(s:BitVec 64)(w:World):Calls Tryz.prog 153 #[.agg (dK r),U s] w (Pure (U (fy r s)) w):=by
 refine eH func153 rfl rfl fun hH=>SR<|gX hH (v:= .agg _) rfl<|fun b3 w1 a7=>va (v:=U 0#64) rfl<|aa<|SR<|va (v:= .slice none 0 0) rfl<|have gL:=a7.fl 3 1;aa<|ah<|SR<|V (aO bL O O O (gL.blk (i:=1) O))<|aE O gL (qq _ _) (aq call146 O)<|fun w5 jg=>V (bK O)<|aa<|bQ O (fun h9=> ?_) (fun h9=> ?_)
 .refine SR<|va (v:=U 0#64) rfl<|aa<|aj<|oU O ?_ jg
  exact(Sy (nt aQ)).symm
 refine ak<|ah<|SR<|va (v:=I 0) rfl<|aa<|aC<|have hr:cZ r=true:=nf aQ;have hs:=gx hr;bj (G:=Int×(List Int)×Value) (fun⟨o,l,v5⟩ s' w'=>(Fr (rg 5 3 (rg 11 24 [])) _ s')/\(Hp w w' (.row v5 3 1 (l.length) (l.map I)::_))/\(s' 5=v5)/\(s' 6=I o)/\(0<=o)/\(o<=r.n)/\(l=Ba r s o)) (fun⟨o,l,v5⟩=>(r.n-o).toNat) ((0,[],(.slice none 0 0:Value))) ⟨Fr.refl _ _,jg,rfl,rfl,J,J,rfl⟩<| ?_
 rintro⟨o,l,v5⟩ XQ Hi ⟨rJ,bS,Mu,Ft,o0,o1,hl⟩
 obtain⟨ahG,Fu,O1⟩:=rJ.w3 1 2 4
 refine ah<|SR<|aG Ft<|V (fA bL 0 O bp Fu)<|lV bt bS 1 O O (fp _)<|V (aL O O)<|aa<|aF O (fun h12=> ?_) (fun h12=> ?_)
 .refine ak<|ah<|aC<|SR<|va (v:=I 0) rfl<|aa<|aC<|bj (G:=Int×(List Int)×Value) (fun⟨x,l2,v5⟩ s' w'=>(Fr (5::(7::(rg 17 18 []))) _ s')/\(Hp w w' (.row v5 3 1 (l2.length) (l2.map I)::_))/\(s' 5=v5)/\(s' 7=I x)/\(0<=x)/\(x<=r.n)/\(l2=Ba r s o++DU r s o x)) (fun⟨x,l2,v5⟩=>(r.n-x).toNat) ((0,l,(v5:Value))) ⟨Fr.refl _ _,bS,Mu,rfl,J,J,(by rw[hl,DU];simp[upto])⟩<| ?_
  rintro⟨x,l2,v5⟩ acf C8 ⟨sV,bY,Mv,Ul,x0,x1,h2⟩
  obtain⟨Fm,anJ,O2⟩:=sV.t3 1 ahG 2 Fu 6 Ft
  refine ah<|SR<|aG Ul<|V (fA bL 0 O bp anJ)<|lV bt bY 1 O O (fp _)<|V (aL O O)<|aa<|aF O (fun Mj=> ?_) (fun Mj=> ?_)
  .refine ak<|ah<|aC<|SR<|V (aO bL O O anJ (bY.blk (i:=1) O))<|aG Fm<|aG O2<|aG Ul<|aE O bY (wP _ _ _ _ J _) (iQ call186 O O O O)<|fun Ml er=>aa<|bQ O (fun Mf=> ?_) (fun Mf=> ?_)
   .refine au<|aG Mv<|aG O2<|V (B6 O O J)<|aG Ul<|V (ax O O J)<|vP 1 1 er (bZ bq O O (sz:=1) (vs:=[I _]) O O ay ay O O)<|fun b22 w20 fD=> ?_
    (try simp only[ot]at fD)
    refine jm O fD (i:=1) O (fD.dQ (i:=0) (n:=1) (sz:=1) O O ay) O O bq O O (size:=1) (bytes:=8) O O O ay jY (by rw[h2];have:= @KG r s o hs.1.2 J;have:= @KF r s o x;simp;omega) (by rw[h2];have:= @KG r s o hs.1.2 J;have:= @KF r s o x;simp only[maxLen];simp;omega)<|fun v23 w24 mc=> ?_
    refine V (run_assign bC) ?_
    refine aa<|au<|aG Ul<|V (ax O O J)<|aI rfl<|aa<| ?_
    refine⟨(x+1,l2++[8*o+x],v23),aW,sV.u4.u4.u4.u4.u4,(Hp.conv (mc.sub (sQ sR)) aA),rfl,(aJ I aM),J,J,?_⟩
    (rw[h2];(rw[dg,aet x0 aQ]))
   refine ak<|au<|aG Ul<|V (ax O O J)<|aI rfl<|aa<| ?_
   refine⟨(x+1,l2,v5),aW,sV.u4.u4.u4,(Hp.conv er aM),Mv,(aJ I aM),J,J,?_⟩
   (rw[h2];(rw[ajQ x0 aQ]))
  refine aY (id:=2) rfl<|au<|aG O2<|V (ax O O J)<|aI rfl<|aa<| ?_
  refine⟨(o+1,l2,v5),aW,(((rJ.u4.u1).t sV O)).u4.u1.u1.u1,(Hp.conv bY aM),Mv,(aJ I aM),J,J,?_⟩
  (rw[h2];exact Sz o0 J)
 refine aY (id:=0) rfl<|SR<|aG Mu<|aE O bS (gW _ _ _ (bS.sl (i:=0) O)) (aq F9 O)<|fun Uj dw=>aU rfl<|aa<|aj<|oU O ?_ dw
 (rw[hl];exact aaX hr J)
theorem De(c:Int)(w:World):Calls Tryz.prog 197 #[.int .u8 c] w (Pure (B (iP c)) w):=by
 refine eH func197 rfl rfl fun hH=>SR<|va (v:=B false) rfl<|aa<|SR<|aG (v:= .int _ _) rfl<|V (di O O)<|mB rfl<|bI 5 O (fun h2=> ?_) (fun h2=> ?_)
 .refine aG (v:= .int _ _) rfl<|V (yh O O)<|mB rfl<|aB rfl<|aa<|aj<|oB O ?_ hH
  (rw[iP,gd];simp only[dP,sZ,ya];omega)
 refine aG (v:=B false) rfl<|aB rfl<|aa<|aj<|oB O ?_ hH
 (rw[iP,gd];simp only[dP,sZ,ya];omega)
theorem pF(c:Int)(w:World):Calls Tryz.prog 113 #[.int .u8 c] w (Pure (B (iP c)) w):=by
 refine eH func113 rfl rfl fun hH=>SR<|va (v:=B false) rfl<|aa<|SR<|aG (v:= .int _ _) rfl<|V (di O O)<|mB rfl<|bI 5 O (fun h2=> ?_) (fun h2=> ?_)
 .refine aG (v:= .int _ _) rfl<|V (yh O O)<|mB rfl<|aB rfl<|aa<|aj<|oB O ?_ hH
  (rw[iP,gd];simp only[dP,sZ,ya];omega)
 refine aG (v:=B false) rfl<|aB rfl<|aa<|aj<|oB O ?_ hH
 (rw[iP,gd];simp only[dP,sZ,ya];omega)
theorem Um(c:Int)(w:World):Calls Tryz.prog 198 #[.int .u8 c] w (Pure (B (s4 c)) w):=by
 refine eH func198 rfl rfl fun hH=>SR<|va (v:=B false) rfl<|aa<|SR<|aG (v:= .int _ _) rfl<|aE O hH (De _ _) (aq call197 O)<|fun w1 a7=>mB rfl<|fW 5 O (fun h4=> ?_) (fun h4=> ?_)
 .refine gP O O rfl<|gP O O rfl<|A7<|aG (v:=B true) rfl<|mB rfl<|cD O rfl<|aG (v:=B true) rfl<|aB rfl<|aa<|aj<|oB O ?_ a7
  exact(Bb aQ).symm
 refine aG (v:= .int _ _) rfl<|V (di O O)<|mB rfl<|bI 8 O (fun h6=> ?_) (fun h6=> ?_)
 .refine aG (v:= .int _ _) rfl<|V (yh O O)<|mB rfl<|mB rfl<|mB rfl<|bI 13 O (fun h8=> ?_) (fun h8=> ?_)
  .refine aG (v:=B true) rfl<|aB rfl<|aa<|aj<|oB O ?_ a7
   (have hlc:=‹iP c=false›;rw[iP,vi]at hlc;rw[s4,gd];simp only[dP,sZ,ya,true_iff];omega)
  refine aG (v:= .int _ _) rfl<|V (bO O O)<|mB rfl<|aB rfl<|aa<|aj<|oB O ?_ a7
  (have hlc:=‹iP c=false›;rw[iP,vi]at hlc;rw[s4,gd];simp only[dP,sZ,ya,true_iff];omega)
 refine aG (v:=B false) rfl<|mB rfl<|mB rfl<|cD O rfl<|aG (v:= .int _ _) rfl<|V (bO O O)<|mB rfl<|aB rfl<|aa<|aj<|oB O ?_ a7
 (have hlc:=‹iP c=false›;rw[iP,vi]at hlc;rw[s4,gd];simp only[dP,sZ,ya,true_iff];omega)
theorem Ra(s:Tx)(w:World):Calls Tryz.prog 164 #[S s] w (Pure (B (gY s)) w):=by
 have htx:= @ao3 s
 refine eH func164 rfl rfl fun hH=>SR<|va (v:=B false) rfl<|aa<|ah<|SR<|aG (v:= .string _) rfl<|V (KO O O)<|mB rfl<|bI 6 O (fun h2=> ?_) (fun h2=> ?_)
 .refine aG (v:=B true) rfl<|mB rfl<|cD O rfl<|aG (v:=B true) rfl<|aa<|cr rfl<|SR<|va (v:=B false) rfl<|aa<|aj<|oB O ?_ hH
  exact(Ci (by have:=htx.1 ‹s=o4›;omega)).symm
 refine aG (v:= .string _) rfl<|V (kG O gK O)<|V (dx O O)<|mB rfl<|mB rfl<|bI 11 O (fun h4=> ?_) (fun h4=> ?_)
 .refine aG (v:=B true) rfl<|aa<|cr rfl<|SR<|va (v:=B false) rfl<|aa<|aj<|oB O ?_ hH
  exact(Ci J).symm
 refine aG (v:= .string _) rfl<|V (rX gK O O (by have:=mt htx.2 ‹¬s=o4›;omega))<|aE O hH (De _ _) (aq call197 O)<|fun w5 jg=>V (bK O)<|mB rfl<|aa<|bQ O (fun h9=> ?_) (fun h9=> ?_)
 .refine SR<|va (v:=B false) rfl<|aa<|aj<|oB O ?_ jg
  exact(NY (nt aQ)).symm
 refine ak<|ah<|SR<|aG (v:= .string _) rfl<|V (kG O gK O)<|aG (v:=I 0) rfl<|aa<|aC<|have hsz:1<=s.size/\s.size<=16:=⟨by have:=mt htx.2 ‹¬s=o4›;omega,J⟩;bj (G:=Int) (fun k s' w'=>(Fr (2::3::(rg 19 9 [])) _ s')/\(Hp w w' _)/\(s' 19=I k)/\(0<=k)/\(k<=s.size)/\(∀j:Int,0<=j->j<k->s4 (qY s j)=true)) (fun k=>(s.size-k).toNat) (0) ⟨Fr.refl _ _,jg,rfl,J,J,fun j a b=>absurd b J⟩<| ?_
 rintro k XQ Hi ⟨rJ,bS,XR,h0,hk,hf⟩
 obtain⟨Df,aqW⟩:=rJ.w2 0 18
 refine SR<|V (aL XR aqW)<|aa<|ah<|aF O (fun h12=> ?_) (fun h12=> ?_)
 .refine ak<|ah<|aC<|SR<|aG XR<|aI rfl<|aa<|SR<|aG Df<|mI rfl<|V (rX gK O O J)<|aE O bS (Um _ _) (aq call198 O)<|fun C8 cw=>V (bK O)<|aa<|bQ O (fun Q9=> ?_) (fun Q9=> ?_)
  .refine SR<|va (v:=B false) rfl<|aa<|aj<|oB O ?_ cw
   exact(GG h0 aQ (nt aQ)).symm
  refine ak<|au<|V (ax XR O J)<|mI rfl<|aa<| ?_
  refine⟨k+1,aW,rJ.u4.u4.u1.u1,cw,(aJ I aM),J,J,?_⟩
  exact fun j a b=>if e:j=k then e▸nf ‹_›else hf j a J
 refine aY (id:=0) rfl<|SR<|va (v:=B true) rfl<|aa<|aj<|oB O ?_ bS
 exact(N0 hsz (nf aQ) aQ hf).symm
theorem gU(s:Tx)(w:World):Calls Tryz.prog 74 #[S s] w (Pure (B (gY s)) w):=by
 refine eH func74 rfl rfl fun hH=>SR<|va (v:=B false) rfl<|aa<|ah<|SR<|aG (v:= .string _) rfl<|V (kG O gK O)<|V (aL O O)<|mB rfl<|bI 7 O (fun h2=> ?_) (fun h2=> ?_)
 .refine aG (v:=B true) rfl<|mB rfl<|cD O rfl<|aG (v:=B true) rfl<|aa<|cr rfl<|SR<|va (v:=B false) rfl<|aa<|aj<|oB O ?_ hH
  exact(Ci J).symm
 refine aG (v:= .string _) rfl<|V (kG O gK O)<|V (dx O O)<|mB rfl<|mB rfl<|bI 12 O (fun h4=> ?_) (fun h4=> ?_)
 .refine aG (v:=B true) rfl<|aa<|cr rfl<|SR<|va (v:=B false) rfl<|aa<|aj<|oB O ?_ hH
  exact(Ci J).symm
 refine aG (v:= .string _) rfl<|V (rX gK O O J)<|aE O hH (pF _ _) (aq call113 O)<|fun w5 jg=>V (bK O)<|mB rfl<|aa<|bQ O (fun h9=> ?_) (fun h9=> ?_)
 .refine SR<|va (v:=B false) rfl<|aa<|aj<|oB O ?_ jg
  exact(NY (nt aQ)).symm
 refine ak<|ah<|SR<|va (v:=I 1) rfl<|aa<|aC<|have hsz:1<=s.size/\s.size<=16:=J;have hlt:iP (qY s 0)=true:=nf aQ;bj (G:=Int) (fun k s' w'=>(Fr (2::3::(rg 18 29 [])) _ s')/\(Hp w w' _)/\(s' 3=I k)/\(1<=k)/\(k<=s.size)/\(∀j:Int,0<=j->j<k->s4 (qY s j)=true)) (fun k=>(s.size-k).toNat) (1) ⟨Fr.refl _ _,jg,rfl,J,J,fun j a b=>by rw[show j=0 by omega];exact Bb hlt⟩<| ?_
 rintro k XQ Hi ⟨rJ,bS,oL,h0,hk,hf⟩
 have Df:=rJ.w1 0
 refine ah<|SR<|aG oL<|aG Df<|V (kG O gK O)<|V (aL O O)<|aa<|aF O (fun h12=> ?_) (fun h12=> ?_)
 .refine ak<|ah<|aC<|SR<|aG Df<|aG oL<|V (rX gK O O J)<|aE O bS (pF _ _) (aq call113 O)<|fun C8 cw=>V (bK O)<|mB rfl<|fW 29 O (fun Q9=> ?_) (fun Q9=> ?_)
  .refine aG Df<|aG oL<|V (rX gK O O J)<|V (aL O O)<|mB rfl<|bI 34 O (fun Mf=> ?_) (fun Mf=> ?_)
   .refine aG (v:=B true) rfl<|mB rfl<|mB rfl<|cD O rfl<|aG Df<|aG oL<|V (rX gK O O J)<|V (kQ O O)<|mB rfl<|aa<|aF O (fun Q6=> ?_) (fun Q6=> ?_)
    .refine SR<|va (v:=B false) rfl<|aa<|aj<|oB O ?_ cw
     exact(GG (i:=k) J aQ adf).symm
    refine ak<|au<|aG oL<|V (ax O O J)<|aI rfl<|aa<| ?_
    refine⟨k+1,aW,rJ.u4.u4.u4.u4.u4.u4.u4.u1.u1,cw,(aJ I aM),J,J,?_⟩
    exact fun j a b=>if e:j=k then e▸(by rw[s4,dP];omega)else hf j a J
   refine aG Df<|aG oL<|V (rX gK O O J)<|V (dx O O)<|mB rfl<|mB rfl<|mB rfl<|bI 41 O (fun Fk=> ?_) (fun Fk=> ?_)
   .refine aG Df<|aG oL<|V (rX gK O O J)<|V (kQ O O)<|mB rfl<|aa<|aF O (fun Hl=> ?_) (fun Hl=> ?_)
    .refine SR<|va (v:=B false) rfl<|aa<|aj<|oB O ?_ cw
     exact(GG (i:=k) J aQ adf).symm
    refine ak<|au<|aG oL<|V (ax O O J)<|aI rfl<|aa<| ?_
    refine⟨k+1,aW,rJ.u4.u4.u4.u4.u4.u4.u4.u1.u1,cw,(aJ I aM),J,J,?_⟩
    exact fun j a b=>if e:j=k then e▸(by rw[s4,dP];omega)else hf j a J
   refine aG (v:=B false) rfl<|aa<|dm rfl<|ak<|au<|aG oL<|V (ax O O J)<|aI rfl<|aa<| ?_
   refine⟨k+1,aW,rJ.u4.u4.u4.u4.u4.u4.u4.u1.u1,cw,(aJ I aM),J,J,?_⟩
   exact fun j a b=>if e:j=k then e▸(by rw[s4,dP];omega)else hf j a J
  refine gP O O rfl<|gP O O rfl<|gP O O rfl<|gP O O rfl<|A7<|aG (v:=B false) rfl<|mB rfl<|cD O rfl<|aG (v:=B false) rfl<|aa<|dm rfl<|ak<|au<|aG oL<|V (ax O O J)<|aI rfl<|aa<| ?_
  refine⟨k+1,aW,rJ.u4.u4.u4.u4.u4.u4.u4.u1.u1,cw,(aJ I aM),J,J,?_⟩
  exact fun j a b=>if e:j=k then e▸(by exact Bb (nf aQ))else hf j a J
 refine aY (id:=0) rfl<|SR<|va (v:=B true) rfl<|aa<|aj<|oB O ?_ bS
 exact(N0 hsz hlt aQ hf).symm
theorem Fv(n:Int)(f:FuncId)(cs:List Value)(P:Int->Bool)(hn:0<=n/\n<=9223372036854775807)(w:World)(hf:∀args w,(callFunc f args).run Tryz.prog w= .ok (.enter f args) w)(go:∀i w',Below w.heap.size w w'->0<=i->i<n->Calls Tryz.prog f (I i::cs).toArray w' (Pure (B (P i)) w')):Calls Tryz.prog 194 #[I 0,I n,.func (.func f) #[] cs.toArray] w (Pure (I (rW P n)) w):=by
 refine eH func194 rfl rfl fun hH=>SR<|va (v:=I 0) rfl<|aa<|ah<|SR<|mI rfl<|aI rfl<|aa<|aC<|bj (G:=Int) (fun k s' w'=>(Fr (6::7::(rg 9 9 [])) _ s')/\(Hp w w' _)/\(s' 7=I k)/\(0<=k)/\(k<=n)/\(∀j:Int,0<=j->j<k->P j=false)) (fun k=>(n-k).toNat) (0) ⟨Fr.refl _ _,hH,rfl,J,J,fun j a b=>absurd b J⟩<| ?_
 rintro k sg1 w1 ⟨tg,iA,T6,h0,hk,hg⟩
 have yW:=tg.w1 1
 have ahu:=tg.vv 2 (a:= .func _ _ _) rfl rfl
 refine ah<|SR<|aG T6<|aG yW<|V (aL O O)<|aa<|aF O (fun h3=> ?_) (fun h3=> ?_)
 .refine ak<|ah<|aC<|SR<|aG ahu<|aG T6<|aE O iA (go _ _ iA.below J J) (kH hf (cs:=cs) O O)<|fun w4 bP=>aa<|bQ O (fun h7=> ?_) (fun h7=> ?_)
  .refine SR<|aG T6<|aI rfl<|aa<|aj<|oI O ?_ bP
   exact(uo h0 aQ aQ hg).symm
  refine ak<|au<|aG T6<|V (ax O O J)<|aI rfl<|aa<| ?_
  refine⟨k+1,aW,tg.u4.u4.u1,bP,(aJ I aM),J,J,?_⟩
  exact fun j a b=>if e:j=k then e▸‹P k=false›else hg j a J
 refine aY (id:=0) rfl<|SR<|va (v:=I (-1)) rfl<|aa<|aj<|oI O ?_ iA
 exact(EJ fun j a b=>hg j a J).symm
theorem Nw(b c:Nat)(v:Value)(l:List Tx)(s:Tx)(i:Int)(hi:0<=i/\i<l.length)(w:World)(hs:Sl w v 1 l.length (HS l))(hb:w.heap[b]?=some (.cells #[v] 83 (0,0)))(hc:w.heap[c]?=some (.cells #[S s] 9 (0,0))):Calls Tryz.prog 230 #[I i,.pointer (some ⟨b,0,none⟩),.pointer (some ⟨c,0,none⟩)] w (Pure (B (decide (l.getD i.toNat o4=s))) w):=by
 have hm:=hs.small
 unfold maxLen at hm
 refine eH func230 rfl rfl fun hH=>SR<|va (v:=B false) rfl<|aa<|ah<|eu aN hH<|fun w1 a7=>have j8:=a7;AT 0 O j8 (fun w hS=>az dM O O (hS.dY hb O))<|AQ 1 O j8 (mV (I _) O)<|AT 2 O j8 (fun w hS=>ag (hs.hp hS) dM jK O O J)<|AT 3 O j8 (fun w hS=>az gK O O ((hs.hp hS).cell _ _ (Bc J)))<|AT 4 O j8 (fun w hS=>az gK O O (hS.dY hc (v:= .string _) O))<|AQ 5 O j8 (KO O O)<|AQ 6 O j8 (aV (B _) O)<|AD<|aj<|oB O ?_ a7
 rfl
theorem Un(v:Value)(l:List Tx)(s:Tx)(w:World)(hs:Sl w v 1 l.length (HS l)):Calls Tryz.prog 196 #[v,S s] w (Pure (I (p9 l s)) w):=by
 have hm:=hs.small
 unfold maxLen at hm
 refine eH func196 rfl rfl fun hH=>SR<| ?_
 refine ou hH (IT bC) ?_
 intro b3 w1 a7
 rw[(gG hs).2]at a7
 refine gX a7 (v:= .string _) rfl<|fun b6 w4 bP=>va (v:=I 0) rfl<|aa<|SR<|lV dM bP 1 O O rfl<|V (aD (hs.hp bP) O dM O)<| ?_
 refine V (rP bC bC) ?_
 refine aE O bP (Fv _ 230 [.pointer (some ⟨b3,0,none⟩),.pointer (some ⟨b6,0,none⟩)] (fun i=>decide (l.getD i.toNat o4=s)) J _ call230 (fun i w h h0 h1=>Nw b3 b6 v l s i ⟨h0,h1⟩ w ((hs.hp bP).below h) (keep h (bP.blk (i:=1) O)) (keep h (bP.blk (i:=0) O)))) (bz call194 (show _=I 0 from O) O O)<|fun w7 eX=>aI rfl<|aa<|aj<|oI O ?_ eX
 rfl
theorem Mw(b:Nat)(v:Value)(l:List Tx)(i:Int)(hi:0<=i/\i<l.length)(w:World)(hs:Sl w v 1 l.length (HS l))(hb:w.heap[b]?=some (.cells #[v] 83 (0,0))):Calls Tryz.prog 195 #[I i,.pointer (some ⟨b,0,none⟩)] w (Pure (B (decide (p9 l (l.getD i.toNat o4)<i))) w):=by
 have hm:=hs.small
 unfold maxLen at hm
 refine eH func195 rfl rfl fun hH=>SR<|va (v:=B false) rfl<|aa<|ah<|eu aN hH<|fun w1 a7=>have j8:=a7;AT 0 O j8 (fun w hS=>az dM O O (hS.dY hb O))<|AQ 1 O j8 (mV (I _) O)<|AT 3 O j8 (fun w hS=>az dM O O (hS.dY hb O))<|AQ 4 O j8 (mV (I _) O)<|AT 5 O j8 (fun w hS=>ag (hs.hp hS) dM jK O O J)<|AT 6 O j8 (fun w hS=>az gK O O ((hs.hp hS).cell _ _ (Bc J)))<|A1 2<|bW O aH O a7 sR (Cb (hs.hp a7) dM jK O O J)<|A1 7<|cC O aH O a7 sR (Un _ _ _ _ ((hs.hp a7).aAP J)) (aK call196 O O)<|fun w5 jg=>AQ 8 O jg (di O O)<|AQ 9 O jg (aV (B _) O)<|AD<|aj<|oB O ?_ jg
 exact aey hi.1 hi.2
theorem Rb(v:Value)(l:List Tx)(w:World)(hs:Sl w v 1 l.length (HS l)):Calls Tryz.prog 163 #[v] w (Pure (I (xh l)) w):=by
 have hm:=hs.small
 unfold maxLen at hm
 refine eH func163 rfl rfl fun hH=>SR<| ?_
 refine ou hH (IT bC) ?_
 intro b3 w1 a7
 rw[(gG hs).2]at a7
 refine va (v:=I 0) rfl<|aa<|SR<|lV dM a7 0 O O rfl<|V (aD (hs.hp a7) O dM O)<| ?_
 refine V (A6 bC) ?_
 refine aE O a7 (Fv _ 195 [.pointer (some ⟨b3,0,none⟩)] (fun i=>decide (p9 l (l.getD i.toNat o4)<i)) J _ call195 (fun i w h h0 h1=>Mw b3 v l i ⟨h0,h1⟩ w ((hs.hp a7).below h) (keep h (a7.blk (i:=0) O)))) (bz call194 (show _=I 0 from O) O O)<|fun w4 bP=>aI rfl<|aa<|aj<|oI O ?_ bP
 rfl
theorem Am(v:Value)(l:List Tx)(s:Tx)(w:World)(hs:Sl w v 1 l.length (HS l)):Calls Tryz.prog 114 #[v,S s] w (Pure (I (p9 l s)) w):=by
 have hm:=hs.small
 unfold maxLen at hm
 refine eH func114 rfl rfl fun hH=>SR<|va (v:=I 0) rfl<|aa<|ah<|SR<|va (v:=I 0) rfl<|aa<|aC<|bj (G:=Int) (fun k s' w'=>(Fr (rg 4 15 []) _ s')/\(Hp w w' _)/\(s' 5=I k)/\(0<=k)/\(k<=l.length)/\(∀j:Int,0<=j->j<k->decide (l.getD j.toNat o4=s)=false)) (fun k=>(l.length-k).toNat) (0) ⟨Fr.refl _ _,hH,rfl,J,J,fun j a b=>absurd b J⟩<| ?_
 rintro k sg1 w1 ⟨tg,iA,L5,h0,hk,hg⟩
 obtain⟨lD,yW⟩:=tg.w2 0 1
 refine ah<|SR<|aG L5<|aG lD<|V (aD (hs.hp iA) O dM O)<|V (aL O O)<|aa<|aF O (fun h3=> ?_) (fun h3=> ?_)
 .refine ak<|ah<|aC<|SR<|aG lD<|aG L5<|V (ag (hs.hp iA) dM jK O O J)<|V (az gK O O ((hs.hp iA).cell _ _ (Bc J)))<|aG yW<|V (KO O O)<|aa<|aF O (fun h5=> ?_) (fun h5=> ?_)
  .refine SR<|aG L5<|aI rfl<|aa<|aj<|oI O ?_ iA
   exact(uo h0 aQ (gq aQ) hg).symm
  refine ak<|au<|aG L5<|V (ax O O J)<|aI rfl<|aa<| ?_
  refine⟨k+1,aW,tg.u4.u4.u4.u1,iA,(aJ I aM),J,J,?_⟩
  exact fun j a b=>if e:j=k then e▸gm ‹_›else hg j a J
 refine aY (id:=0) rfl<|SR<|va (v:=I (-1)) rfl<|aa<|aj<|oI O ?_ iA
 exact(EJ fun j a b=>hg j a J).symm
theorem jt(v:Value)(l:List Tx)(w:World)(hs:Sl w v 1 l.length (HS l)):Calls Tryz.prog 75 #[v] w (Pure (I (xh l)) w):=by
 have hm:=hs.small
 unfold maxLen at hm
 refine eH func75 rfl rfl fun hH=>SR<|va (v:=I 0) rfl<|aa<|ah<|SR<|va (v:=I 0) rfl<|aa<|aC<|bj (G:=Int) (fun k s' w'=>(Fr (rg 2 17 []) _ s')/\(Hp w w' _)/\(s' 3=I k)/\(0<=k)/\(k<=l.length)/\(∀j:Int,0<=j->j<k->decide (p9 l (l.getD j.toNat o4)<j)=false)) (fun k=>(l.length-k).toNat) (0) ⟨Fr.refl _ _,hH,rfl,J,J,fun j a b=>absurd b J⟩<| ?_
 rintro k sg1 w1 ⟨tg,iA,rI,h0,hk,hg⟩
 have lD:=tg.w1 0
 refine ah<|SR<|aG rI<|aG lD<|V (aD (hs.hp iA) O dM O)<|V (aL O O)<|aa<|aF O (fun h3=> ?_) (fun h3=> ?_)
 .refine ak<|ah<|aC<|SR<|aG lD<|aG lD<|aG rI<|V (ag (hs.hp iA) dM jK O O J)<|V (az gK O O ((hs.hp iA).cell _ _ (Bc J)))<|aE O iA (Am _ _ _ _ (hs.hp iA)) (aK call114 O O)<|fun w4 bP=>aG rI<|V (aL O O)<|aa<|aF O (fun h7=> ?_) (fun h7=> ?_)
  .refine SR<|aG rI<|aI rfl<|aa<|aj<|oI O ?_ bP
   exact(uo h0 aQ (gq aQ) hg).symm
  refine ak<|au<|aG rI<|V (ax O O J)<|aI rfl<|aa<| ?_
  refine⟨k+1,aW,tg.u4.u4.u4.u1.u1.u1,bP,(aJ I aM),J,J,?_⟩
  exact fun j a b=>if e:j=k then e▸gm ‹_›else hg j a J
 refine aY (id:=0) rfl<|SR<|va (v:=I (-1)) rfl<|aa<|aj<|oI O ?_ iA
 exact(EJ fun j a b=>hg j a J).symm
theorem Nx(v:Value)(l:List Tx)(w:World)(hs:Sl w v 1 l.length (HS l)):Calls Tryz.prog 135 #[v] w (Pure (B (gH l)) w):=by
 have hm:=hs.small
 unfold maxLen at hm
 refine eH func135 rfl rfl fun hH=>SR<|va (v:=B false) rfl<|aa<|ah<|SR<| ?_
 refine V (run_move bC) ?_
 refine V (aD (hs.hp hH) O dM O)<|V (aL O O)<|mB rfl<|bI 8 O (fun h2=> ?_) (fun h2=> ?_)
 .refine aG (v:=B true) rfl<|mB rfl<|cD O rfl<|aG (v:=B true) rfl<|aa<|cr rfl<|SR<|va (v:=B false) rfl<|aa<|aj<|oB O ?_ hH
  exact(Cj J).symm
 refine V (run_move bC) ?_
 refine V (aD (hs.hp hH) O dM O)<|V (dx O O)<|mB rfl<|mB rfl<|bI 13 O (fun h4=> ?_) (fun h4=> ?_)
 .refine aG (v:=B true) rfl<|aa<|cr rfl<|SR<|va (v:=B false) rfl<|aa<|aj<|oB O ?_ hH
  exact(Cj J).symm
 refine V (run_move bC) ?_
 refine aE O hH (Rb _ _ _ (hs.hp hH)) (aq call163 O)<|fun w5 jg=>V (di O O)<|mB rfl<|aa<|aF O (fun h8=> ?_) (fun h8=> ?_)
 .refine SR<|va (v:=B false) rfl<|aa<|aj<|oB O ?_ jg
  exact(N2 J).symm
 refine ak<|ah<|SR<| ?_
 refine V (run_move bC) ?_
 refine V (aD (hs.hp jg) O dM O)<|aG (v:=I 0) rfl<|aa<|aC<|have hn1:1<=l.length/\l.length<=64:=J;have Oq:xh l<0:=J;bj (G:=Int) (fun k s' w'=>(Fr (2::(4::(rg 20 8 []))) _ s')/\(Hp w w' _)/\(s' 20=I k)/\(0<=k)/\(k<=l.length)/\(∀j:Int,0<=j->j<k->gY (l.getD j.toNat o4)=true)) (fun k=>(l.length-k).toNat) (0) ⟨Fr.refl _ _,jg,rfl,J,J,fun j a b=>absurd b J⟩<| ?_
 rintro k sg9 w9 ⟨fr9,iv,ahH,h0,hk,hg⟩
 obtain⟨avz,avA⟩:=fr9.w2 18 19
 refine SR<|V (aL ahH avA)<|aa<|ah<|aF O (fun h11=> ?_) (fun h11=> ?_)
 .refine ak<|ah<|aC<|SR<|V (ag (hs.hp iv) dM jK avz ahH J)<|V (az gK O O ((hs.hp iv).cell _ _ (Bc J)))<|va (v:= .string _) rfl<|aa<|SR<|aG (v:= .string _) rfl<|aE O iv (Ra _ _) (aq call164 O)<|fun Cx bY=>V (bK O)<|aa<|bQ O (fun xF=> ?_) (fun xF=> ?_)
  .refine SR<|va (v:=B false) rfl<|aa<|aj<|oB O ?_ bY
   exact(N3 h0 aQ (nt aQ)).symm
  refine ak<|au<|V (ax ahH O J)<|mI rfl<|aa<| ?_
  refine⟨k+1,aW,fr9.u4.u4.u1,bY,(aJ I aM),J,J,?_⟩
  exact fun j a b=>if e:j=k then e▸nf ‹_›else hg j a J
 refine aY (id:=0) rfl<|SR<|va (v:=B true) rfl<|aa<|aj<|oB O ?_ iv
 exact(px hn1 Oq aQ hg).symm
theorem BJ(f:pI)(w:World)(hf:uY (Kw w) f)(hT:oq w):Calls Tryz.prog 93 #[.agg (tA f)] w (Pure (B (cL f.fc)) w):=by
 have hm:=hf.names.sl.small
 unfold maxLen at hm
 refine eH func93 rfl rfl fun hH=>SR<|gX hH (v:= .agg _) rfl<|fun b3 w1 a7=>va (v:=B false) rfl<|aa<|ah<|SR<|V (fA dF 1 O oV O)<|lV dM a7 0 O O rfl<|aE O a7 (Nx _ _ _ (hf.names.sl.hp a7)) (aq call135 O)<|fun w4 bP=>V (bK O)<|aa<|bQ O (fun h8=> ?_) (fun h8=> ?_)
 .refine SR<|va (v:=B false) rfl<|aa<|aj<|oB O ?_ bP
  exact(KY (f:=f.fc) (nt aQ)).symm
 refine ak<|ah<|SR<|V (fA dF 0 O bp O)<|lI bt bP 0 O O rfl<|aa<|aC<|ah<|SR<|V (bO O O)<|aB rfl<|aa<|aF O (fun h10=> ?_) (fun h10=> ?_)
 .refine ak<|cr (bT h10)<|SR<|V (fA dF 2 O jI O)<|V (jP bL O O O (bP.blk (i:=0) O))<|V (dD (vs:=[]) O L3)<|aE O bP (Da _ _ _) (aK call136 O O)<|fun H9 cQ=>aB rfl<|aa<|aj<|oB O ?_ cQ
  exact(YO (f:=f.fc) (nf ‹(!gH f.names)=false›) (.inl aQ)).symm
 refine au<|V (bO O O)<|aB rfl<|aa<|aF O (fun xF=> ?_) (fun xF=> ?_)
 .refine SR<|V (fA dF 2 O jI O)<|V (jP bL O O O (bP.blk (i:=0) O))<|V (dD (vs:=[]) O L3)<|aE O bP (Da _ _ _) (aK call136 O O)<|fun OY dH=>aB rfl<|aa<|aj<|oB O ?_ dH
  exact(YO (f:=f.fc) (nf ‹(!gH f.names)=false›) (.inr aQ)).symm
 refine SR<|V (bO O O)<|aB rfl<|aa<|aF O (fun h22=> ?_) (fun h22=> ?_)
 .refine SR<|V (fA dF 2 O jI O)<|V (fA bL 0 O bp O)<|lI bt bP 0 O O rfl<|V (fA dF 1 O oV O)<|lV dM bP 0 O O rfl<|V (aD (hf.names.sl.hp bP) O dM O)<|V (bO O O)<|mB rfl<|bI 25 O (fun zL=> ?_) (fun zL=> ?_)
  .refine V (fA dF 2 O jI O)<|V (jP bL O O O (bP.blk (i:=0) O))<|aE O bP (zg _ _) (aq call137 O)<|fun w25 j6=>mB rfl<|aB rfl<|aa<|aj<|oB O ?_ j6
   exact(aeP (f:=f.fc) (nf ‹(!gH f.names)=false›) aQ aQ).symm
  refine aG (v:=B false) rfl<|aB rfl<|aa<|aj<|oB O ?_ bP
  exact(aeN (f:=f.fc) aQ aQ).symm
 refine SR<|V (bO O O)<|aB rfl<|aa<|aF O (fun qC=> ?_) (fun qC=> ?_)
 .refine SR<|V (fA dF 2 O jI O)<|V (fA bL 0 O bp O)<|lI bt bP 0 O O rfl<|V (fA dF 1 O oV O)<|lV dM bP 0 O O rfl<|V (aD (hf.names.sl.hp bP) O dM O)<|V (bO O O)<|mB rfl<|bI 39 O (fun h31=> ?_) (fun h31=> ?_)
  .refine V (fA dF 2 O jI O)<|V (jP bL O O O (bP.blk (i:=0) O))<|aE O bP (ID _ _ (hT.hp bP)) (aq call138 O)<|fun w32 jE=>mB rfl<|aB rfl<|aa<|aj<|oB O ?_ jE
   exact(aeQ (f:=f.fc) (nf ‹(!gH f.names)=false›) aQ aQ).symm
  refine aG (v:=B false) rfl<|aB rfl<|aa<|aj<|oB O ?_ bP
  exact(aeO (f:=f.fc) aQ aQ).symm
 refine ak<|SR<|va (v:=B false) rfl<|aa<|aj<|oB O ?_ bP
 exact(amJ (f:=f.fc) aQ aQ aQ aQ).symm
theorem wR(s:kL)(w:World)(hs:kO (Kw w) s)(hT:oq w):Calls Tryz.prog 50 #[.agg (rp s)] w (Pure (B (qL s.sh)) w):=by
 have hsl:=sN s
 have hm:=hs.aT.sl.small
 unfold maxLen at hm
 refine eH func50 rfl rfl fun hH=>SR<|gX hH (v:= .agg _) rfl<|fun b3 w1 a7=>va (v:=B false) rfl<|aa<|SR<|V (fA dJ 1 O gM O)<|lV dz a7 0 O O rfl<|V (aD (hs.aT.sl.hp a7) O dz O)<|aI rfl<|aa<|ah<|SR<|mI rfl<|V (aL O O)<|mB rfl<|bI 11 O (fun h5=> ?_) (fun h5=> ?_)
 .refine aG (v:=B true) rfl<|mB rfl<|cD O rfl<|gP O O rfl<|gP O O rfl<|A7<|aG (v:=B true) rfl<|aa<|cr rfl<|SR<|va (v:=B false) rfl<|aa<|aj<|oB O ?_ a7
  exact(I8 J).symm
 refine mI rfl<|V (dx O O)<|mB rfl<|mB rfl<|bI 15 O (fun h7=> ?_) (fun h7=> ?_)
 .refine gP O O rfl<|gP O O rfl<|A7<|aG (v:=B true) rfl<|aa<|cr rfl<|SR<|va (v:=B false) rfl<|aa<|aj<|oB O ?_ a7
  exact(I8 J).symm
 refine V (fA dJ 0 O mN O)<|V (az sI O O (a7.cell (i:=0) O (v:=B _) O))<|V (bK O)<|mB rfl<|fW 19 O (fun h10=> ?_) (fun h10=> ?_)
 .refine mI rfl<|V (kQ O O)<|mB rfl<|mB rfl<|aa<|aF O (fun h12=> ?_) (fun h12=> ?_)
  .refine SR<|va (v:=B false) rfl<|aa<|aj<|oB O ?_ a7
   exact(YK (by exact nt aQ) J).symm
  refine ak<|ah<|SR<|V (fA dJ 1 O gM O)<|lV dz a7 0 O O rfl<|V (aD (hs.aT.sl.hp a7) O dz O)<|aG (v:=I 0) rfl<|aa<|aC<|have YS:s.sh.tuple=true\/s.sh.aT.length=1:=(by exact .inr J);have WL:1<=s.aT.length/\s.aT.length<=8:=J;bj (G:=Int) (fun k s' w'=>(Fr (2::(5::(rg 27 8 []))) _ s')/\(Hp w w' _)/\(s' 27=I k)/\(0<=k)/\(k<=s.aT.length)/\(∀j:Int,0<=j->j<k->cL (s.aT.getD j.toNat ko).fc=true)) (fun k=>(s.aT.length-k).toNat) (0) ⟨Fr.refl _ _,a7,rfl,J,J,fun j a b=>absurd b J⟩<| ?_
  rintro k acf C8 ⟨sV,bY,XS,h0,hk,hg⟩
  obtain⟨Mn,aqY⟩:=sV.w2 25 26
  refine SR<|V (aL XS aqY)<|aa<|ah<|aF O (fun Mj=> ?_) (fun Mj=> ?_)
  .refine ak<|ah<|aC<|SR<|V (ag (hs.aT.sl.hp bY) dz sK Mn XS J)<|V (fg (dv:=ko) fB (hs.aT.sl.hp bY) dF O O O J)<|ou bY (aZ uJ)<|fun b18 Ml er=>bk er (i:=0) O (tG (hs.at J J) O O O (er.blk (i:=0) O))<|fun Ub cJ=>aa<|SR<|V (xk dF O O O (cJ.blk (i:=0) O))<|aE O cJ (BJ _ _ ((hs.at J J).mono cJ.kw) (hT.hp cJ)) (aq call93 O)<|fun Nr c8=>V (bK O)<|aa<|bQ O (fun Hl=> ?_) (fun Hl=> ?_)
   .refine SR<|va (v:=B false) rfl<|aa<|aj<|oB O ?_ c8
    exact(I9 (k:=k) h0 J Gd).symm
   refine ak<|au<|V (ax XS O J)<|mI rfl<|aa<| ?_
   refine⟨k+1,aW,sV.u4.u4.u1,(c8.sub (sQ sR)),(aJ I aM),J,J,?_⟩
   exact fun j a b=>if e:j=k then e▸nf ‹_›else hg j a J
  refine aY (id:=0) rfl<|SR<|va (v:=B true) rfl<|aa<|aj<|oB O ?_ bY
  exact(Ja (k:=k) J YS J fun j a b=>by rw[mr];exact hg j a b).symm
 refine aG (v:=B false) rfl<|mB rfl<|aa<|dm rfl<|ak<|ah<|SR<|V (fA dJ 1 O gM O)<|lV dz a7 0 O O rfl<|V (aD (hs.aT.sl.hp a7) O dz O)<|aG (v:=I 0) rfl<|aa<|aC<|have YS:s.sh.tuple=true\/s.sh.aT.length=1:=(by exact .inl (nf ‹(!s.tuple)=false›));have WL:1<=s.aT.length/\s.aT.length<=8:=J;bj (G:=Int) (fun k s' w'=>(Fr (2::(5::(rg 27 8 []))) _ s')/\(Hp w w' _)/\(s' 27=I k)/\(0<=k)/\(k<=s.aT.length)/\(∀j:Int,0<=j->j<k->cL (s.aT.getD j.toNat ko).fc=true)) (fun k=>(s.aT.length-k).toNat) (0) ⟨Fr.refl _ _,a7,rfl,J,J,fun j a b=>absurd b J⟩<| ?_
 rintro k aCf Uj ⟨ahI,j6,XT,h0,hk,hg⟩
 obtain⟨aqZ,aq0⟩:=ahI.w2 25 26
 refine SR<|V (aL XT aq0)<|aa<|ah<|aF O (fun h28=> ?_) (fun h28=> ?_)
 .refine ak<|ah<|aC<|SR<|V (ag (hs.aT.sl.hp j6) dz sK aqZ XT J)<|V (fg (dv:=ko) fB (hs.aT.sl.hp j6) dF O O O J)<|ou j6 (aZ uJ)<|fun b31 w29 iN=>bk iN (i:=0) O (tG (hs.at J J) O O O (iN.blk (i:=0) O))<|fun w32 jE=>aa<|SR<|V (xk dF O O O (jE.blk (i:=0) O))<|aE O jE (BJ _ _ ((hs.at J J).mono jE.kw) (hT.hp jE)) (aq call93 O)<|fun w34 xH=>V (bK O)<|aa<|bQ O (fun h38=> ?_) (fun h38=> ?_)
  .refine SR<|va (v:=B false) rfl<|aa<|aj<|oB O ?_ xH
   exact(I9 (k:=k) h0 J Gd).symm
  refine ak<|au<|V (ax XT O J)<|mI rfl<|aa<| ?_
  refine⟨k+1,aW,ahI.u4.u4.u1,(xH.sub (sQ sR)),(aJ I aM),J,J,?_⟩
  exact fun j a b=>if e:j=k then e▸nf ‹_›else hg j a J
 refine aY (id:=0) rfl<|SR<|va (v:=B true) rfl<|aa<|aj<|oB O ?_ j6
 exact(Ja (k:=k) J YS J fun j a b=>by rw[mr];exact hg j a b).symm
theorem Rc(f:pI)(s:BitVec 64)(w:World)(hf:uY (Kw w) f)(hT:oq w):Calls Tryz.prog 145 #[.agg (tA f),U s] w (Pure (B (jO f.fc s)) w):=by
 have hm:=hf.names.sl.small
 unfold maxLen at hm
 refine eH func145 rfl rfl fun hH=>SR<|gX hH (v:= .agg _) rfl<|fun b3 w1 a7=>va (v:=B false) rfl<|aa<|ah<|SR<|V (fA dF 0 O bp O)<|lI bt a7 0 O O rfl<|aa<|aC<|SR<|V (bO O O)<|aB rfl<|aa<|aF O (fun h5=> ?_) (fun h5=> ?_)
 .refine SR<|V (fA dF 1 O oV O)<|lV dM a7 0 O O rfl<|V (aD (hf.names.sl.hp a7) O dM O)<|mU rfl<|aE O a7 (Q5 _ _ _) (aK call178 O O)<|fun w6 eR=>aB rfl<|aa<|aj<|oB O ?_ eR
  exact(N4 (f:=f.fc) aQ s).symm
 refine SR<|V (bO O O)<|aB rfl<|aa<|aF O (fun h10=> ?_) (fun h10=> ?_)
 .refine SR<|mU rfl<|V (fA dF 1 O oV O)<|lV dM a7 0 O O rfl<|V (aD (hf.names.sl.hp a7) O dM O)<|aE O a7 (ny _ _) (aq F8 O)<|fun H9 cQ=>aE O cQ (Ec _ _ _) (aK call140 O O)<|fun C8 cw=>aB rfl<|aa<|aj<|oB O ?_ cw
  exact(N5 (f:=f.fc) aQ s).symm
 refine SR<|V (bO O O)<|aB rfl<|aa<|aF O (fun Q9=> ?_) (fun Q9=> ?_)
 .refine SR<|V (fA dF 2 O jI O)<|V (jP bL O O O (a7.blk (i:=0) O))<|mU rfl<|aE O a7 (Nu _ _ _ (hT.hp a7)) (aK call180 O O)<|fun Uc j7=>aB rfl<|aa<|aj<|oB O ?_ j7
  exact(N6 (f:=f.fc) aQ s).symm
 refine ak<|SR<|V (fA dF 2 O jI O)<|V (jP bL O O O (a7.blk (i:=0) O))<|mU rfl<|aE O a7 (wN _ _ _ (hT.hp a7)) (aK call181 O O)<|fun Nr c8=> ?_
 refine V (run_move bC) ?_
 refine V (bD O (v:=I _) O)<|V (bD O (v:=B _) O)<|aI rfl<|aB rfl<|aa<|SR<|mB rfl<|aB rfl<|aa<|aj<|oB O ?_ c8
 exact(amK (f:=f.fc) aQ aQ aQ s).symm
theorem zj(s:kL)(e:El)(w:World)(hs:kO (Kw w) s)(hT:oq w):Calls Tryz.prog 105 #[.agg (rp s),.agg (iU e)] w (Pure (B (cf s.sh e)) w):=by
 have hsl:=sN s
 have hm:=hs.aT.sl.small
 unfold maxLen at hm
 refine eH func105 rfl rfl fun hH=>SR<|gX hH (v:= .agg _) rfl<|fun b3 w1 a7=>gX a7 (v:= .agg _) rfl<|fun b6 w4 bP=>va (v:=B false) rfl<|aa<|ah<|SR<|V (cG (cs:=[B _,_]) dJ O O O (bf (bP.blk (i:=1) O)))<|aE O bP (wR _ _ (hs.mono bP.kw) (hT.hp bP)) (aq call50 O)<|fun w7 eX=>V (bK O)<|aa<|bQ O (fun h11=> ?_) (fun h11=> ?_)
 .refine SR<|va (v:=B false) rfl<|aa<|aj<|oB O ?_ eX
  exact(SB (nt aQ)).symm
 refine ak<|ah<|SR<|V (dR cA O O O (eX.blk (i:=0) O))<|aG (v:=I 0) rfl<|aa<|aC<|have hr:qL s.sh=true:=nf aQ;bj (G:=Int) (fun k s' w'=>(Fr (rg 4 3 (rg 11 20 [])) _ s')/\(Hp w w' _)/\(s' 11=I k)/\(0<=k)/\(k<=8)/\(CX s.sh e k)) (fun k=>(8-k).toNat) (0) ⟨Fr.refl _ _,eX,rfl,J,J,CX.none _ _⟩<| ?_
 rintro k ahA Cx ⟨o9,cQ,Mx,h0,hk,hf⟩
 obtain⟨Dg,aq1⟩:=o9.w2 2 10
 refine SR<|V (aL Mx O)<|aa<|ah<|aF O (fun Jn=> ?_) (fun Jn=> ?_)
 .refine ak<|ah<|aC<|SR<|aG Mx<|V (Kb cA isAgg35 cX aq1 Mx J (ao8 _ J))<|aI rfl<|aU rfl<|aa<|ah<|SR<|mI rfl<|V (fA dJ 1 O gM Dg)<|lV dz cQ 1 O O rfl<|V (aD (hs.aT.sl.hp cQ) O dz O)<|V (di O O)<|aa<|aF O (fun xF=> ?_) (fun xF=> ?_)
  .refine ah<|SR<|mU rfl<|V (tX O (b:=0#64) O)<|aa<|aF O (fun pL=> ?_) (fun pL=> ?_)
   .refine SR<|va (v:=B false) rfl<|aa<|aj<|oB O ?_ cQ
    exact(KQ h0 aQ J aQ).symm
   refine ak<|aY (id:=1) rfl<|au<|V (ax Mx O J)<|mI rfl<|aa<| ?_
   refine⟨k+1,aW,o9.u4.u4.u4.u1.u1,cQ,(aJ I aM),J,J,?_⟩
   exact hf.next (fun h=>by exfalso;omega) (fun h=>by exact FR aQ)
  refine ak<|SR<|V (fA dJ 1 O gM Dg)<|lV dz cQ 1 O O rfl<|mI rfl<|V (ag (hs.aT.sl.hp cQ) dz sK O O J)<|V (fg (dv:=ko) fB (hs.aT.sl.hp cQ) dF O O O J)<|mU rfl<|aE O cQ (Rc _ _ _ ((hs.at J J).mono cQ.kw) (hT.hp cQ)) (aK call145 O O)<|fun Ub cJ=>V (bK O)<|aa<|bQ O (fun Fk=> ?_) (fun Fk=> ?_)
  .refine SR<|va (v:=B false) rfl<|aa<|aj<|oB O ?_ cJ
   exact(SC h0 aQ J Gd).symm
  refine ak<|au<|V (ax Mx O J)<|mI rfl<|aa<| ?_
  refine⟨k+1,aW,o9.u4.u4.u4.u4.u4,cJ,(aJ I aM),J,J,?_⟩
  exact hf.next (fun h=>by rw[mr];exact nf aQ) (fun h=>by exfalso;omega)
 refine aY (id:=0) rfl<|SR<|va (v:=B true) rfl<|aa<|aj<|oB O ?_ cQ
 exact(KR hr aQ hf).symm
end
section
open Go Go.RowKit Go.Proofs.YtlhjdflgjbkpmaaGreatDoor.E Go.Proofs.YtlhjdflgjbkpmaaGreatDoor.M
set_option maxRecDepth 100000
open Go.Proofs.Tryz
variable{fr:List a8}
theorem Uo(a b:El)(w:World):Calls Tryz.prog 97 #[.agg (iU a),.agg (iU b)] w (Pure (B (cK a b)) w):=by
 refine eH func97 rfl rfl fun hH=>SR<|gX hH (v:= .agg _) rfl<|fun b3 w1 a7=>gX a7 (v:= .agg _) rfl<|fun b6 w4 bP=>va (v:=B false) rfl<|aa<|ah<|SR<|aG (v:=I 0) rfl<|aa<|aC<|bj (G:=Int) (fun k s' w'=>(Fr (rg 4 14 []) _ s')/\(Hp w w' _)/\(s' 6=I k)/\(0<=k)/\(k<=8)/\(∀j:Int,0<=j->j<k->dS (a j.toNat) (b j.toNat)=true)) (fun k=>(8-k).toNat) (0) ⟨Fr.refl _ _,bP,rfl,J,J,fun j u v=>absurd v J⟩<| ?_
 rintro k sg7 w7 ⟨Es,eR,ahJ,h0,hk,hf⟩
 obtain⟨aqV,ack⟩:=Es.w2 2 3
 refine SR<|V (aL ahJ O)<|aa<|ah<|aF O (fun h9=> ?_) (fun h9=> ?_)
 .refine ak<|ah<|aC<|SR<|aG ahJ<|aI rfl<|aa<|ah<|eu aN eR<|fun Hi dN=>have iY:=dN;AQ 0 O iY (mV (I _) O)<|AQ 1 O iY (bu cA cX aqV O J)<|tV 2 O iY dU 1 O O (mW _ J)<|AQ 3 O iY (mV (I _) O)<|AQ 4 O iY (bu cA cX ack O J)<|tV 5 O iY dU 0 O O (mW _ J)<|A1 6<|cC O aH O dN sR (Ec _ _ _) (aK call140 O O)<|fun Cx bY=>AQ 7 O bY (bK O)<|AD<|bQ O (fun xF=> ?_) (fun xF=> ?_)
  .refine SR<|va (v:=B false) rfl<|aa<|aj<|oB O ?_ bY
   exact(ao6 h0 aQ (nt aQ)).symm
  refine ak<|au<|V (ax ahJ O J)<|mI rfl<|aa<| ?_
  refine⟨k+1,aW,Es.u4.u4.u4.u1,bY,(aJ I aM),J,J,?_⟩
  exact fun j u v=>if e:j=k then e▸nf ‹_›else hf j u J
 refine aY (id:=0) rfl<|SR<|va (v:=B true) rfl<|aa<|aj<|oB O ?_ eR
 exact(ajS aQ hf).symm
theorem Re(s:kL)(a b:El)(w:World)(hs:kO (Kw w) s)(hT:oq w):Calls Tryz.prog 170 #[.agg (rp s),.agg (iU a),.agg (iU b)] w (Pure (.agg (iU (fh s.sh a b))) w):=by
 have hsl:=sN s
 have hm:=hs.aT.sl.small
 unfold maxLen at hm
 refine eH func170 rfl rfl fun hH=>SR<|gX hH (v:= .agg _) rfl<|fun b3 w1 a7=>gX a7 (v:= .agg _) rfl<|fun b6 w4 bP=>gX bP (v:= .agg _) rfl<|fun b9 w7 eX=>ou eX (aZ js)<|fun b12 Hi dN=>aa<|ah<|SR<|aG (v:=I 0) rfl<|aa<|aC<|bj (G:=Int×El) (fun⟨k,e1⟩ s' w'=>(Fr (rg 7 42 []) _ s')/\(Hp w w' (_::_:: .blk b6 (.cells (iU e1) 37 (0,0))::_))/\(s' 8=I k)/\(0<=k)/\(k<=8)/\(e1=rY (fh s.sh a b) a k)) (fun⟨k,e1⟩=>(8-k).toNat) ((0,a)) ⟨Fr.refl _ _,dN,rfl,J,J,(EM _ _).symm⟩<| ?_
 rintro⟨k,e1⟩ acf C8 ⟨sV,bY,Up,h0,hk,hr⟩
 obtain⟨zQ,Fl,Mv,O2⟩:=sV.w4 3 4 5 6
 refine SR<|V (aL Up O)<|aa<|ah<|aF O (fun Mj=> ?_) (fun Mj=> ?_)
 .refine ak<|ah<|aC<|SR<|aG Up<|aI rfl<|aa<|ah<|SR<|mI rfl<|V (fA dJ 1 O gM zQ)<|lV dz bY 3 O O rfl<|V (aD (hs.aT.sl.hp bY) O dz O)<|V (aL O O)<|mB rfl<|bI 16 O (fun Q9=> ?_) (fun Q9=> ?_)
  .refine V (fA dJ 1 O gM zQ)<|lV dz bY 3 O O rfl<|mI rfl<|V (ag (hs.aT.sl.hp bY) dz sK O O J)<|V (fA dF 0 O bp O)<|V (gf (dv:=ko) fB (hs.aT.sl.hp bY) bt O O J O)<|V (bO O O)<|mB rfl<|aa<|aF O (fun Mf=> ?_) (fun Mf=> ?_)
   .refine ah<|ia aN bY (sP (sP (sQ sR)))<|fun w20 fD=>have m9:=fD.sub (sP (sP (sQ sR)));AQ 0 O m9 (mV (I _) O)<|AQ 1 O m9 (fA dJ 1 O gM zQ)<|tV 2 O m9 dz 2 O O rfl<|AQ 3 O m9 (mV (I _) O)<|AT 4 O m9 (fun w hS=>ag (hs.aT.sl.hp hS) dz sK O O J)<|AQ 5 O m9 (fA dF 2 O jI O)<|AT 6 O m9 (fun w hS=>aeE (hs.aT.sl.hp hS) bL O O O J)<|AQ 7 O m9 (mV (I _) O)<|AQ 8 O m9 (bu cA cX Fl O J)<|AQ 10 O m9 (mV (I _) O)<|AQ 11 O m9 (bu cA cX Mv O J)<|tV 12 O m9 dU 1 O O (mW _ J)<|A1 9<|bW O aH O fD (sP (sP (sQ sR))) (az dU O O (fD.cell (i:=2) O (mW _ J)))<|A1 13<|cC O aH O fD (sP (sP (sQ sR))) (Nt _ _ _ _ (hT.hp fD)) (bz call205 O O O)<|fun w24 mc=>AQ 14 O (mc.sub (sP (sP (sQ sR)))) (bu cA cX Fl O J)<|A1 15<|eK O aH mc (j:=2) O (sP (sP (sQ sR))) (bM O O (v:=U _) O O O (mc.blk (i:=2) O) DJ)<|fun w28 gj=> ?_
    rw[yx]at gj
    refine AD<|aY (id:=1) rfl<|au<|V (ax Up O J)<|mI rfl<|aa<| ?_
    refine⟨(k+1,_),aW,sV.u4.u4.u4.u4.u4.u4.u4.u4.u1.u1,gj,(aJ I aM),J,J,?_⟩
    exact aa4 hr h0 aQ aQ
   refine ak<|ia aN bY (sP (sP (sQ sR)))<|fun w30 lQ=>have Hr:=lQ.sub (sP (sP (sQ sR)));AQ 0 O Hr (mV (I _) O)<|AQ 1 O Hr (bu cA cX Fl O J)<|AQ 3 O Hr (mV (I _) O)<|AQ 4 O Hr (bu cA cX Mv O J)<|tV 5 O Hr dU 1 O O (mW _ J)<|A1 2<|bW O aH O lQ (sP (sP (sQ sR))) (az dU O O (lQ.cell (i:=2) O (mW _ J)))<|AQ 6 O Hr (jj O O)<|AQ 7 O Hr (bu cA cX Fl O J)<|A1 8<|eK O aH lQ (j:=2) O (sP (sP (sQ sR))) (bM O O (v:=U _) O O O (lQ.blk (i:=2) O) DJ)<|fun w36 xG=> ?_
   rw[yx]at xG
   refine AD<|au<|V (ax Up O J)<|mI rfl<|aa<| ?_
   refine⟨(k+1,_),aW,sV.u4.u4.u4.u4.u4.u4.u1.u1.u1,xG,(aJ I aM),J,J,?_⟩
   exact N9 hr h0 (fun hc=>absurd hc.1 J)
  refine aG (v:=B false) rfl<|aa<|dm rfl<|ak<|ia aN bY (sP (sP (sQ sR)))<|fun w38 oK=>have BK:=oK.sub (sP (sP (sQ sR)));AQ 0 O BK (mV (I _) O)<|AQ 1 O BK (bu cA cX Fl O J)<|AQ 3 O BK (mV (I _) O)<|AQ 4 O BK (bu cA cX Mv O J)<|tV 5 O BK dU 1 O O (mW _ J)<|A1 2<|bW O aH O oK (sP (sP (sQ sR))) (az dU O O (oK.cell (i:=2) O (mW _ J)))<|AQ 6 O BK (jj O O)<|AQ 7 O BK (bu cA cX Fl O J)<|A1 8<|eK O aH oK (j:=2) O (sP (sP (sQ sR))) (bM O O (v:=U _) O O O (oK.blk (i:=2) O) DJ)<|fun w44 qD=> ?_
  rw[yx]at qD
  refine AD<|au<|V (ax Up O J)<|mI rfl<|aa<| ?_
  refine⟨(k+1,_),aW,sV.u4.u4.u4.u4.u4.u4.u1.u1.u1,qD,(aJ I aM),J,J,?_⟩
  exact N9 hr h0 (fun hc=>absurd hc.1 J)
 refine aY (id:=0) rfl<|SR<|V (dR cA O O Fl (bY.blk (i:=2) O))<|bk bY (i:=0) O (ef O O2 O (bY.blk (i:=0) O))<|fun w46 nO=>aa<|aj<|vC O O2 nO (i:=0) O cA O mO ⟨?_,nO.below⟩
 (exact aJ Value.agg (rh V5))
theorem Rf(a b:El)(w:World):Calls Tryz.prog 171 #[.agg (iU a),.agg (iU b)] w (Pure (.agg (iU (qM a b))) w):=by
 refine eH func171 rfl rfl fun hH=>SR<|gX hH (v:= .agg _) rfl<|fun b3 w1 a7=>gX a7 (v:= .agg _) rfl<|fun b6 w4 bP=>ou bP (aZ js)<|fun b9 w7 eX=>aa<|ah<|SR<|aG (v:=I 0) rfl<|aa<|aC<|bj (G:=Int×El) (fun⟨k,e1⟩ s' w'=>(Fr (rg 5 13 []) _ s')/\(Hp w w' (_::_:: .blk b3 (.cells (iU e1) 37 (0,0))::_))/\(s' 6=I k)/\(0<=k)/\(k<=8)/\(e1=rY (qM a b) a k)) (fun⟨k,e1⟩=>(8-k).toNat) ((0,a)) ⟨Fr.refl _ _,eX,rfl,J,J,(EM _ _).symm⟩<| ?_
 rintro⟨k,e1⟩ XQ Hi ⟨rJ,bS,Ft,h0,hk,hr⟩
 obtain⟨Fu,oL,O1⟩:=rJ.w3 2 3 4
 refine SR<|V (aL Ft O)<|aa<|ah<|aF O (fun h12=> ?_) (fun h12=> ?_)
 .refine ak<|ah<|aC<|SR<|aG Ft<|aI rfl<|aa<|ia aN bS (sP (sP (sQ sR)))<|fun C8 cw=>have wS:=cw.sub (sP (sP (sQ sR)));AQ 0 O wS (mV (I _) O)<|AQ 1 O wS (bu cA cX Fu O J)<|AQ 3 O wS (mV (I _) O)<|AQ 4 O wS (bu cA cX oL O J)<|tV 5 O wS dU 1 O O (mW _ J)<|A1 2<|bW O aH O cw (sP (sP (sQ sR))) (az dU O O (cw.cell (i:=2) O (mW _ J)))<|AQ 6 O wS (lY O O)<|AQ 7 O wS (bu cA cX Fu O J)<|A1 8<|eK O aH cw (j:=2) O (sP (sP (sQ sR))) (bM O O (v:=U _) O O O (cw.blk (i:=2) O) DJ)<|fun Ub cJ=> ?_
  rw[yx]at cJ
  refine AD<|au<|V (ax Ft O J)<|mI rfl<|aa<| ?_
  refine⟨(k+1,_),aW,rJ.u4.u4.u4.u1,cJ,(aJ I aM),J,J,?_⟩
  exact aeT hr h0
 refine aY (id:=0) rfl<|SR<|V (dR cA O O Fu (bS.blk (i:=2) O))<|bk bS (i:=0) O (ef O O1 O (bS.blk (i:=0) O))<|fun Nr c8=>aa<|aj<|vC O O1 c8 (i:=0) O cA O mO ⟨?_,c8.below⟩
 (exact aJ Value.agg (rh V5))
theorem Rg(s:kL)(fi:FuncId)(gg:Fc->BitVec 64)(w:World)(hs:kO (Kw w) s)(hf:∀args w,(callFunc fi args).run Tryz.prog w= .ok (.enter fi args) w)(go:∀f w',uY (Kw w') f->oq w'->Calls Tryz.prog fi #[.agg (tA f)] w' (Pure (U (gg f.fc)) w'))(hT:oq w):Calls Tryz.prog 99 #[.agg (rp s),.func (.func fi) #[] #[]] w (Pure (.agg (iU (gQ s.sh gg))) w):=by
 have hsl:=sN s
 have hm:=hs.aT.sl.small
 unfold maxLen at hm
 refine eH func99 rfl rfl fun hH=>SR<|gX hH (v:= .agg _) rfl<|fun b3 w1 a7=>ou a7 (aZ js)<|fun b6 w4 bP=>aa<|SR<|ou bP (aZ js)<|fun b9 w7 eX=>aa<|ah<|SR<|V (cG (cs:=[B _,_]) dJ O O O (bf (eX.blk (i:=2) O)))<|aE O eX (wR _ _ (hs.mono eX.kw) (hT.hp eX)) (aq call50 O)<|fun Hi dN=>aa<|bQ O (fun Ua=> ?_) (fun Ua=> ?_)
 .refine SR<|V (fA dJ 1 O gM O)<|lV dz dN 2 O O rfl<|V (aD (hs.aT.sl.hp dN) O dz O)<|aG (v:=I 0) rfl<|aa<|aC<|have hln:=(yw ‹qL s.sh=true›).1;bj (G:=Int×El) (fun⟨k,e1⟩ s' w'=>(Fr (6::7::(rg 13 11 [])) _ s')/\(Hp w w' (.blk b9 (.cells (iU e1) 37 (0,0))::_))/\(s' 13=I k)/\(0<=k)/\(k<=s.aT.length)/\(e1=rY (gQ s.sh gg) dh k)) (fun⟨k,e1⟩=>(s.aT.length-k).toNat) ((0,dh)) ⟨Fr.refl _ _,dN,rfl,J,J,(EM _ _).symm⟩<| ?_
  rintro⟨k,e1⟩ XE Na ⟨lO,cw,Rh,h0,hk,hr⟩
  have L7:=lO.vv 1 (a:= .func _ _ _) rfl rfl
  obtain⟨C9,vS,Ma,aq2⟩:=lO.w4 4 5 11 12
  refine SR<|V (aL Rh aq2)<|aa<|ah<|aF O (fun xF=> ?_) (fun xF=> ?_)
  .refine ak<|ah<|aC<|SR<|aG Rh<|V (ag (hs.aT.sl.hp cw) dz sK Ma Rh J)<|V (fg (dv:=ko) fB (hs.aT.sl.hp cw) dF O O O J)<|ou cw (aZ uJ)<|fun XI OY dH=>aI rfl<|bk dH (i:=0) O (tG (hs.at J J) O O O (dH.blk (i:=0) O))<|fun w20 fD=>aa<|au<|mI rfl<|aG L7<|V (xk dF O O O (fD.blk (i:=0) O))<|aE O fD (go _ _ ((hs.at J J).mono fD.kw) (hT.hp fD)) (kH hf (cs:=[]) O O)<|fun Ug eU=>V (bu cA cX vS O J)<|bk eU (i:=1) O (bM O O (v:=U _) O O O (eU.blk (i:=1) O) DJ)<|fun w24 mc=> ?_
   rw[yx]at mc
   refine aa<|au<|V (ax Rh O J)<|mI rfl<|aa<| ?_
   refine⟨(k+1,_),aW,lO.u4.u4.u4.u1,(mc.sub (sQ sR)),(aJ I aM),J,J,?_⟩
   (have hp:=aeS ‹qL s.sh=true› hr h0 (show k<s.sh.aT.length by omega);rw[mr]at hp;exact hp)
  refine aY (id:=0) rfl<|SR<|V (dR cA O O vS (cw.blk (i:=0) O))<|bk cw (i:=1) O (ef O C9 O (cw.blk (i:=1) O))<|fun Uj dw=>aa<|aj<|vC O C9 dw (i:=1) O cA O mO ⟨?_,dw.below⟩
  exact aJ Value.agg (rh (by rw[hr];exact aeR J))
 refine ak<|SR<|V (dR cA O O O (dN.blk (i:=0) O))<|bk dN (i:=1) O (ef O O O (dN.blk (i:=1) O))<|fun w28 gj=>aa<|aj<|vC O O gj (i:=1) O cA O mO ⟨?_,gj.below⟩
 exact aJ Value.agg (rh (ajY aQ))
theorem Ny(f:pI)(w:World)(hf:uY (Kw w) f)(hT:oq w):Calls Tryz.prog 100 #[.agg (tA f)] w (Pure (U (eM f.fc)) w):=by
 refine eH func100 rfl rfl fun hH=>SR<|gX hH (v:= .agg _) rfl<|fun b3 w1 a7=>va (v:=U 0#64) rfl<|aa<|ah<|SR<|V (fA dF 0 O bp O)<|lI bt a7 0 O O rfl<|V (kQ O O)<|aa<|aF O (fun h5=> ?_) (fun h5=> ?_)
 .refine SR<|va (v:=U 0#64) rfl<|aa<|aj<|oU O ?_ a7
  exact(aR (show f.fc.kind≠4 from aQ)).symm
 refine ak<|SR<|V (fA dF 2 O jI O)<|V (jP bL O O O (a7.blk (i:=0) O))<|aE O a7 (Mp _ _ (hT.hp a7)) (aq call143 O)<|fun w6 eR=> ?_
 refine V (run_move bC) ?_
 refine V (bD O (v:=I _) O)<|V (bD O (v:=B _) O)<|aI rfl<|aB rfl<|aa<|SR<|V (fA dF 2 O jI O)<|V (jP bL O O O (eR.blk (i:=0) O))<|mI rfl<|aE O eR (nN _ _ _ (hT.hp eR)) (aK Gb O O)<|fun w9 bS=>aU rfl<|aa<|aj<|oU O ?_ bS
 exact(aP (show¬f.fc.kind≠4 from aQ)).symm
theorem uL(s:kL)(w:World)(hs:kO (Kw w) s)(hT:oq w):Calls Tryz.prog 53 #[.agg (rp s)] w (Pure (.agg (iU (gQ s.sh eM))) w):=by
 refine eH func53 rfl rfl fun hH=>SR<|gX hH (v:= .agg _) rfl<|fun b3 w1 a7=>ou a7 (aZ js)<|fun b6 w4 bP=>aa<|SR<|V (cG (cs:=[B _,_]) dJ O O O (bf (bP.blk (i:=1) O)))<|aE O bP (Rg s 100 eM _ (hs.mono bP.kw) call100 (fun f w h ht=>Ny f w h ht) (hT.hp bP)) (aK call99 O O)<|fun w7 eX=>bk eX (i:=0) O (ef O O O (eX.blk (i:=0) O))<|fun w9 bS=>aa<|aj<|vC O O bS (i:=0) O cA O mO ⟨?_,bS.below⟩
 rfl
theorem pG(f:pI)(w:World)(hf:uY (Kw w) f):Calls Tryz.prog 112 #[.agg (tA f)] w (Pure (B (cL f.fc)) w):=by
 have hm:=hf.names.sl.small
 unfold maxLen at hm
 refine eH func112 rfl rfl fun hH=>SR<|gX hH (v:= .agg _) rfl<|fun b3 w1 a7=>va (v:=B false) rfl<|aa<|SR<|V (fA dF 1 O oV O)<|lV dM a7 0 O O rfl<|V (aD (hf.names.sl.hp a7) O dM O)<|aI rfl<|aa<|ah<|SR<|mI rfl<|V (aL O O)<|mB rfl<|bI 10 O (fun h5=> ?_) (fun h5=> ?_)
 .refine aG (v:=B true) rfl<|mB rfl<|cD O rfl<|aG (v:=B true) rfl<|aa<|cr rfl<|SR<|va (v:=B false) rfl<|aa<|aj<|oB O ?_ a7
  exact(KY (f:=f.fc) (Cj adj)).symm
 refine mI rfl<|V (dx O O)<|mB rfl<|mB rfl<|bI 14 O (fun h7=> ?_) (fun h7=> ?_)
 .refine aG (v:=B true) rfl<|aa<|cr rfl<|SR<|va (v:=B false) rfl<|aa<|aj<|oB O ?_ a7
  exact(KY (f:=f.fc) (Cj adj)).symm
 refine V (fA dF 1 O oV O)<|lV dM a7 0 O O rfl<|aE O a7 (jt _ _ _ (hf.names.sl.hp a7)) (aq call75 O)<|fun w8 iv=>V (di O O)<|mB rfl<|aa<|aF O (fun h11=> ?_) (fun h11=> ?_)
 .refine SR<|va (v:=B false) rfl<|aa<|aj<|oB O ?_ iv
  exact(KY (f:=f.fc) (N2 (by show¬xh f.names<0;omega))).symm
 refine ak<|ah<|SR<|va (v:=I 0) rfl<|aa<|aC<|have hn1:1<=f.names.length/\f.names.length<=64:=J;have Oq:xh f.names<0:=J;bj (G:=Int) (fun k s' w'=>(Fr (2::(4::(rg 20 12 []))) _ s')/\(Hp w w' _)/\(s' 4=I k)/\(0<=k)/\(k<=f.names.length)/\(∀j:Int,0<=j->j<k->gY (f.names.getD j.toNat o4)=true)) (fun k=>(f.names.length-k).toNat) (0) ⟨Fr.refl _ _,iv,rfl,J,J,fun j a b=>absurd b J⟩<| ?_
 rintro k ahA Cx ⟨o9,cQ,My,h0,hk,hg⟩
 obtain⟨uK,Fw⟩:=o9.w2 1 3
 refine ah<|SR<|aG My<|aG Fw<|V (aL O O)<|aa<|aF O (fun Jn=> ?_) (fun Jn=> ?_)
 .refine ak<|ah<|aC<|SR<|V (fA dF 1 O oV uK)<|lV dM cQ 0 O O rfl<|aG My<|V (ag (hf.names.sl.hp cQ) dM jK O O J)<|V (az gK O O ((hf.names.sl.hp cQ).cell _ _ (Bc J)))<|aE O cQ (gU _ _) (aq call74 O)<|fun XD cF=>V (bK O)<|aa<|bQ O (fun Mf=> ?_) (fun Mf=> ?_)
  .refine SR<|va (v:=B false) rfl<|aa<|aj<|oB O ?_ cF
   exact(KY (f:=f.fc) (N3 h0 aQ (nt aQ))).symm
  refine ak<|au<|aG My<|V (ax O O J)<|aI rfl<|aa<| ?_
  refine⟨k+1,aW,o9.u4.u4.u4.u1,cF,(aJ I aM),J,J,?_⟩
  exact fun j a b=>if e:j=k then e▸nf ‹_›else hg j a J
 refine aY (id:=0) rfl<|ah<|SR<|V (fA dF 0 O bp uK)<|lI bt cQ 0 O O rfl<|V (bO O O)<|mB rfl<|bI 35 O (fun Q6=> ?_) (fun Q6=> ?_)
 .refine aG (v:=B true) rfl<|aa<|cr rfl<|SR<|V (fA dF 2 O jI uK)<|V (jP bL O O O (cQ.blk (i:=0) O))<|aE O cQ (bJ _ _) (aq nZ O)<|fun Ug eU=>V (bO O O)<|aB rfl<|aa<|aj<|oB O ?_ eU
  (have hny:gH f.names=true:=px hn1 Oq ‹¬k<_› hg;exact(WE (f:=f.fc) hny (.inl aQ)).symm)
 refine V (fA dF 0 O bp uK)<|lI bt cQ 0 O O rfl<|V (bO O O)<|mB rfl<|aa<|aF O (fun h26=> ?_) (fun h26=> ?_)
 .refine SR<|V (fA dF 2 O jI uK)<|V (jP bL O O O (cQ.blk (i:=0) O))<|aE O cQ (bJ _ _) (aq nZ O)<|fun w27 jC=>V (bO O O)<|aB rfl<|aa<|aj<|oB O ?_ jC
  (have hny:gH f.names=true:=px hn1 Oq ‹¬k<_› hg;exact(WE (f:=f.fc) hny (.inr aQ)).symm)
 refine ak<|ah<|SR<|V (fA dF 0 O bp uK)<|lI bt cQ 0 O O rfl<|V (bO O O)<|aa<|aF O (fun h31=> ?_) (fun h31=> ?_)
 .refine SR<|V (fA dF 2 O jI uK)<|V (fA bL 0 O bp O)<|lI bt cQ 0 O O rfl<|aG Fw<|V (bO O O)<|mB rfl<|bI 52 O (fun h33=> ?_) (fun h33=> ?_)
  .refine V (fA dF 2 O jI uK)<|V (jP bL O O O (cQ.blk (i:=0) O))<|aE O cQ (qq _ _) (aq call146 O)<|fun w34 xH=>mB rfl<|aB rfl<|aa<|aj<|oB O ?_ xH
   (have hny:gH f.names=true:=px hn1 Oq ‹¬k<_› hg;exact(aeP (f:=f.fc) hny aQ aQ).symm)
  refine aG (v:=B false) rfl<|aB rfl<|aa<|aj<|oB O ?_ cQ
  (have hny:gH f.names=true:=px hn1 Oq ‹¬k<_› hg;exact(aeN (f:=f.fc) aQ aQ).symm)
 refine ak<|SR<|V (fA dF 0 O bp uK)<|lI bt cQ 0 O O rfl<|V (bO O O)<|mB rfl<|bI 60 O (fun h38=> ?_) (fun h38=> ?_)
 .refine V (fA dF 2 O jI uK)<|V (fA bL 0 O bp O)<|lI bt cQ 0 O O rfl<|aG Fw<|V (bO O O)<|mB rfl<|mB rfl<|bI 67 O (fun h40=> ?_) (fun h40=> ?_)
  .refine V (fA dF 2 O jI uK)<|V (jP bL O O O (cQ.blk (i:=0) O))<|aE O cQ (wO _ _) (aq call151 O)<|fun w41 xI=>mB rfl<|aB rfl<|aa<|aj<|oB O ?_ xI
   (have hny:gH f.names=true:=px hn1 Oq ‹¬k<_› hg;exact(aeQ (f:=f.fc) hny aQ aQ).symm)
  refine aG (v:=B false) rfl<|aB rfl<|aa<|aj<|oB O ?_ cQ
  (have hny:gH f.names=true:=px hn1 Oq ‹¬k<_› hg;exact(aeO (f:=f.fc) aQ aQ).symm)
 refine aG (v:=B false) rfl<|mB rfl<|cD O rfl<|aG (v:=B false) rfl<|aB rfl<|aa<|aj<|oB O ?_ cQ
 (have hny:gH f.names=true:=px hn1 Oq ‹¬k<_› hg;exact(amJ (f:=f.fc) aQ aQ aQ aQ).symm)
theorem qt(s:kL)(w:World)(hs:kO (Kw w) s):Calls Tryz.prog 73 #[.agg (rp s)] w (Pure (B (qL s.sh)) w):=by
 have hsl:=sN s
 have hm:=hs.aT.sl.small
 unfold maxLen at hm
 refine eH func73 rfl rfl fun hH=>SR<|gX hH (v:= .agg _) rfl<|fun b3 w1 a7=>va (v:=B false) rfl<|aa<|ah<|SR<|V (fA dJ 1 O gM O)<|lV dz a7 0 O O rfl<|V (aD (hs.aT.sl.hp a7) O dz O)<|V (aL O O)<|mB rfl<|bI 8 O (fun h5=> ?_) (fun h5=> ?_)
 .refine aG (v:=B true) rfl<|mB rfl<|cD O rfl<|gP O O rfl<|gP O O rfl<|gP O O rfl<|gP O O rfl<|A7<|aG (v:=B true) rfl<|aa<|cr rfl<|SR<|va (v:=B false) rfl<|aa<|aj<|oB O ?_ a7
  exact(I8 J).symm
 refine V (fA dJ 1 O gM O)<|lV dz a7 0 O O rfl<|V (aD (hs.aT.sl.hp a7) O dz O)<|V (dx O O)<|mB rfl<|mB rfl<|bI 14 O (fun h7=> ?_) (fun h7=> ?_)
 .refine gP O O rfl<|gP O O rfl<|gP O O rfl<|gP O O rfl<|A7<|aG (v:=B true) rfl<|aa<|cr rfl<|SR<|va (v:=B false) rfl<|aa<|aj<|oB O ?_ a7
  exact(I8 J).symm
 refine V (fA dJ 0 O mN O)<|V (az sI O O (a7.cell (i:=0) O (v:=B _) O))<|V (bK O)<|mB rfl<|fW 18 O (fun h10=> ?_) (fun h10=> ?_)
 .refine V (fA dJ 1 O gM O)<|lV dz a7 0 O O rfl<|V (aD (hs.aT.sl.hp a7) O dz O)<|V (kQ O O)<|mB rfl<|mB rfl<|aa<|aF O (fun h12=> ?_) (fun h12=> ?_)
  .refine SR<|va (v:=B false) rfl<|aa<|aj<|oB O ?_ a7
   exact(YK (by exact nt aQ) J).symm
  refine ak<|ah<|SR<|va (v:=I 0) rfl<|aa<|aC<|have YS:s.sh.tuple=true\/s.sh.aT.length=1:=(by exact .inr J);have WL:1<=s.aT.length/\s.aT.length<=8:=J;bj (G:=Int) (fun k s' w'=>(Fr (2::3::(rg 25 14 [])) _ s')/\(Hp w w' _)/\(s' 3=I k)/\(0<=k)/\(k<=s.aT.length)/\(∀j:Int,0<=j->j<k->cL (s.aT.getD j.toNat ko).fc=true)) (fun k=>(s.aT.length-k).toNat) (0) ⟨Fr.refl _ _,a7,rfl,J,J,fun j a b=>absurd b J⟩<| ?_
  rintro k acf C8 ⟨sV,bY,zQ,h0,hk,hg⟩
  have Fm:=sV.w1 1
  refine ah<|SR<|aG zQ<|V (fA dJ 1 O gM Fm)<|lV dz bY 0 O O rfl<|V (aD (hs.aT.sl.hp bY) O dz O)<|V (aL O O)<|aa<|aF O (fun Mj=> ?_) (fun Mj=> ?_)
  .refine ak<|ah<|aC<|SR<|V (fA dJ 1 O gM Fm)<|lV dz bY 0 O O rfl<|aG zQ<|V (ag (hs.aT.sl.hp bY) dz sK O O J)<|V (fg (dv:=ko) fB (hs.aT.sl.hp bY) dF O O O J)<|aE O bY (pG _ _ ((hs.at J J).mono bY.kw)) (aq call112 O)<|fun Ml er=>V (bK O)<|aa<|bQ O (fun Jm=> ?_) (fun Jm=> ?_)
   .refine SR<|va (v:=B false) rfl<|aa<|aj<|oB O ?_ er
    exact(I9 (k:=k) h0 J Gd).symm
   refine ak<|au<|aG zQ<|V (ax O O J)<|aI rfl<|aa<| ?_
   refine⟨k+1,aW,sV.u4.u4.u4.u1.u1.u1,er,(aJ I aM),J,J,?_⟩
   exact fun j a b=>if e:j=k then e▸nf ‹_›else hg j a J
  refine aY (id:=0) rfl<|SR<|va (v:=B true) rfl<|aa<|aj<|oB O ?_ bY
  exact(Ja (k:=k) J YS J fun j a b=>by rw[mr];exact hg j a b).symm
 refine aG (v:=B false) rfl<|mB rfl<|aa<|dm rfl<|ak<|ah<|SR<|va (v:=I 0) rfl<|aa<|aC<|have YS:s.sh.tuple=true\/s.sh.aT.length=1:=(by exact .inl (nf ‹(!s.tuple)=false›));have WL:1<=s.aT.length/\s.aT.length<=8:=J;bj (G:=Int) (fun k s' w'=>(Fr (2::3::(rg 25 14 [])) _ s')/\(Hp w w' _)/\(s' 3=I k)/\(0<=k)/\(k<=s.aT.length)/\(∀j:Int,0<=j->j<k->cL (s.aT.getD j.toNat ko).fc=true)) (fun k=>(s.aT.length-k).toNat) (0) ⟨Fr.refl _ _,a7,rfl,J,J,fun j a b=>absurd b J⟩<| ?_
 rintro k aB8 Nr ⟨ab7,fD,Mb,h0,hk,hg⟩
 have anL:=ab7.w1 1
 refine ah<|SR<|aG Mb<|V (fA dJ 1 O gM anL)<|lV dz fD 0 O O rfl<|V (aD (hs.aT.sl.hp fD) O dz O)<|V (aL O O)<|aa<|aF O (fun Fk=> ?_) (fun Fk=> ?_)
 .refine ak<|ah<|aC<|SR<|V (fA dJ 1 O gM anL)<|lV dz fD 0 O O rfl<|aG Mb<|V (ag (hs.aT.sl.hp fD) dz sK O O J)<|V (fg (dv:=ko) fB (hs.aT.sl.hp fD) dF O O O J)<|aE O fD (pG _ _ ((hs.at J J).mono fD.kw)) (aq call112 O)<|fun w24 mc=>V (bK O)<|aa<|bQ O (fun h28=> ?_) (fun h28=> ?_)
  .refine SR<|va (v:=B false) rfl<|aa<|aj<|oB O ?_ mc
   exact(I9 (k:=k) h0 J Gd).symm
  refine ak<|au<|aG Mb<|V (ax O O J)<|aI rfl<|aa<| ?_
  refine⟨k+1,aW,ab7.u4.u4.u4.u1.u1.u1,mc,(aJ I aM),J,J,?_⟩
  exact fun j a b=>if e:j=k then e▸nf ‹_›else hg j a J
 refine aY (id:=0) rfl<|SR<|va (v:=B true) rfl<|aa<|aj<|oB O ?_ fD
 exact(Ja (k:=k) J YS J fun j a b=>by rw[mr];exact hg j a b).symm
theorem An(f:pI)(s:BitVec 64)(hfr:cL f.fc=true)(w:World)(hf:uY (Kw w) f):Calls Tryz.prog 115 #[.agg (tA f),U s] w (Pure (B (jO f.fc s)) w):=by
 have hm:=hf.names.sl.small
 unfold maxLen at hm
 refine eH func115 rfl rfl fun hH=>SR<|gX hH (v:= .agg _) rfl<|fun b3 w1 a7=>va (v:=B false) rfl<|aa<|ah<|SR<|V (fA dF 0 O bp O)<|lI bt a7 0 O O rfl<|V (bO O O)<|aa<|aF O (fun h5=> ?_) (fun h5=> ?_)
 .refine SR<|V (fA dF 1 O oV O)<|lV dM a7 0 O O rfl<|V (aD (hf.names.sl.hp a7) O dM O)<|mU rfl<|aE O a7 (yV _ _ _) (aK call152 O O)<|fun w6 eR=> ?_
  refine V (run_move bC) ?_
  refine V (bD O (v:=I _) O)<|V (bD O (v:=B _) O)<|aI rfl<|aB rfl<|aa<|SR<|mB rfl<|aB rfl<|aa<|aj<|oB O ?_ eR
  exact(N4 (f:=f.fc) aQ s).symm
 refine ak<|ah<|SR<|V (fA dF 0 O bp O)<|lI bt a7 0 O O rfl<|V (bO O O)<|aa<|aF O (fun h10=> ?_) (fun h10=> ?_)
 .refine SR<|mU rfl<|V (fA dF 1 O oV O)<|lV dM a7 0 O O rfl<|V (aD (hf.names.sl.hp a7) O dM O)<|aE O a7 (qm _ _) (aq call119 O)<|fun H9 cQ=>aE O cQ (BG _ _ _) (aK call55 O O)<|fun C8 cw=>aB rfl<|aa<|aj<|oB O ?_ cw
  exact(N5 (f:=f.fc) aQ s).symm
 refine ak<|ah<|SR<|V (fA dF 0 O bp O)<|lI bt a7 0 O O rfl<|V (bO O O)<|aa<|aF O (fun Q9=> ?_) (fun Q9=> ?_)
 .refine SR<|V (fA dF 2 O jI O)<|V (jP bL O O O (a7.blk (i:=0) O))<|mU rfl<|aE O a7 (zi _ _ _) (aK call153 O O)<|fun Uc j7=>mU rfl<|V (jb O O)<|aB rfl<|aa<|aj<|oB O ?_ j7
  exact(ape (f:=f.fc) hfr aQ s).symm
 refine ak<|SR<|V (fA dF 2 O jI O)<|V (jP bL O O O (a7.blk (i:=0) O))<|mU rfl<|aE O a7 (zf _ _ _) (aK call120 O O)<|fun Nr c8=> ?_
 refine V (run_move bC) ?_
 refine V (bD O (v:=I _) O)<|V (bD O (v:=B _) O)<|aI rfl<|aB rfl<|aa<|SR<|mB rfl<|aB rfl<|aa<|aj<|oB O ?_ c8
 exact(amK (f:=f.fc) aQ aQ aQ s).symm
theorem mz(s:kL)(e:El)(w:World)(hs:kO (Kw w) s):Calls Tryz.prog 80 #[.agg (rp s),.agg (iU e)] w (Pure (B (cf s.sh e)) w):=by
 have hsl:=sN s
 have hm:=hs.aT.sl.small
 unfold maxLen at hm
 refine eH func80 rfl rfl fun hH=>SR<|gX hH (v:= .agg _) rfl<|fun b3 w1 a7=>gX a7 (v:= .agg _) rfl<|fun b6 w4 bP=>va (v:=B false) rfl<|aa<|ah<|SR<|V (cG (cs:=[B _,_]) dJ O O O (bf (bP.blk (i:=1) O)))<|aE O bP (qt _ _ (hs.mono bP.kw)) (aq call73 O)<|fun w7 eX=>V (bK O)<|aa<|bQ O (fun h11=> ?_) (fun h11=> ?_)
 .refine SR<|va (v:=B false) rfl<|aa<|aj<|oB O ?_ eX
  exact(SB (nt aQ)).symm
 refine ak<|ah<|SR<|va (v:=I 0) rfl<|aa<|aC<|have hr:qL s.sh=true:=nf aQ;bj (G:=Int) (fun k s' w'=>(Fr (4::5::(rg 9 34 [])) _ s')/\(Hp w w' _)/\(s' 5=I k)/\(0<=k)/\(k<=8)/\(CX s.sh e k)) (fun k=>(8-k).toNat) (0) ⟨Fr.refl _ _,eX,rfl,J,J,CX.none _ _⟩<| ?_
 rintro k ahA Cx ⟨o9,cQ,nV,h0,hk,hf⟩
 obtain⟨Dg,Fw⟩:=o9.w2 2 3
 refine ah<|SR<|aG nV<|V (aL O O)<|aa<|aF O (fun Jn=> ?_) (fun Jn=> ?_)
 .refine ak<|ah<|aC<|ah<|eu aN cQ<|fun XD cF=>have sy:=cF;AQ 0 O sy (run_move nV)<|AQ 1 O sy (fA dJ 1 O gM Dg)<|tV 2 O sy dz 1 O O rfl<|AT 3 O sy (fun w hS=>aD (hs.aT.sl.hp hS) O dz O)<|AQ 4 O sy (aL O O)<|AQ 5 O sy (mV (B _) O)<|CQ (dj:=18) O (fun pL=> ?_) (fun pL=> ?_)
  .refine BQ 6 O O (bT pL) cF (fA dJ 1 O gM Dg)<|AG 7 O O (bT pL) cF (fun w hS=>az dz O O (hS.cell (i:=1) O O))<|BQ 8 O O (bT pL) cF (run_move nV)<|AG 9 O O (bT pL) cF (fun w hS=>ag (hs.aT.sl.hp hS) dz sK O O J)<|AG 10 O O (bT pL) cF (fun w hS=>fg (dv:=ko) fB (hs.aT.sl.hp hS) dF O O O J)<|BQ 11 O O (bT pL) cF (run_move nV)<|BQ 12 O O (bT pL) cF (bu cA cX Fw O J)<|AG 13 O O (bT pL) cF (fun w hS=>az dU O O (hS.cell (i:=0) O (mW _ J)))<|A1 14<|cC O (A5 O (bT pL)) O cF sR (An _ _ (by have hat:=aeB hr (k:=k) h0 J;rw[mr]at hat;exact hat) _ ((hs.at J J).mono cF.kw)) (aK call115 O O)<|fun Ub cJ=>BQ 15 O O (bT pL) cJ (bK O)<|have zh:=cJ;AQ 16 O zh (gC (bT pL) (v:=B _) O)<|AQ 17 O zh (mV (B _) O)<|Kh (dj:=30) O (fun Fk=> ?_) (fun Fk=> ?_)
   .refine AK 18 O O (bR (c:=true) Fk) cJ<|AK 19 O O (bR (c:=true) Fk) cJ<|AK 20 O O (bR (c:=true) Fk) cJ<|AK 21 O O (bR (c:=true) Fk) cJ<|AK 22 O O (bR (c:=true) Fk) cJ<|AK 23 O O (bR (c:=true) Fk) cJ<|AU 24 O O O cJ<|AU 25 O O O cJ<|AU 26 O O O cJ<|AU 27 O O O cJ<|AK 28 O O (bR (c:=true) Fk) cJ<|AQ 29 O zh (gC (bR (c:=true) Fk) (v:=B true) O)<|AD<|cr rfl<|SR<|va (v:=B false) rfl<|aa<|aj<|oB O ?_ cJ
    exact(SC h0 aQ J Gd).symm
   refine BQ 18 O O (bR (c:=false) Fk) cJ (run_move nV)<|BQ 19 O O (bR (c:=false) Fk) cJ (fA dJ 1 O gM Dg)<|AG 20 O O (bR (c:=false) Fk) cJ (fun w hS=>az dz O O (hS.cell (i:=1) O O))<|AG 21 O O (bR (c:=false) Fk) cJ (fun w hS=>aD (hs.aT.sl.hp hS) O dz O)<|BQ 22 O O (bR (c:=false) Fk) cJ (di O O)<|BQ 23 O O (bR (c:=false) Fk) cJ (mV (B _) O)<|CQ (dj:=36) O (fun Hl=> ?_) (fun Hl=> ?_)
   .refine BQ 24 O O (bT Hl) cJ (run_move nV)<|BQ 25 O O (bT Hl) cJ (bu cA cX Fw O J)<|AG 26 O O (bT Hl) cJ (fun w hS=>az dU O O (hS.cell (i:=0) O (mW _ J)))<|BQ 27 O O (bT Hl) cJ (tX O (b:=0#64) O)<|BQ 28 O O (bR (c:=false) Fk) cJ (gC (bT Hl) (v:=B _) O)<|AQ 29 O zh (dV (bR (c:=false) Fk) (v:=B _) O)<|AD<|aF O (fun h27=> ?_) (fun h27=> ?_)
    .refine SR<|va (v:=B false) rfl<|aa<|aj<|oB O ?_ cJ
     exact(KQ h0 aQ J aQ).symm
    refine ak<|au<|aG nV<|V (ax O O J)<|aI rfl<|aa<| ?_
    refine⟨k+1,aW,o9.u4.u4.u4.u4.u4.u4.u4.u4.u1.u1.u1,cJ,(aJ I aM),J,J,?_⟩
    exact hf.next (fun h=>by exfalso;omega) (fun h=>by exact FR aQ)
   refine AK 24 O O (bF Hl) cJ<|AK 25 O O (bF Hl) cJ<|AK 26 O O (bF Hl) cJ<|AK 27 O O (bF Hl) cJ<|BQ 28 O O (bR (c:=false) Fk) cJ (dV (bF Hl) (v:=B false) O)<|AQ 29 O zh (dV (bR (c:=false) Fk) (v:=B _) O)<|AD<|dm rfl<|ak<|au<|aG nV<|V (ax O O J)<|aI rfl<|aa<| ?_
   refine⟨k+1,aW,o9.u4.u4.u4.u4.u4.u4.u4.u4.u1.u1.u1,cJ,(aJ I aM),J,J,?_⟩
   exact hf.next (fun h=>by rw[mr];exact nf aQ) (fun h=>by exfalso;omega)
  refine AK 6 O O (bF pL) cF<|AK 7 O O (bF pL) cF<|AK 8 O O (bF pL) cF<|AK 9 O O (bF pL) cF<|AK 10 O O (bF pL) cF<|AK 11 O O (bF pL) cF<|AK 12 O O (bF pL) cF<|AK 13 O O (bF pL) cF<|AK 14 O O (bF pL) cF<|AK 15 O O (bF pL) cF<|AQ 16 O sy (dV (bF pL) (v:=B false) O)<|AQ 17 O sy (mV (B _) O)<|BQ 18 O O O cF (run_move nV)<|BQ 19 O O O cF (fA dJ 1 O gM Dg)<|AG 20 O O O cF (fun w hS=>az dz O O (hS.cell (i:=1) O O))<|AG 21 O O O cF (fun w hS=>aD (hs.aT.sl.hp hS) O dz O)<|BQ 22 O O O cF (di O O)<|BQ 23 O O O cF (mV (B _) O)<|CQ (dj:=36) O (fun qC=> ?_) (fun qC=> ?_)
  .refine BQ 24 O O (bT qC) cF (run_move nV)<|BQ 25 O O (bT qC) cF (bu cA cX Fw O J)<|AG 26 O O (bT qC) cF (fun w hS=>az dU O O (hS.cell (i:=0) O (mW _ J)))<|BQ 27 O O (bT qC) cF (tX O (b:=0#64) O)<|BQ 28 O O O cF (gC (bT qC) (v:=B _) O)<|AQ 29 O sy (dV O (v:=B _) O)<|AD<|aF O (fun h31=> ?_) (fun h31=> ?_)
   .refine SR<|va (v:=B false) rfl<|aa<|aj<|oB O ?_ cF
    exact(KQ h0 aQ J aQ).symm
   refine ak<|au<|aG nV<|V (ax O O J)<|aI rfl<|aa<| ?_
   refine⟨k+1,aW,o9.u4.u4.u4.u4.u4.u4.u4.u4.u1.u1.u1,cF,(aJ I aM),J,J,?_⟩
   exact hf.next (fun h=>by exfalso;omega) (fun h=>by exact FR aQ)
  refine AK 24 O O (bF qC) cF<|AK 25 O O (bF qC) cF<|AK 26 O O (bF qC) cF<|AK 27 O O (bF qC) cF<|BQ 28 O O O cF (dV (bF qC) (v:=B false) O)<|AQ 29 O sy (dV O (v:=B _) O)<|AD<|dm rfl<|ak<|au<|aG nV<|V (ax O O J)<|aI rfl<|aa<| ?_
  refine⟨k+1,aW,o9.u4.u4.u4.u4.u4.u4.u4.u4.u1.u1.u1,cF,(aJ I aM),J,J,?_⟩
  exact hf.next (fun h=>by exfalso;omega) (fun h=>by exfalso;omega)
 refine aY (id:=0) rfl<|SR<|va (v:=B true) rfl<|aa<|aj<|oB O ?_ cQ
 exact(KR hr aQ hf).symm
theorem BL(s:kL)(w:World)(hs:kO (Kw w) s):Calls Tryz.prog 72 #[.agg (rp s)] w (Pure (B (SI s.sh)) w):=by
 have hsl:=sN s
 have hm:=hs.aT.sl.small
 unfold maxLen at hm
 refine eH func72 rfl rfl fun hH=>SR<|gX hH (v:= .agg _) rfl<|fun b3 w1 a7=>va (v:=B false) rfl<|aa<|ah<|SR<|V (fA dJ 1 O gM O)<|lV dz a7 0 O O rfl<|V (aD (hs.aT.sl.hp a7) O dz O)<|V (dx O O)<|aa<|aF O (fun h5=> ?_) (fun h5=> ?_)
 .refine SR<|va (v:=B true) rfl<|aa<|aj<|oB O ?_ a7
  exact(atX (s:=s.sh) J).symm
 refine ak<|ah<|SR<|va (v:=I 0) rfl<|aa<|aC<|bj (G:=Int) (fun k s' w'=>(Fr (rg 2 4 (rg 10 30 [])) _ s')/\(Hp w w' _)/\(s' 3=I k)/\(0<=k)/\(k<=s.aT.length)/\(∀j:Int,0<=j->j<k->Ng (s.aT.getD j.toNat ko).names=false)) (fun k=>(s.aT.length-k).toNat) (0) ⟨Fr.refl _ _,a7,rfl,J,J,fun j a b=>absurd b J⟩<| ?_
 rintro k sg6 w6 ⟨OW,jg,XU,h0,hk,hg⟩
 have Nl:=OW.w1 1
 refine ah<|SR<|aG XU<|V (fA dJ 1 O gM Nl)<|lV dz jg 0 O O rfl<|V (aD (hs.aT.sl.hp jg) O dz O)<|V (aL O O)<|aa<|aF O (fun h8=> ?_) (fun h8=> ?_)
 .refine ak<|ah<|aC<|SR<|V (fA dJ 1 O gM Nl)<|lV dz jg 0 O O rfl<|aG XU<|V (ag (hs.aT.sl.hp jg) dz sK O O J)<|V (fg (dv:=ko) fB (hs.aT.sl.hp jg) dF O O O J)<|ou jg (aZ uJ)<|fun b11 w9 bS=>bk bS (i:=0) O (tG (hs.at J J) O O O (bS.blk (i:=0) O))<|fun Cx bY=>aa<|ah<|SR<|V (fA dF 1 O oV O)<|lV dM bY 0 O O rfl<|V (aD ((hs.at J J).names.sl.hp bY) O dM O)<|V (dx O O)<|aa<|aF O (fun Mj=> ?_) (fun Mj=> ?_)
  .refine SR<|va (v:=B true) rfl<|aa<|aj<|oB O ?_ bY
   exact(amL (s:=s.sh) (k:=k) h0 J (by rw[mr];(exact apf (by show 70<(s.aT.getD k.toNat ko).names.length;omega)))).symm
  refine ak<|SR<|va (v:=I 0) rfl<|aa<|aC<|have hnb:(s.aT.getD k.toNat ko).names.length<=70:=J;bj (G:=Int) (fun i s' w'=>(Fr (2::(5::(rg 26 14 []))) _ s')/\(Hp w w' _)/\(s' 5=I i)/\(0<=i)/\(i<=(s.aT.getD k.toNat ko).names.length)/\(∀j:Int,0<=j->j<i->¬40<((s.aT.getD k.toNat ko).names.getD j.toNat o4).size)) (fun i=>((s.aT.getD k.toNat ko).names.length-i).toNat) (0) ⟨Fr.refl _ _,bY,rfl,J,J,fun j a b=>absurd b J⟩<| ?_
  rintro i acg Ml ⟨oJ,cF,Dd,i0,i1,hn⟩
  have Ms:=oJ.w1 4
  have qp:=oJ.t1 3 XU
  refine ah<|SR<|aG Dd<|V (fA dF 1 O oV Ms)<|lV dM cF 0 O O rfl<|V (aD ((hs.at J J).names.sl.hp cF) O dM O)<|V (aL O O)<|aa<|aF O (fun pL=> ?_) (fun pL=> ?_)
  .refine ak<|ah<|aC<|SR<|V (fA dF 1 O oV Ms)<|lV dM cF 0 O O rfl<|aG Dd<|V (ag ((hs.at J J).names.sl.hp cF) dM jK O O J)<|V (az gK O O (((hs.at J J).names.sl.hp cF).cell _ _ (Bc J)))<|V (kG O gK O)<|V (dx O O)<|aa<|aF O (fun Jm=> ?_) (fun Jm=> ?_)
   .refine SR<|va (v:=B true) rfl<|aa<|aj<|oB O ?_ cF
    exact(amL (s:=s.sh) (k:=k) h0 J (by rw[mr];(exact apg i0 aQ (by show 40<((s.aT.getD k.toNat ko).names.getD i.toNat o4).size;omega)))).symm
   refine ak<|au<|aG Dd<|V (ax O O J)<|aI rfl<|aa<| ?_
   refine⟨i+1,aW,oJ.u4.u4.u4.u1.u1.u1,cF,(aJ I aM),J,J,?_⟩
   exact fun j a b=>if e:j=i then e▸(by omega)else hn j a J
  refine aY (id:=2) rfl<|au<|aG qp<|V (ax O O J)<|aI rfl<|aa<| ?_
  refine⟨k+1,aW,(((OW.u4.u4.u4.u4).t oJ O)).u4.u4,(cF.sub (sQ sR)),(aJ I aM),J,J,?_⟩
  exact fun j a b=>if e:j=k then e▸aj1 J ‹¬i<_› hn else hg j a J
 refine aY (id:=0) rfl<|SR<|va (v:=B false) rfl<|aa<|aj<|oB O ?_ jg
 exact(aph (s:=s.sh) (k:=k) J J fun j a b=>by rw[mr];exact hg j a b).symm
theorem Dh(K:Vu)(f:pI)(hn:f.names.length<=1000)(w:World)(hK:Le K (Kw w))(hf:uY K f):Calls Tryz.prog 94 #[.agg (tA f)] w (KP K (fun K' u=>∃f':pI,u= .agg (tA f')/\f'.fc=f.fc/\uY K' f') w):=by
 refine eH func94 rfl rfl fun hH=>SR<|gX hH (v:= .agg _) rfl<|fun b3 w1 a7=>ou a7 (aZ uJ)<|fun b6 w4 bP=>aa<|SR<|vP 0 0 bP (EG dM jK)<|fun b9 w7 eX=> ?_
 (try simp only[ot]at eX)
 have bS:=eX.A9 0 1 O ay
 refine V (fA dF 1 O oV O)<|lV dM bS 2 O O rfl<|jm O bS (i:=0) O ((hf.mono hK).names.sl.hp bS) O O dM O O (size:=1) (bytes:=16) O O O ay jY J jv<|fun v11 Cx bY=>V (fA dF 1 O oV O)<|have hone:=(a6 (bY.get (i:=0) O)).2;bk bY (i:=2) O (WH O O O (a6 (bY.get (i:=0) O)).1 hone (bY.blk (i:=2) O))<|fun Na iu=>aa<|SR<|V (xk dF O O O (iu.blk (i:=2) O))<|bk iu (i:=1) O (WG (aa6 hf hone) O O O (iu.blk (i:=1) O))<|fun Ml er=>aa<|aj<| ?_
 obtain⟨Zc,hz,hzv,-⟩:=er.UX K
 refine vC O O er (i:=1) O dF O (by simp only[tQ,fB];rfl) ⟨Zc,hz.sub (ac8 _ _),_,rfl,rfl,⟨?_⟩⟩
 simpa using hzv
theorem zR(K:Vu)(v:Value)(l:List kL)(hl:l.length<=1000)(hfn:∀s∈l,s.aT.length<=1000)(hnn:∀s∈l,∀f∈s.aT,f.names.length<=1000)(w:World)(hK:Le K (Kw w))(hs:Sl w v 2 l.length (l.flatMap zY))(hv:Oa K l):Calls Tryz.prog 51 #[v] w (KP K (fun K' u=>∃p:kL,u= .agg (rp p)/\p.sh=⟨true,zD l⟩/\kO K' p) w):=by
 refine eH func51 rfl rfl fun hH=>SR<|ou hH (aZ Tryz.zeroValue56)<|fun b3 w1 a7=>aa<|SR<|V (dD (vs:=[(0,B true)]) O Xz)<|ou a7 (aZ Tryz.zeroValue56)<|fun b6 w4 bP=>bk bP (i:=0) O (dX (c':=#[B true,.slice none 0 0]) O O O jY (bP.blk (i:=0) O) O)<|fun w7 eX=>have iv:=eX.fl 88 67;aa<|ah<|SR<| ?_
 refine V (run_move bC) ?_
 refine V (aD (hs.hp iv) O PG O)<|aG (v:=I 0) rfl<|aa<|aC<|bj (G:=Int×Value×(List pI)×(List a8)) (fun⟨k,fv0,fs,Z⟩ s' w'=>(Fr (5::(7::(rg 11 20 []))) _ s')/\(Hp w w' (.row fv0 88 67 (fs.length) (fs.flatMap rj):: .blk b6 (.cells (#[B true,fv0]) 56 (0,0))::_::Z))/\(s' 11=I k)/\(0<=k)/\(k<=l.length)/\(fs.map pI.fc=zD (l.take k.toNat))/\(r5 (Kz K Z) fs)/\((fs.length:Int)<=1000*k)) (fun⟨k,fv0,fs,Z⟩=>(l.length-k).toNat) ((0,(.slice none 0 0:Value),[],[])) ⟨Fr.refl _ _,iv,rfl,J,J,rfl,r5.nil _,aA⟩<| ?_
 rintro⟨k,fv0,fs,Z⟩ XQ Hi ⟨rJ,bS,XV,h0,hk,hm,hF,hb⟩
 obtain⟨Fu,oL,Mz,aq4⟩:=rJ.w4 2 3 9 10
 refine SR<|V (aL XV aq4)<|aa<|ah<|aF O (fun h12=> ?_) (fun h12=> ?_)
 .refine ak<|ah<|aC<|SR<|V (ag (hs.hp bS) PG AR Mz XV J)<|V (fg (dv:=Cy) KZ (hs.hp bS) dJ O O O J)<|ou bS (aZ Tryz.zeroValue56)<|fun b15 C8 cw=>bk cw (i:=0) O (GL ((hv.mono hK).at J J) O O O (cw.blk (i:=0) O) O)<|fun Ml er=>aa<|SR<|V (fA dJ 1 O gM O)<|lV dz er 0 O O rfl<|V (aD (((hv.mono hK).at J J).aT.sl.hp er) O dz O)<|aG (v:=I 0) rfl<|aa<|aC<|have hfk:=hfn _ (kU (e8 (d:=Cy) h0 ‹k<l.length›));bj (G:=Int×Value×(List pI)×(List a8)) (fun⟨i,fv1,gs,Z1⟩ s' w'=>(Fr (7::(rg 18 12 [])) _ s')/\(Hp w w' (_:: .row fv1 88 67 (gs.length) (gs.flatMap rj):: .blk b6 (.cells (#[B true,fv1]) 56 (0,0))::_::Z1))/\(s' 18=I i)/\(0<=i)/\(i<=(l.getD k.toNat Cy).aT.length)/\(gs.map pI.fc=fs.map pI.fc++((l.getD k.toNat Cy).aT.take i.toNat).map pI.fc)/\(r5 (Kz K Z1) gs)/\((gs.length:Int)=fs.length+i)) (fun⟨i,fv1,gs,Z1⟩=>((l.getD k.toNat Cy).aT.length-i).toNat) ((0,(fv0:Value),fs,Z)) ⟨Fr.refl _ _,er,rfl,J,J,aA,hF,aA⟩<| ?_
  rintro⟨i,fv1,gs,Z1⟩ aqG Uc ⟨wL,dH,MA,i0,ik,Ht,hF1,hb1⟩
  obtain⟨aq5,aq6⟩:=wL.w2 16 17
  obtain⟨L8,aq7⟩:=wL.t2 3 oL 11 XV
  refine SR<|V (aL MA aq6)<|aa<|ah<|aF O (fun Jm=> ?_) (fun Jm=> ?_)
  .refine ak<|ah<|aC<|SR<|V (ag (((hv.mono hK).at J J).aT.sl.hp dH) dz sK aq5 MA J)<|V (fg (dv:=ko) fB (((hv.mono hK).at J J).aT.sl.hp dH) dF O O O J)<|ou dH (aZ uJ)<|fun b23 Nr c8=>bk c8 (i:=0) O (tG (((hv.mono hK).at J J).at J J) O O O (c8.blk (i:=0) O))<|fun w24 mc=>aa<|ia aN mc (sP (sP (sQ (sQ sR))))<|fun Uj dw=>AQ 0 O (dw.sub (sP (sP (sQ (sQ sR))))) (fA dJ 1 O gM L8)<|AT 2 O (dw.sub (sP (sP (sQ (sQ sR))))) (fun w hS=>xk dF O O O (hS.blk (i:=0) O))<|ic 1 3 aN ?_ ?_
   .refine bW O aH O dw (sP (sP (sQ (sQ sR)))) (az dz O O (dw.cell (i:=3) O O))<|A1 3<|aeA O aH O dw (sP (sP (sQ (sQ sR)))) (Dh K ((l.getD k.toNat Cy).aT.getD i.toNat ko) (hnn _ (kU (e8 (d:=Cy) h0 ‹k<l.length›)) _ (kU (e8 (d:=ko) i0 aQ))) _ (hK.trans dw.kw) ((hv.at h0 aQ).at i0 aQ)) (aq call94 O)<|fun v32 w33 Z35 mG aCh=>have xG:Hp _ w33 (_::_::_::_::_::(Z35++Z1)):=mG.Iq (L:=[_,_,_,_,_]) (L':=Z1);?_
    obtain⟨f38,rfl,avH,anM⟩:=aCh
    refine A1 4<|cN O aH O xG (sP (sP (sQ (sQ (sP (sA sR)))))) (f:=fun b=> .slice (some ⟨b,0,none⟩) 1 1) (yy dz O O O (l:=[_]) O ay ay O)<|fun b43 w41 xI=>A1 5<|k8 O aH O xI (j:=3) O (fun _=>(sQ (sP (sP (sQ (sQ (sP (sA sR)))))))) (Hp.mv fB xI (i:=0) (l:=[_]) O jL) O O dz O O (size:=67) (bytes:=552) O O O ay (K0 anM) V3 VZ<|fun v46 w44 qD=>AQ 6 O (qD.sub (sQ (sP (sP (sQ (sQ (sP (sA sR)))))))) (fA dJ 1 O gM L8)<|A1 7<|eK O aH qD (j:=4) O (sQ (sP (sP (sQ (sQ (sP (sA sR))))))) (bM O O (v:=v46) O (a6 (qD.get (i:=3) O)).1 (a6 (qD.get (i:=3) O)).2 (qD.blk (i:=4) O) aA)<|fun w49 ey=>AD<|au<|V (ax MA O J)<|mI rfl<|aa<| ?_
    refine⟨(i+1,v46,(gs++[f38]),(Z35++Z1)),aW,wL.u4.u4.u4.u1,(Hp.conv (ey.sub (sQ (sQ sR))) aA),(aJ I aM),J,J,?_,?_,?_⟩
    .rw[GK i0 aQ,gp,Ht,dg];simp only[kV,AL];rw[avH]
    .exact(hF1.mono (Le.zz fun y hy=>bB _ hy)).snoc (anM.mono (Le.zz fun y hy=>dy _ hy))
    simp only[cV,gI];omega
   refine aeA O aH O dw (sP (sP (sQ (sQ sR)))) (Dh K ((l.getD k.toNat Cy).aT.getD i.toNat ko) (hnn _ (kU (e8 (d:=Cy) h0 ‹k<l.length›)) _ (kU (e8 (d:=ko) i0 aQ))) _ (hK.trans dw.kw) ((hv.at h0 aQ).at i0 aQ)) (aq call94 O)<|fun v53 w54 Z56 iB aCj=>have sW:Hp _ w54 (_::_::_::_::_::(Z56++Z1)):=iB.Iq (L:=[_,_,_,_,_]) (L':=Z1);?_
   obtain⟨f59,rfl,anO,ZY⟩:=aCj
   refine ic 1 4 aN ?_ ?_
   .refine bW O aH O sW (sP (sP (sQ (sQ (sP (sA sR)))))) (az dz O O (sW.cell (i:=3) O O))<|A1 4<|cN O aH O sW (sP (sP (sQ (sQ (sP (sA sR)))))) (f:=fun b=> .slice (some ⟨b,0,none⟩) 1 1) (yy dz O O O (l:=[_]) O ay ay O)<|fun b66 w64 uM=>A1 5<|k8 O aH O uM (j:=3) O (fun _=>(sQ (sP (sP (sQ (sQ (sP (sA sR)))))))) (Hp.mv fB uM (i:=0) (l:=[_]) O jL) O O dz O O (size:=67) (bytes:=552) O O O ay (K0 ZY) V3 VZ<|fun v69 w67 kD=>AQ 6 O (kD.sub (sQ (sP (sP (sQ (sQ (sP (sA sR)))))))) (fA dJ 1 O gM L8)<|A1 7<|eK O aH kD (j:=4) O (sQ (sP (sP (sQ (sQ (sP (sA sR))))))) (bM O O (v:=v69) O (a6 (kD.get (i:=3) O)).1 (a6 (kD.get (i:=3) O)).2 (kD.blk (i:=4) O) aA)<|fun w72 u9=>AD<|au<|V (ax MA O J)<|mI rfl<|aa<| ?_
    refine⟨(i+1,v69,(gs++[f59]),(Z56++Z1)),aW,wL.u4.u4.u4.u1,(Hp.conv (u9.sub (sQ (sQ sR))) aA),(aJ I aM),J,J,?_,?_,?_⟩
    .rw[GK i0 aQ,gp,Ht,dg];simp only[kV,AL];rw[anO]
    .exact(hF1.mono (Le.zz fun y hy=>bB _ hy)).snoc (ZY.mono (Le.zz fun y hy=>dy _ hy))
    simp only[cV,gI];omega
   refine cN O aH O sW (sP (sP (sQ (sQ (sP (sA sR)))))) (f:=fun b=> .slice (some ⟨b,0,none⟩) 1 1) (yy dz O O O (l:=[_]) O ay ay O)<|fun b76 w74 CG=>A1 1<|bW O aH O CG (sQ (sP (sP (sQ (sQ (sP (sA sR))))))) (az dz O O (CG.cell (i:=4) O O))<|A1 5<|k8 O aH O CG (j:=3) O (fun _=>(sQ (sP (sP (sQ (sQ (sP (sA sR)))))))) (Hp.mv fB CG (i:=0) (l:=[_]) O jL) O O dz O O (size:=67) (bytes:=552) O O O ay (K0 ZY) V3 VZ<|fun v81 w79 pM=>AQ 6 O (pM.sub (sQ (sP (sP (sQ (sQ (sP (sA sR)))))))) (fA dJ 1 O gM L8)<|A1 7<|eK O aH pM (j:=4) O (sQ (sP (sP (sQ (sQ (sP (sA sR))))))) (bM O O (v:=v81) O (a6 (pM.get (i:=3) O)).1 (a6 (pM.get (i:=3) O)).2 (pM.blk (i:=4) O) aA)<|fun w84 Fx=>AD<|au<|V (ax MA O J)<|mI rfl<|aa<| ?_
   refine⟨(i+1,v81,(gs++[f59]),(Z56++Z1)),aW,wL.u4.u4.u4.u1,(Hp.conv (Fx.sub (sQ (sQ sR))) aA),(aJ I aM),J,J,?_,?_,?_⟩
   .rw[GK i0 aQ,gp,Ht,dg];simp only[kV,AL];rw[anO]
   .exact(hF1.mono (Le.zz fun y hy=>bB _ hy)).snoc (ZY.mono (Le.zz fun y hy=>dy _ hy))
   simp only[cV,gI];omega
  refine aY (id:=2) rfl<|au<|V (ax aq7 O J)<|mI rfl<|aa<| ?_
  refine⟨(k+1,fv1,gs,Z1),aW,(((rJ.u4.u4).t wL O)).u1.u1.u1,(Hp.conv (dH.sub (sQ sR)) aM),(aJ I aM),J,J,?_,?_,J⟩
  .rw[aa5 h0 aQ,<-hm,Ht,iD J];rfl
  exact hF1
 refine aY (id:=0) rfl<|SR<|V (cG (cs:=[B _,_]) dJ O O oL (bf (bS.blk (i:=1) O)))<|bk bS (i:=2) O (dX (c':=#[B true,fv0]) O Fu O (aj2 (a6 (bS.get (i:=0) O)).2) (bS.blk (i:=2) O) O)<|fun w86 Uq=>aa<|aj<| ?_
 obtain⟨Zr,hz,hzv,-⟩:=Uq.UX K
 refine vC (i:=Zr.length+1) results51 Fu hz (aj3 (i:=1) O) dJ O O ⟨Zr++Z,hz.sub (List.Sublist.append (.refl _) (sQ (sQ (.refl _)))),⟨true,fv0,fs⟩,rfl,?_,?_,?_⟩
 .rw[kL.sh,hm,aeU aQ]
 .exact hzv.mono (Le.zz fun y hy=>dy _ hy)
 exact(hF.mono (Le.zz fun y hy=>bB _ hy)).each
theorem BM(s:kx)(w:World)(hs:xm (Kw w) s):Calls Tryz.prog 32 #[.agg (GM s)] w (Pure (B (uv s)) w):=by
 have Ht:=hs.an.sl.small
 have Lz:=hs.vars.sl.small
 unfold maxLen at Ht Lz
 refine eH func32 rfl rfl fun hH=>SR<|gX hH (v:= .agg _) rfl<|fun b3 w1 a7=>va (v:=B false) rfl<|aa<|ah<|SR<|V (fA gB 0 O qW O)<|V (cB (hs.an.sl.hp a7) kK O O (a7.cell (i:=0) O O))<|V (aD (hs.an.sl.hp a7) O kK O)<|V (dx O O)<|mB rfl<|bI 11 O (fun h5=> ?_) (fun h5=> ?_)
 .refine aG (v:=B true) rfl<|aa<|cr rfl<|SR<|va (v:=B true) rfl<|aa<|aj<|oB O ?_ a7
  (rw[uv,gq J];rfl)
 refine V (fA gB 1 O qX O)<|V (cB (hs.vars.sl.hp a7) kW O O (a7.cell (i:=0) O O))<|V (aD (hs.vars.sl.hp a7) O kW O)<|V (dx O O)<|mB rfl<|aa<|aF O (fun h7=> ?_) (fun h7=> ?_)
 .refine SR<|va (v:=B true) rfl<|aa<|aj<|oB O ?_ a7
  (rw[uv,gq J];rfl)
 refine ak<|ah<|SR<|V (fA gB 0 O qW O)<|V (cB (hs.an.sl.hp a7) kK O O (a7.cell (i:=0) O O))<|V (aD (hs.an.sl.hp a7) O kK O)<|aG (v:=I 0) rfl<|aa<|aC<|have hno:¬(20<s.an.length\/80<s.vars.length):=J;bj (G:=Int) (fun k s' w'=>(Fr (2::(4::(rg 20 14 []))) _ s')/\(Hp w w' _)/\(s' 20=I k)/\(0<=k)/\(k<=s.an.length)/\(∀j:Int,0<=j->j<k->SO (s.an.getD j.toNat mX)=false)) (fun k=>(s.an.length-k).toNat) (0) ⟨Fr.refl _ _,a7,rfl,J,J,fun j a b=>absurd b J⟩<| ?_
 rintro k sg8 w8 ⟨fr8,eX,ahK,h0,hk,hg⟩
 obtain⟨aCl,avJ,avK⟩:=fr8.w3 1 18 19
 refine SR<|V (aL ahK avK)<|aa<|ah<|aF O (fun h10=> ?_) (fun h10=> ?_)
 .refine ak<|ah<|aC<|SR<|V (ag (hs.an.sl.hp eX) kK DD avJ ahK J)<|V (fg (dv:=mX) r6 (hs.an.sl.hp eX) wo O O O J)<|ou eX (aZ T4)<|fun Mm H9 cQ=>bk cQ (i:=0) O (dX (c':=(K2 _).toArray) O O O (SM (hs.at J J)) (cQ.blk (i:=0) O) O)<|fun Na iu=>aa<|SR<|V (fA wo 1 O AR O)<|V (ix (sub:=zY _) dJ O O O (iu.blk (i:=0) O) O)<|aE O iu (BL _ _ ((hs.at J J).mono iu.kw)) (aq call72 O)<|fun Ml er=>mB rfl<|fW 27 O (fun Mf=> ?_) (fun Mf=> ?_)
  .refine aG (v:=B true) rfl<|aa<|cr rfl<|SR<|va (v:=B true) rfl<|aa<|aj<|oB O ?_ er
   (rw[uv,EP (d:=mX) (P:=SO) h0 ‹k<_› (by rw[SO,oR];exact .inl aQ)];simp)
  refine V (fA wo 0 O jK O)<|V (az gK O O (er.cell (i:=0) O (v:= .string _) O))<|V (kG O gK O)<|V (dx O O)<|mB rfl<|aa<|aF O (fun Q6=> ?_) (fun Q6=> ?_)
  .refine SR<|va (v:=B true) rfl<|aa<|aj<|oB O ?_ er
   (rw[uv,EP (d:=mX) (P:=SO) h0 ‹k<_› (by rw[SO,oR];exact .inr (gq J))];simp)
  refine ak<|au<|V (ax ahK O J)<|mI rfl<|aa<| ?_
  refine⟨k+1,aW,fr8.u4.u4.u4.u1.u1.u1,(er.sub (sQ sR)),(aJ I aM),J,J,?_⟩
  exact fun j a b=>if e:j=k then e▸(by rw[SO,Bool.or_eq_false_iff];exact⟨aQ,gm J⟩)else hg j a J
 refine aY (id:=0) rfl<|ah<|SR<|V (fA gB 1 O qX aCl)<|V (cB (hs.vars.sl.hp eX) kW O O (eX.cell (i:=0) O O))<|V (aD (hs.vars.sl.hp eX) O kW O)<|aG (v:=I 0) rfl<|aa<|aC<|have hla:s.an.any SO=false:=Qn (d:=mX) aQ hg;bj (G:=Int) (fun j s' w'=>(Fr (2::(6::(rg 37 9 []))) _ s')/\(Hp w w' _)/\(s' 37=I j)/\(0<=j)/\(j<=s.vars.length)/\(∀i:Int,0<=i->i<j->apk (s.vars.getD i.toNat eY)=false)) (fun j=>(s.vars.length-j).toNat) (0) ⟨Fr.refl _ _,eX,rfl,J,J,fun j a b=>absurd b J⟩<| ?_
 rintro j aCm Ug ⟨ahL,c8,XW,j0,jk,hv⟩
 obtain⟨aq8,aq9⟩:=ahL.w2 35 36
 refine SR<|V (aL XW aq9)<|aa<|ah<|aF O (fun zL=> ?_) (fun zL=> ?_)
 .refine ak<|ah<|aC<|SR<|V (ag (hs.vars.sl.hp c8) kW DE aq8 XW J)<|V (fg (dv:=eY) uu (hs.vars.sl.hp c8) nX O O O J)<|ou c8 (aZ Tryz.zeroValue63)<|fun b27 w25 j6=>bk j6 (i:=0) O (dX (c':=(Io _).toArray) O O O V7 (j6.blk (i:=0) O) O)<|fun w28 gj=>aa<|SR<|V (fA nX 0 O jK O)<|V (az gK O O (gj.cell (i:=0) O (v:= .string _) O))<|V (kG O gK O)<|V (dx O O)<|aa<|aF O (fun h31=> ?_) (fun h31=> ?_)
  .refine SR<|va (v:=B true) rfl<|aa<|aj<|oB O ?_ gj
   (rw[uv,EP (d:=eY) (P:=apk) j0 ‹j<_› (gq J)];simp)
  refine ak<|au<|V (ax XW O J)<|mI rfl<|aa<| ?_
  refine⟨j+1,aW,ahL.u4.u4.u1.u1,(gj.sub (sQ sR)),(aJ I aM),J,J,?_⟩
  exact fun i a b=>if e:i=j then e▸(gm J)else hv i a J
 refine aY (id:=2) rfl<|SR<|va (v:=B false) rfl<|aa<|aj<|oB O ?_ c8
 (rw[uv,hla,Qn (d:=eY) aQ hv,gm hno];rfl)
theorem zk(s:kx)(w:World)(hs:xm (Kw w) s):Calls Tryz.prog 34 #[.agg (GM s)] w (Pure (B (gy s)) w):=by
 have Ht:=hs.an.sl.small
 have Lz:=hs.vars.sl.small
 unfold maxLen at Ht Lz
 refine eH func34 rfl rfl fun hH=>SR<|gX hH (v:= .agg _) rfl<|fun b3 w1 a7=>va (v:=B false) rfl<|aa<|SR<|va (v:= .slice none 0 0) rfl<|have gL:=a7.fl 9 1;aa<|ah<|SR<|V (fA gB 0 O qW O)<|V (cB (hs.an.sl.hp gL) kK O O (gL.cell (i:=1) O O))<|V (aD (hs.an.sl.hp gL) O kK O)<|V (dx O O)<|mB rfl<|bI 12 O (fun h6=> ?_) (fun h6=> ?_)
 .refine aG (v:=B true) rfl<|aa<|cr rfl<|SR<|va (v:=B false) rfl<|aa<|aj<|oB O ?_ gL
  exact(Oh J).symm
 refine V (fA gB 1 O qX O)<|V (cB (hs.vars.sl.hp gL) kW O O (gL.cell (i:=1) O O))<|V (aD (hs.vars.sl.hp gL) O kW O)<|V (dx O O)<|mB rfl<|aa<|aF O (fun h8=> ?_) (fun h8=> ?_)
 .refine SR<|va (v:=B false) rfl<|aa<|aj<|oB O ?_ gL
  exact(Oh J).symm
 refine ak<|ah<|SR<|va (v:=I 0) rfl<|aa<|aC<|have hsz:s.an.length<=16/\s.vars.length<=64:=J;have hnl:(n9 s).length=s.an.length+s.vars.length:=(by simp[n9]);bj (G:=Int×(List Tx)×Value) (fun⟨k,m,v3⟩ s' w'=>(Fr (rg 2 3 (rg 18 24 [])) _ s')/\(Hp w w' (.row v3 9 1 (m.length) (HS m)::_))/\(s' 3=v3)/\(s' 4=I k)/\(0<=k)/\(k<=s.an.length)/\(m=(s.an.take k.toNat).map zZ.name)/\((m.length:Int)=k)/\(∀j:Int,0<=j->j<k->qL (s.an.getD j.toNat mX).yz.sh=true)) (fun⟨k,m,v3⟩=>(s.an.length-k).toNat) ((0,[],(.slice none 0 0:Value))) ⟨Fr.refl _ _,gL,rfl,rfl,J,J,rfl,rfl,fun j a b=>absurd b J⟩<| ?_
 rintro⟨k,m,v3⟩ sg9 w9 ⟨fr9,iv,XK,Ns,h0,hk,hm,hml,hg⟩
 have XJ:=fr9.w1 1
 refine ah<|SR<|aG Ns<|V (fA gB 0 O qW XJ)<|V (cB (hs.an.sl.hp iv) kK O O (iv.cell (i:=1) O O))<|V (aD (hs.an.sl.hp iv) O kK O)<|V (aL O O)<|aa<|aF O (fun h11=> ?_) (fun h11=> ?_)
 .refine ak<|ah<|aC<|ah<|SR<|V (fA gB 0 O qW XJ)<|V (cB (hs.an.sl.hp iv) kK O O (iv.cell (i:=1) O O))<|aG Ns<|V (ag (hs.an.sl.hp iv) kK DD O O J)<|V (fA wo 1 O AR O)<|V (oy (dv:=mX) (off:=1) (cs:=zY _) r6 (hs.an.sl.hp iv) dJ O O O J (Jb _))<|aE O iv (qt _ _ ((hs.at J J).mono iv.kw)) (aq call73 O)<|fun Cx bY=>V (bK O)<|aa<|bQ O (fun xF=> ?_) (fun xF=> ?_)
  .refine SR<|va (v:=B false) rfl<|aa<|aj<|oB O ?_ bY
   exact(abb h0 ‹k<_› (by rw[La,nt ‹(!qL _)=true›,Jt])).symm
  refine ak<|au<|aG XK<|V (fA gB 0 O qW XJ)<|V (cB (hs.an.sl.hp bY) kK O O (bY.cell (i:=1) O O))<|aG Ns<|V (ag (hs.an.sl.hp bY) kK DD O O J)<|V (fA wo 0 O jK O)<|V (gf (dv:=mX) (off:=0) r6 (hs.an.sl.hp bY) gK O O J O)<|vP 1 1 bY (bZ dM O O (sz:=1) (vs:=[.string _]) O O ay ay O O)<|fun XI OY dH=> ?_
  (try simp only[ot]at dH)
  refine jm O dH (i:=1) O (dH.dQ (i:=0) (n:=1) (sz:=1) O O ay) O O dM O O (size:=1) (bytes:=16) O O O ay jY J jv<|fun v20 Nr c8=> ?_
  refine V (run_assign bC) ?_
  refine aa<|au<|aG Ns<|V (ax O O J)<|aI rfl<|aa<| ?_
  refine⟨(k+1,m++[(s.an.getD k.toNat mX).name],v20),aW,fr9.u4.u4.u4.u4.u4.u4.u1.u1,(Hp.conv (c8.sub (sQ sR)) aA),rfl,(aJ I aM),J,J,?_,?_,?_⟩
  .rw[SW h0 ‹k<_›,<-hm]
  .simp only[cV,gI];omega
  exact fun j a b=>if e:j=k then e▸nf ‹(!qL _)=false›else hg j a J
 refine aY (id:=0) rfl<|ah<|SR<|va (v:=I 0) rfl<|aa<|aC<|bj (G:=Int×(List Tx)×Value) (fun⟨j,m2,v3⟩ s' w'=>(Fr (2::3::(5::6::(rg 42 38 []))) _ s')/\(Hp w w' (.row v3 9 1 (m2.length) (HS m2)::_))/\(s' 3=v3)/\(s' 5=I j)/\(0<=j)/\(j<=s.vars.length)/\(m2=m++(s.vars.take j.toNat).map nn.name)/\((m2.length:Int)=k+j)/\(∀i:Int,0<=i->i<j->((s.vars.getD i.toNat eY).kind=1\/(s.vars.getD i.toNat eY).kind=2)/\0<=(s.vars.getD i.toNat eY).aS/\(s.vars.getD i.toNat eY).aS<s.an.length)) (fun⟨j,m2,v3⟩=>(s.vars.length-j).toNat) ((0,m,(v3:Value))) ⟨Fr.refl _ _,iv,XK,rfl,J,J,(lU m).symm,J,fun j a b=>absurd b J⟩<| ?_
 rintro⟨j,m2,v3⟩ aCn w23 ⟨acm,eU,ahM,ZZ,j0,hj,Lz,aKD,hv⟩
 have O3:=acm.t1 1 XJ
 refine ah<|SR<|aG ZZ<|V (fA gB 1 O qX O3)<|V (cB (hs.vars.sl.hp eU) kW O O (eU.cell (i:=1) O O))<|V (aD (hs.vars.sl.hp eU) O kW O)<|V (aL O O)<|aa<|aF O (fun Hl=> ?_) (fun Hl=> ?_)
 .refine ak<|ah<|aC<|SR<|V (fA gB 1 O qX O3)<|V (cB (hs.vars.sl.hp eU) kW O O (eU.cell (i:=1) O O))<|aG ZZ<|V (ag (hs.vars.sl.hp eU) kW DE O O J)<|V (fg (dv:=eY) uu (hs.vars.sl.hp eU) nX O O O J)<|ou eU (aZ Tryz.zeroValue63)<|fun b28 Uj dw=>bk dw (i:=0) O (dX (c':=(Io _).toArray) O O O V7 (dw.blk (i:=0) O) O)<|fun w29 iN=>aa<|ah<|SR<|V (fA nX 1 O bp O)<|lI bt iN 0 O O rfl<|V (kQ O O)<|mB rfl<|bI 57 O (fun Hu=> ?_) (fun Hu=> ?_)
  .refine V (fA nX 1 O bp O)<|lI bt iN 0 O O rfl<|V (kQ O O)<|mB rfl<|mB rfl<|bI 62 O (fun h34=> ?_) (fun h34=> ?_)
   .refine aG (v:=B true) rfl<|mB rfl<|cD O rfl<|aG (v:=B true) rfl<|aa<|cr rfl<|SR<|va (v:=B false) rfl<|aa<|aj<|oB O ?_ iN
    exact(xn j0 ‹j<_› J0).symm
   refine V (fA nX 2 O bp O)<|lI bt iN 0 O O rfl<|V (aL O O)<|mB rfl<|mB rfl<|bI 67 O (fun h36=> ?_) (fun h36=> ?_)
   .refine aG (v:=B true) rfl<|aa<|cr rfl<|SR<|va (v:=B false) rfl<|aa<|aj<|oB O ?_ iN
    exact(xn j0 ‹j<_› J0).symm
   refine V (fA nX 2 O bp O)<|lI bt iN 0 O O rfl<|V (fA gB 0 O qW O3)<|V (cB (hs.an.sl.hp iN) kK O O (iN.cell (i:=2) O O))<|V (aD (hs.an.sl.hp iN) O kK O)<|V (di O O)<|mB rfl<|aa<|aF O (fun h38=> ?_) (fun h38=> ?_)
   .refine SR<|va (v:=B false) rfl<|aa<|aj<|oB O ?_ iN
    exact(xn j0 ‹j<_› J0).symm
   refine ak<|au<|aG ahM<|V (fA nX 0 O jK O)<|V (az gK O O (iN.cell (i:=0) O (v:= .string _) O))<|vP 1 1 iN (bZ dM O O (sz:=1) (vs:=[.string _]) O O ay ay O O)<|fun b41 w39 nM=> ?_
   (try simp only[ot]at nM)
   refine jm O nM (i:=2) O (nM.dQ (i:=0) (n:=1) (sz:=1) O O ay) O O dM O O (size:=1) (bytes:=16) O O O ay jY J jv<|fun v42 w43 wT=> ?_
   refine V (run_assign bC) ?_
   refine aa<|au<|aG ZZ<|V (ax O O J)<|aI rfl<|aa<| ?_
   refine⟨(j+1,m2++[(s.vars.getD j.toNat eY).name],v42),aW,acm.u4.u4.u4.u4.u4.u4.u4.u4.u4.u4.u1,(Hp.conv (wT.sub (sQ (sQ sR))) aA),rfl,(aJ I aM),J,J,?_,?_,?_⟩
   .rw[HU j0 ‹j<_›,Lz,dg]
   .simp only[cV,gI];omega
   exact fun i a b=>if e:i=j then e▸(by omega)else hv i a J
  refine aG (v:=B false) rfl<|mB rfl<|cD O rfl<|V (fA nX 2 O bp O)<|lI bt iN 0 O O rfl<|V (aL O O)<|mB rfl<|mB rfl<|bI 67 O (fun h46=> ?_) (fun h46=> ?_)
  .refine aG (v:=B true) rfl<|aa<|cr rfl<|SR<|va (v:=B false) rfl<|aa<|aj<|oB O ?_ iN
   exact(xn j0 ‹j<_› J0).symm
  refine V (fA nX 2 O bp O)<|lI bt iN 0 O O rfl<|V (fA gB 0 O qW O3)<|V (cB (hs.an.sl.hp iN) kK O O (iN.cell (i:=2) O O))<|V (aD (hs.an.sl.hp iN) O kK O)<|V (di O O)<|mB rfl<|aa<|aF O (fun h48=> ?_) (fun h48=> ?_)
  .refine SR<|va (v:=B false) rfl<|aa<|aj<|oB O ?_ iN
   exact(xn j0 ‹j<_› J0).symm
  refine ak<|au<|aG ahM<|V (fA nX 0 O jK O)<|V (az gK O O (iN.cell (i:=0) O (v:= .string _) O))<|vP 1 1 iN (bZ dM O O (sz:=1) (vs:=[.string _]) O O ay ay O O)<|fun b51 w49 ey=> ?_
  (try simp only[ot]at ey)
  refine jm O ey (i:=2) O (ey.dQ (i:=0) (n:=1) (sz:=1) O O ay) O O dM O O (size:=1) (bytes:=16) O O O ay jY J jv<|fun v52 w53 gk=> ?_
  refine V (run_assign bC) ?_
  refine aa<|au<|aG ZZ<|V (ax O O J)<|aI rfl<|aa<| ?_
  refine⟨(j+1,m2++[(s.vars.getD j.toNat eY).name],v52),aW,acm.u4.u4.u4.u4.u4.u4.u4.u4.u4.u4.u1,(Hp.conv (gk.sub (sQ (sQ sR))) aA),rfl,(aJ I aM),J,J,?_,?_,?_⟩
  .rw[HU j0 ‹j<_›,Lz,dg]
  .simp only[cV,gI];omega
  exact fun i a b=>if e:i=j then e▸(by omega)else hv i a J
 refine aY (id:=2) rfl<|ah<|SR<|va (v:=I 0) rfl<|aa<|aC<|have hnm:m2=n9 s:=(by rw[Lz,hm,iD J,iD J];rfl);bj (G:=Int) (fun i s' w'=>(Fr (2::(7::(rg 80 12 []))) _ s')/\(Hp w w' _)/\(s' 7=I i)/\(0<=i)/\(i<=m2.length)/\(∀x:Int,0<=x->x<i->gY (m2.getD x.toNat o4)=true)) (fun i=>(m2.length-i).toNat) (0) ⟨Fr.refl _ _,eU,rfl,J,J,fun j a b=>absurd b J⟩<| ?_
 rintro i avL w55 ⟨MB,iB,Ur,i0,i1,hn⟩
 have MC:=MB.t1 3 ahM
 refine ah<|SR<|aG Ur<|aG MC<|V (aD (iB.sl (i:=0) O) O dM O)<|V (aL O O)<|aa<|aF O (fun Nz=> ?_) (fun Nz=> ?_)
 .refine ak<|ah<|aC<|SR<|aG MC<|aG Ur<|V (ag (iB.sl (i:=0) O) dM jK O O J)<|V (az gK O O ((iB.sl (i:=0) O).cell _ _ (Bc J)))<|aE O iB (gU _ _) (aq call74 O)<|fun w58 Ao=>V (bK O)<|aa<|bQ O (fun h62=> ?_) (fun h62=> ?_)
  .refine SR<|va (v:=B false) rfl<|aa<|aj<|oB O ?_ Ao
   exact(WM i0 (by rw[hnm]at*;omega) (by rw[<-hnm];exact nt ‹(!gY _)=true›)).symm
  refine ak<|au<|aG Ur<|V (ax O O J)<|aI rfl<|aa<| ?_
  refine⟨i+1,aW,MB.u4.u4.u4.u1,Ao,(aJ I aM),J,J,?_⟩
  exact fun x a b=>if e:x=i then e▸nf ‹(!gY _)=false›else hn x a J
 refine aY (id:=4) rfl<|SR<|aG MC<|aE O iB (jt _ _ _ (iB.sl (i:=0) O)) (aq call75 O)<|fun w63 BN=>V (aL O O)<|aB rfl<|aa<|aj<|oB O ?_ BN
 (rw[hnm]at*;exact(abd hk hj hsz ‹¬k<_› hg ‹¬j<_› hv ‹¬i<_› hn).symm)
theorem Fy(v:Value)(l:List dI)(w:World)(hs:Sl w v 10 l.length (l.flatMap jW)):Calls Tryz.prog 103 #[v] w (Pure (B (fP l)) w):=by
 have hm:=hs.small
 unfold maxLen at hm
 refine eH func103 rfl rfl fun hH=>SR<|va (v:=B false) rfl<|aa<|SR<|va (v:=I 0) rfl<|aa<|ah<|SR<| ?_
 refine V (run_move bC) ?_
 refine V (aD (hs.hp hH) O ir O)<|aG (v:=I 0) rfl<|aa<|aC<|bj (G:=Int×Int) (fun⟨k,d⟩ s' w'=>(Fr (2::3::(5::(rg 8 29 []))) _ s')/\(Hp w w' _)/\(s' 3=I d)/\(s' 8=I k)/\(0<=k)/\(k<=l.length)/\(iV l k=some d)) (fun⟨k,d⟩=>(l.length-k).toNat) ((0,0)) ⟨Fr.refl _ _,hH,rfl,rfl,J,J,Cm l⟩<| ?_
 rintro⟨k,d⟩ sg1 w1 ⟨tg,iA,rI,Nn,h0,hk,hd⟩
 obtain⟨No,T6⟩:=tg.w2 6 7
 have hdb:=Qr h0 hk hd
 refine SR<|V (aL Nn T6)<|aa<|ah<|aF O (fun h3=> ?_) (fun h3=> ?_)
 .refine ak<|ah<|aC<|SR<|V (ag (hs.hp iA) ir oW No Nn J)<|V (fg (dv:=cg) gE (hs.hp iA) eG O O O J)<|ou iA (aZ BC)<|fun b6 w4 bP=>bk bP (i:=0) O (dX (c':=(jW _).toArray) O O O (xo _) (bP.blk (i:=0) O) O)<|fun w7 eX=>aa<|SR<|V (fA eG 0 O bp O)<|lI bt eX 0 O O rfl<|aa<|aC<|ah<|SR<|V (bO O O)<|aB rfl<|aa<|aF O (fun h10=> ?_) (fun h10=> ?_)
  .refine ak<|cr (bT h10)<|au<|aG rI<|V (ax O O J)<|aI rfl<|aa<|au<|V (ax Nn O J)<|mI rfl<|aa<| ?_
   refine⟨(k+1,d+1),aW,tg.u4.u4.u4.u1,(eX.sub (sQ sR)),(aJ I aM),(aJ I aM),J,J,?_⟩
   rw[jz h0 ‹k<_›,hd];exact yB (.inl aQ)
  refine au<|V (bO O O)<|aB rfl<|aa<|aF O (fun h12=> ?_) (fun h12=> ?_)
  .refine au<|aG rI<|V (ax O O J)<|aI rfl<|aa<|au<|V (ax Nn O J)<|mI rfl<|aa<| ?_
   refine⟨(k+1,d+1),aW,tg.u4.u4.u4.u1.u1.u1,(eX.sub (sQ sR)),(aJ I aM),(aJ I aM),J,J,?_⟩
   rw[jz h0 ‹k<_›,hd];exact yB (.inr aQ)
  refine ah<|SR<|V (bO O O)<|aB rfl<|aa<|aF O (fun Jn=> ?_) (fun Jn=> ?_)
  .refine ak<|cr (bT Jn)<|ah<|SR<|V (fA eG 1 O bp O)<|lI bt eX 0 O O rfl<|V (aL O O)<|mB rfl<|bI 25 O (fun xF=> ?_) (fun xF=> ?_)
   .refine aG (v:=B true) rfl<|aa<|cr rfl<|SR<|va (v:=B false) rfl<|aa<|aj<|oB O ?_ eX
    exact(CZ h0 ‹k<_› hd (yC J J)).symm
   refine V (fA eG 1 O bp O)<|lI bt eX 0 O O rfl<|aG rI<|V (dx O O)<|mB rfl<|aa<|aF O (fun pL=> ?_) (fun pL=> ?_)
   .refine SR<|va (v:=B false) rfl<|aa<|aj<|oB O ?_ eX
    exact(CZ h0 ‹k<_› hd (yC J J)).symm
   refine ak<|au<|aG rI<|V (fA eG 1 O bp O)<|lI bt eX 0 O O rfl<|V (fK O O J)<|V (fK O O J)<|aI rfl<|aa<|au<|V (ax Nn O J)<|mI rfl<|aa<| ?_
   refine⟨(k+1,d-(l.getD k.toNat cg).n+1),aW,tg.u4.u4.u4.u4.u4.u4.u4.u1,(eX.sub (sQ sR)),(aJ I J),(aJ I aM),J,J,?_⟩
   rw[jz h0 ‹k<_›,hd];exact Ld J J J
  refine au<|V (bO O O)<|aB rfl<|aa<|aF O (fun Jm=> ?_) (fun Jm=> ?_)
  .refine ah<|SR<|V (fA eG 1 O bp O)<|lI bt eX 0 O O rfl<|V (aL O O)<|mB rfl<|bI 25 O (fun h22=> ?_) (fun h22=> ?_)
   .refine aG (v:=B true) rfl<|aa<|cr rfl<|SR<|va (v:=B false) rfl<|aa<|aj<|oB O ?_ eX
    exact(CZ h0 ‹k<_› hd (yC J J)).symm
   refine V (fA eG 1 O bp O)<|lI bt eX 0 O O rfl<|aG rI<|V (dx O O)<|mB rfl<|aa<|aF O (fun zL=> ?_) (fun zL=> ?_)
   .refine SR<|va (v:=B false) rfl<|aa<|aj<|oB O ?_ eX
    exact(CZ h0 ‹k<_› hd (yC J J)).symm
   refine ak<|au<|aG rI<|V (fA eG 1 O bp O)<|lI bt eX 0 O O rfl<|V (fK O O J)<|V (fK O O J)<|aI rfl<|aa<|au<|V (ax Nn O J)<|mI rfl<|aa<| ?_
   refine⟨(k+1,d-(l.getD k.toNat cg).n+1),aW,tg.u4.u4.u4.u4.u4.u4.u4.u1.u1.u1,(eX.sub (sQ sR)),(aJ I J),(aJ I aM),J,J,?_⟩
   rw[jz h0 ‹k<_›,hd];exact Ld J J J
  refine SR<|va (v:=B false) rfl<|aa<|aj<|oB O ?_ eX
  exact(CZ h0 ‹k<_› hd (Qs J J)).symm
 refine aY (id:=0) rfl<|SR<|aG rI<|V (bO O O)<|aB rfl<|aa<|aj<|oB O ?_ iA
 exact(WO hk ‹¬k<_› hd).symm
theorem zl(v:Value)(l:List dI)(w:World)(hs:Sl w v 10 l.length (l.flatMap jW)):Calls Tryz.prog 78 #[v] w (Pure (B (fP l)) w):=by
 have hm:=hs.small
 unfold maxLen at hm
 refine eH func78 rfl rfl fun hH=>SR<|va (v:=B false) rfl<|aa<|SR<|va (v:=I 0) rfl<|aa<|ah<|SR<|va (v:=I 0) rfl<|aa<|aC<|bj (G:=Int×Int) (fun⟨k,d⟩ s' w'=>(Fr (rg 2 45 []) _ s')/\(Hp w w' _)/\(s' 3=I d)/\(s' 4=I k)/\(0<=k)/\(k<=l.length)/\(iV l k=some d)) (fun⟨k,d⟩=>(l.length-k).toNat) ((0,0)) ⟨Fr.refl _ _,hH,rfl,rfl,J,J,Cm l⟩<| ?_
 rintro⟨k,d⟩ sg1 w1 ⟨tg,iA,rI,yU,h0,hk,hd⟩
 have lD:=tg.w1 0
 have hdb:=Qr h0 hk hd
 refine ah<|SR<|aG yU<|aG lD<|V (aD (hs.hp iA) O ir O)<|V (aL O O)<|aa<|aF O (fun h3=> ?_) (fun h3=> ?_)
 .refine ak<|ah<|aC<|SR<|aG lD<|aG yU<|V (ag (hs.hp iA) ir oW O O J)<|V (fA eG 0 O bp O)<|V (gf (dv:=cg) (off:=0) gE (hs.hp iA) bt O O J O)<|aa<|aC<|ah<|SR<|V (bO O O)<|aB rfl<|aa<|aF O (fun h5=> ?_) (fun h5=> ?_)
  .refine ak<|cr (bT h5)<|au<|aG rI<|V (ax O O J)<|aI rfl<|aa<|au<|aG yU<|V (ax O O J)<|aI rfl<|aa<| ?_
   refine⟨(k+1,d+1),aW,tg.u4.u4.u4.u4.u1,iA,(aJ I aM),(aJ I aM),J,J,?_⟩
   rw[jz h0 ‹k<_›,hd];exact yB (.inl aQ)
  refine au<|V (bO O O)<|aB rfl<|aa<|aF O (fun h7=> ?_) (fun h7=> ?_)
  .refine au<|aG rI<|V (ax O O J)<|aI rfl<|aa<|au<|aG yU<|V (ax O O J)<|aI rfl<|aa<| ?_
   refine⟨(k+1,d+1),aW,tg.u4.u4.u4.u4.u1.u1.u1,iA,(aJ I aM),(aJ I aM),J,J,?_⟩
   rw[jz h0 ‹k<_›,hd];exact yB (.inr aQ)
  refine ah<|SR<|V (bO O O)<|aB rfl<|aa<|aF O (fun h9=> ?_) (fun h9=> ?_)
  .refine ak<|cr (bT h9)<|ah<|SR<|aG lD<|aG yU<|V (ag (hs.hp iA) ir oW O O J)<|V (fA eG 1 O bp O)<|V (gf (dv:=cg) (off:=1) gE (hs.hp iA) bt O O J O)<|V (aL O O)<|mB rfl<|bI 30 O (fun h11=> ?_) (fun h11=> ?_)
   .refine aG (v:=B true) rfl<|aa<|cr rfl<|SR<|va (v:=B false) rfl<|aa<|aj<|oB O ?_ iA
    exact(CZ h0 ‹k<_› hd (yC J J)).symm
   refine aG lD<|aG yU<|V (ag (hs.hp iA) ir oW O O J)<|V (fA eG 1 O bp O)<|V (gf (dv:=cg) (off:=1) gE (hs.hp iA) bt O O J O)<|aG rI<|V (dx O O)<|mB rfl<|aa<|aF O (fun Ua=> ?_) (fun Ua=> ?_)
   .refine SR<|va (v:=B false) rfl<|aa<|aj<|oB O ?_ iA
    exact(CZ h0 ‹k<_› hd (yC J J)).symm
   refine ak<|au<|aG rI<|aG lD<|aG yU<|V (ag (hs.hp iA) ir oW O O J)<|V (fA eG 1 O bp O)<|V (gf (dv:=cg) (off:=1) gE (hs.hp iA) bt O O J O)<|V (fK O O J)<|V (ax O O J)<|aI rfl<|aa<|au<|aG yU<|V (ax O O J)<|aI rfl<|aa<| ?_
   refine⟨(k+1,d-(l.getD k.toNat cg).n+1),aW,tg.u4.u4.u4.u4.u4.u4.u4.u4.u4.u4.u1.u1,iA,(aJ I aM),(aJ I aM),J,J,?_⟩
   rw[jz h0 ‹k<_›,hd];exact Ld J J J
  refine au<|V (bO O O)<|aB rfl<|aa<|aF O (fun Mj=> ?_) (fun Mj=> ?_)
  .refine ah<|SR<|aG lD<|aG yU<|V (ag (hs.hp iA) ir oW O O J)<|V (fA eG 1 O bp O)<|V (gf (dv:=cg) (off:=1) gE (hs.hp iA) bt O O J O)<|V (aL O O)<|mB rfl<|bI 30 O (fun Q9=> ?_) (fun Q9=> ?_)
   .refine aG (v:=B true) rfl<|aa<|cr rfl<|SR<|va (v:=B false) rfl<|aa<|aj<|oB O ?_ iA
    exact(CZ h0 ‹k<_› hd (yC J J)).symm
   refine aG lD<|aG yU<|V (ag (hs.hp iA) ir oW O O J)<|V (fA eG 1 O bp O)<|V (gf (dv:=cg) (off:=1) gE (hs.hp iA) bt O O J O)<|aG rI<|V (dx O O)<|mB rfl<|aa<|aF O (fun Mf=> ?_) (fun Mf=> ?_)
   .refine SR<|va (v:=B false) rfl<|aa<|aj<|oB O ?_ iA
    exact(CZ h0 ‹k<_› hd (yC J J)).symm
   refine ak<|au<|aG rI<|aG lD<|aG yU<|V (ag (hs.hp iA) ir oW O O J)<|V (fA eG 1 O bp O)<|V (gf (dv:=cg) (off:=1) gE (hs.hp iA) bt O O J O)<|V (fK O O J)<|V (ax O O J)<|aI rfl<|aa<|au<|aG yU<|V (ax O O J)<|aI rfl<|aa<| ?_
   refine⟨(k+1,d-(l.getD k.toNat cg).n+1),aW,tg.u4.u4.u4.u4.u4.u4.u4.u4.u4.u4.u4,iA,(aJ I aM),(aJ I aM),J,J,?_⟩
   rw[jz h0 ‹k<_›,hd];exact Ld J J J
  refine SR<|va (v:=B false) rfl<|aa<|aj<|oB O ?_ iA
  exact(CZ h0 ‹k<_› hd (Qs J J)).symm
 refine aY (id:=0) rfl<|SR<|aG rI<|V (bO O O)<|aB rfl<|aa<|aj<|oB O ?_ iA
 exact(WO hk ‹¬k<_› hd).symm
theorem jV(s:kx)(v kd aS:Int)(w:World)(hs:xm (Kw w) s):Calls Tryz.prog 76 #[.agg (GM s),I v,I kd,I aS] w (Pure (B (oZ s v kd aS)) w):=by
 have Ht:=hs.an.sl.small
 have Lz:=hs.vars.sl.small
 unfold maxLen at Ht Lz
 refine eH func76 rfl rfl fun hH=>SR<|gX hH (v:= .agg _) rfl<|fun b3 w1 a7=>va (v:=B false) rfl<|aa<|SR<|mI rfl<|V (di O O)<|mB rfl<|bI 11 O (fun h5=> ?_) (fun h5=> ?_)
 .refine mI rfl<|V (fA gB 1 O qX O)<|V (cB (hs.vars.sl.hp a7) kW O O (a7.cell (i:=0) O O))<|V (aD (hs.vars.sl.hp a7) O kW O)<|V (aL O O)<|mB rfl<|mB rfl<|bI 18 O (fun h7=> ?_) (fun h7=> ?_)
  .refine V (fA gB 1 O qX O)<|V (cB (hs.vars.sl.hp a7) kW O O (a7.cell (i:=0) O O))<|mI rfl<|V (ag (hs.vars.sl.hp a7) kW DE O O J)<|V (fA nX 1 O bp O)<|V (gf (dv:=eY) (off:=1) uu (hs.vars.sl.hp a7) bt O O J O)<|mI rfl<|V (bO O O)<|mB rfl<|mB rfl<|bI 28 O (fun h9=> ?_) (fun h9=> ?_)
   .refine V (fA gB 1 O qX O)<|V (cB (hs.vars.sl.hp a7) kW O O (a7.cell (i:=0) O O))<|mI rfl<|V (ag (hs.vars.sl.hp a7) kW DE O O J)<|V (fA nX 2 O bp O)<|V (gf (dv:=eY) (off:=2) uu (hs.vars.sl.hp a7) bt O O J O)<|mI rfl<|V (bO O O)<|mB rfl<|aB rfl<|aa<|aj<|oB O ?_ a7
    (rw[afg ⟨J,J⟩ ‹(List.getD s.vars _ _).kind=kd›];done)
   refine aG (v:=B false) rfl<|aB rfl<|aa<|aj<|oB O ?_ a7
   (rw[aff ‹¬(List.getD s.vars _ _).kind=kd›];done)
  refine aG (v:=B false) rfl<|mB rfl<|cD O rfl<|aG (v:=B false) rfl<|aB rfl<|aa<|aj<|oB O ?_ a7
  (rw[S0 J];done)
 refine aG (v:=B false) rfl<|mB rfl<|cD O rfl<|aG (v:=B false) rfl<|mB rfl<|cD O rfl<|aG (v:=B false) rfl<|aB rfl<|aa<|aj<|oB O ?_ a7
 (rw[S0 J];done)
theorem lz(s:kx)(aS:Int)(t:gZ)(aCq:0<=aS/\aS<s.an.length)(w:World)(hs:xm (Kw w) s):Calls Tryz.prog 79 #[.agg (GM s),I aS,.agg (iS t).toArray] w (Pure (B (j3 s aS t)) w):=by
 have Ht:=hs.an.sl.small
 have Lz:=hs.vars.sl.small
 unfold maxLen at Ht Lz
 refine eH func79 rfl rfl fun hH=>SR<|gX hH (v:= .agg _) rfl<|fun b3 w1 a7=>gX a7 (v:= .agg _) rfl<|fun b6 w4 bP=>va (v:=B false) rfl<|aa<|ah<|SR<|V (fA mL 0 O bp O)<|lI bt bP 0 O O rfl<|V (aL O O)<|aa<|aF O (fun h8=> ?_) (fun h8=> ?_)
 .refine ah<|eu aN bP<|fun w9 bS=>have za:=bS;AQ 0 O za (fA gB 0 O qW O)<|AT 1 O za (fun w hS=>cB (hs.an.sl.hp hS) kK O O (hS.cell (i:=1) O O))<|AQ 2 O za (mV (I _) O)<|AT 3 O za (fun w hS=>ag (hs.an.sl.hp hS) kK DD O O J)<|AQ 4 O za (fA wo 1 O AR O)<|AT 5 O za (fun w hS=>oy (dv:=mX) (off:=1) (cs:=zY _) r6 (hs.an.sl.hp hS) dJ O O O J (Jb _))<|AQ 6 O za (fA mL 1 O gN O)<|AT 7 O za (fun w hS=>rz cA O O O (hS.blk (i:=0) O) (SX _))<|A1 8<|cC O aH O bS sR (mz _ _ _ ((hs.at J J).mono bS.kw)) (aK call80 O O)<|fun H9 cQ=>AQ 9 O cQ (aV (B _) O)<|AD<|aj<|oB O ?_ cQ
  (rw[atom_1 ‹t.var<0›];rfl)
 refine ak<|SR<|V (cG (cs:=yA _) gB O O O (bf (bP.blk (i:=1) O)))<|V (fA mL 0 O bp O)<|lI bt bP 0 O O rfl<|mI rfl<|aE O bP (jV _ _ _ _ _ (hs.mono bP.kw)) (iQ call76 O O (show _=I 1 from O) O)<|fun Na iu=>aB rfl<|aa<|aj<|oB O ?_ iu
 (rw[apA ‹¬t.var<0›];done)
theorem qu(s:kx)(aS:Int)(r:z6)(aCq:0<=aS/\aS<s.an.length)(w:World)(hs:xm (Kw w) s)(hr:WN (Kw w) r):Calls Tryz.prog 77 #[.agg (GM s),I aS,.agg (Qq r).toArray] w (Pure (B (uy s aS r)) w):=by
 have Ht:=hs.an.sl.small
 have Lz:=hs.vars.sl.small
 unfold maxLen at Ht Lz
 have hm3:=hr.fields.small
 unfold maxLen at hm3
 refine eH func77 rfl rfl fun hH=>SR<|gX hH (v:= .agg _) rfl<|fun b3 w1 a7=>gX a7 (v:= .agg _) rfl<|fun b6 w4 bP=>va (v:=B false) rfl<|aa<|SR<|va (v:= .slice none 0 0) rfl<|have eR:=bP.fl 9 1;aa<|ah<|SR<|V (fA oS 0 O tT O)<|V (cB (hr.fields.sl.hp eR) lX O O (eR.cell (i:=1) O O))<|V (aD (hr.fields.sl.hp eR) O lX O)<|V (dx O O)<|mB rfl<|bI 13 O (fun h9=> ?_) (fun h9=> ?_)
 .refine gP O O rfl<|gP O O rfl<|gP O O rfl<|gP O O rfl<|gP O O rfl<|gP O O rfl<|A7<|aG (v:=B true) rfl<|aa<|cr rfl<|SR<|va (v:=B false) rfl<|aa<|aj<|oB O ?_ eR
  exact(akc J).symm
 refine V (fA oS 1 O bp O)<|lI bt eR 1 O O rfl<|V (di O O)<|mB rfl<|bI 17 O (fun h11=> ?_) (fun h11=> ?_)
 .refine V (cG (cs:=yA _) gB O O O (bf (eR.blk (i:=2) O)))<|V (fA oS 1 O bp O)<|lI bt eR 1 O O rfl<|mI rfl<|aE O eR (jV _ _ _ _ _ (hs.mono eR.kw)) (iQ call76 O O (show _=I 2 from O) O)<|fun Cx bY=>V (bK O)<|mB rfl<|mB rfl<|aa<|bQ O (fun xF=> ?_) (fun xF=> ?_)
  .refine SR<|va (v:=B false) rfl<|aa<|aj<|oB O ?_ bY
   exact(akd J (nt ‹(!oZ s r.tail 2 aS)=true›)).symm
  refine ak<|ah<|SR<|va (v:=I 0) rfl<|aa<|aC<|have hsz:r.fields.length<=16:=J;have XX:r.tail<0\/oZ s r.tail 2 aS=true:=(by exact .inr (nf ‹(!oZ s r.tail 2 aS)=false›));bj (G:=Int×(List Tx)×Value) (fun⟨k,m,v7⟩ s' w'=>(Fr (rg 6 3 (rg 26 34 [])) _ s')/\(Hp w w' (.row v7 9 1 (m.length) (HS m)::_))/\(s' 7=v7)/\(s' 8=I k)/\(0<=k)/\(k<=r.fields.length)/\(m=(r.fields.take k.toNat).map kJ.name)/\((m.length:Int)=k)/\(∀j:Int,0<=j->j<k->qd s aS (r.fields.getD j.toNat mw)=true)) (fun⟨k,m,v7⟩=>(r.fields.length-k).toNat) ((0,[],(.slice none 0 0:Value))) ⟨Fr.refl _ _,bY,rfl,rfl,J,J,rfl,rfl,fun j a b=>absurd b J⟩<| ?_
  rintro⟨k,m,v7⟩ aB9 OY ⟨ahy,er,anP,Us,h0,hk,hm,hml,hg⟩
  obtain⟨avM,avN,Me⟩:=ahy.w3 1 3 5
  refine ah<|SR<|aG Us<|V (fA oS 0 O tT Me)<|V (cB (hr.fields.sl.hp er) lX O O (er.cell (i:=1) O O))<|V (aD (hr.fields.sl.hp er) O lX O)<|V (aL O O)<|aa<|aF O (fun Mf=> ?_) (fun Mf=> ?_)
  .refine ak<|ah<|aC<|SR<|aG anP<|V (fA oS 0 O tT Me)<|V (cB (hr.fields.sl.hp er) lX O O (er.cell (i:=1) O O))<|aG Us<|V (ag (hr.fields.sl.hp er) lX F4 O O J)<|V (fA FZ 0 O jK O)<|V (gf (dv:=mw) (off:=0) ry (hr.fields.sl.hp er) gK O O J O)<|vP 1 1 er (bZ dM O O (sz:=1) (vs:=[.string _]) O O ay ay O O)<|fun b22 w20 fD=> ?_
   (try simp only[ot]at fD)
   refine jm O fD (i:=1) O (fD.dQ (i:=0) (n:=1) (sz:=1) O O ay) O O dM O O (size:=1) (bytes:=16) O O O ay jY J jv<|fun v23 w24 mc=> ?_
   refine V (run_assign bC) ?_
   refine aa<|ah<|eu aN mc<|fun Uj dw=>have Ri:=dw;?_
   refine AQ 0 O Ri (run_move bC) ?_
   refine AQ 1 O Ri (run_move Us)<|AT 2 O Ri (fun w hS=>ag (hS.sl (i:=1) O) dM jK O O J)<|AT 3 O Ri (fun w hS=>az gK O O ((hS.sl (i:=1) O).cell _ _ (S1 hml)))<|A1 4<|cC O aH O dw sR (gU _ _) (aq call74 O)<|fun w28 gj=>have CH:=gj;AQ 5 O CH (bK O)<|AQ 6 O CH (mV (B _) O)<|Kh (dj:=48) O (fun Hu=> ?_) (fun Hu=> ?_)
   .refine AK 7 O O (bR (c:=true) Hu) gj<|AK 8 O O (bR (c:=true) Hu) gj<|AK 9 O O (bR (c:=true) Hu) gj<|AK 10 O O (bR (c:=true) Hu) gj<|AK 11 O O (bR (c:=true) Hu) gj<|AK 12 O O (bR (c:=true) Hu) gj<|AK 13 O O (bR (c:=true) Hu) gj<|AK 14 O O (bR (c:=true) Hu) gj<|AK 15 O O (bR (c:=true) Hu) gj<|AK 16 O O (bR (c:=true) Hu) gj<|AQ 17 O CH (gC (bR (c:=true) Hu) (v:=B true) O)<|AD<|cr rfl<|SR<|va (v:=B false) rfl<|aa<|aj<|oB O ?_ gj
    exact(Jd h0 ‹k<_› (Oj (nt ‹(!gY _)=true›))).symm
   refine AG 7 O O (bR (c:=false) Hu) gj (fun w hS=>cG (cs:=yA _) gB O O avN (bf (hS.blk (i:=3) O)))<|BQ 8 O O (bR (c:=false) Hu) gj (run_move avM)<|BQ 9 O O (bR (c:=false) Hu) gj (fA oS 0 O tT Me)<|AG 10 O O (bR (c:=false) Hu) gj (fun w hS=>cB (hr.fields.sl.hp hS) lX O O (hS.cell (i:=2) O O))<|BQ 11 O O (bR (c:=false) Hu) gj (run_move Us)<|AG 12 O O (bR (c:=false) Hu) gj (fun w hS=>ag (hr.fields.sl.hp hS) lX F4 O O J)<|BQ 13 O O (bR (c:=false) Hu) gj (fA FZ 1 O oX O)<|AG 14 O O (bR (c:=false) Hu) gj (fun w hS=>oy (dv:=mw) (off:=1) (cs:=iS _) ry (hr.fields.sl.hp hS) mL O O O J (Oi _))<|A1 15<|cC O (A5 O (bR (c:=false) Hu)) O gj sR (lz _ _ _ J _ (hs.mono gj.kw)) (bz call79 O O O)<|fun w33 mG=>BQ 16 O O (bR (c:=false) Hu) mG (bK O)<|AQ 17 O mG (dV (bR (c:=false) Hu) (v:=B _) O)<|AD<|bQ O (fun h37=> ?_) (fun h37=> ?_)
   .refine SR<|va (v:=B false) rfl<|aa<|aj<|oB O ?_ mG
    exact(Jd h0 ‹k<_› (Ol (nt ‹(!j3 s aS _)=true›))).symm
   refine ak<|au<|aG Us<|V (ax O O J)<|aI rfl<|aa<| ?_
   refine⟨(k+1,m++[(r.fields.getD k.toNat mw).name],v23),aW,ahy.u4.u4.u4.u4.u4.u4.u4.u4.u4,(Hp.conv (mG.sub (sQ sR)) aA),rfl,(aJ I aM),J,J,?_,?_,?_⟩
   .rw[HV h0 ‹k<_›,<-hm]
   .simp only[cV,gI];omega
   exact fun j a b=>if e:j=k then e▸Om (nf ‹(!gY _)=false›) (nf ‹(!j3 s aS _)=false›)else hg j a J
  refine aY (id:=0) rfl<|SR<|aG anP<|aE O er (jt _ _ _ (er.sl (i:=0) O)) (aq call75 O)<|fun w38 oK=>V (aL O O)<|aB rfl<|aa<|aj<|oB O ?_ oK
  (rw[Y1 hsz XX ‹¬k<_› hg,show m=Qu r by rw[hm,iD J];rfl])
 refine aG (v:=B false) rfl<|mB rfl<|aa<|dm rfl<|ak<|ah<|SR<|va (v:=I 0) rfl<|aa<|aC<|have hsz:r.fields.length<=16:=J;have XX:r.tail<0\/oZ s r.tail 2 aS=true:=(by exact .inl J);bj (G:=Int×(List Tx)×Value) (fun⟨k,m,v7⟩ s' w'=>(Fr (rg 6 3 (rg 26 34 [])) _ s')/\(Hp w w' (.row v7 9 1 (m.length) (HS m)::_))/\(s' 7=v7)/\(s' 8=I k)/\(0<=k)/\(k<=r.fields.length)/\(m=(r.fields.take k.toNat).map kJ.name)/\((m.length:Int)=k)/\(∀j:Int,0<=j->j<k->qd s aS (r.fields.getD j.toNat mw)=true)) (fun⟨k,m,v7⟩=>(r.fields.length-k).toNat) ((0,[],(.slice none 0 0:Value))) ⟨Fr.refl _ _,eR,rfl,rfl,J,J,rfl,rfl,fun j a b=>absurd b J⟩<| ?_
 rintro⟨k,m,v7⟩ aCr w41 ⟨Ut,jD,anQ,Uu,h0,hk,hm,hml,hg⟩
 obtain⟨avO,MD,Di⟩:=Ut.w3 1 3 5
 refine ah<|SR<|aG Uu<|V (fA oS 0 O tT Di)<|V (cB (hr.fields.sl.hp jD) lX O O (jD.cell (i:=1) O O))<|V (aD (hr.fields.sl.hp jD) O lX O)<|V (aL O O)<|aa<|aF O (fun h43=> ?_) (fun h43=> ?_)
 .refine ak<|ah<|aC<|SR<|aG anQ<|V (fA oS 0 O tT Di)<|V (cB (hr.fields.sl.hp jD) lX O O (jD.cell (i:=1) O O))<|aG Uu<|V (ag (hr.fields.sl.hp jD) lX F4 O O J)<|V (fA FZ 0 O jK O)<|V (gf (dv:=mw) (off:=0) ry (hr.fields.sl.hp jD) gK O O J O)<|vP 1 1 jD (bZ dM O O (sz:=1) (vs:=[.string _]) O O ay ay O O)<|fun b46 w44 qD=> ?_
  (try simp only[ot]at qD)
  refine jm O qD (i:=1) O (qD.dQ (i:=0) (n:=1) (sz:=1) O O ay) O O dM O O (size:=1) (bytes:=16) O O O ay jY J jv<|fun v47 w48 Hv=> ?_
  refine V (run_assign bC) ?_
  refine aa<|ah<|eu aN Hv<|fun w50 u7=>have Ap:=u7;?_
  refine AQ 0 O Ap (run_move bC) ?_
  refine AQ 1 O Ap (run_move Uu)<|AT 2 O Ap (fun w hS=>ag (hS.sl (i:=1) O) dM jK O O J)<|AT 3 O Ap (fun w hS=>az gK O O ((hS.sl (i:=1) O).cell _ _ (S1 hml)))<|A1 4<|cC O aH O u7 sR (gU _ _) (aq call74 O)<|fun w52 iZ=>have are:=iZ;AQ 5 O are (bK O)<|AQ 6 O are (mV (B _) O)<|Kh (dj:=48) O (fun IF=> ?_) (fun IF=> ?_)
  .refine AK 7 O O (bR (c:=true) IF) iZ<|AK 8 O O (bR (c:=true) IF) iZ<|AK 9 O O (bR (c:=true) IF) iZ<|AK 10 O O (bR (c:=true) IF) iZ<|AK 11 O O (bR (c:=true) IF) iZ<|AK 12 O O (bR (c:=true) IF) iZ<|AK 13 O O (bR (c:=true) IF) iZ<|AK 14 O O (bR (c:=true) IF) iZ<|AK 15 O O (bR (c:=true) IF) iZ<|AK 16 O O (bR (c:=true) IF) iZ<|AQ 17 O are (gC (bR (c:=true) IF) (v:=B true) O)<|AD<|cr rfl<|SR<|va (v:=B false) rfl<|aa<|aj<|oB O ?_ iZ
   exact(Jd h0 ‹k<_› (Oj (nt ‹(!gY _)=true›))).symm
  refine AG 7 O O (bR (c:=false) IF) iZ (fun w hS=>cG (cs:=yA _) gB O O MD (bf (hS.blk (i:=3) O)))<|BQ 8 O O (bR (c:=false) IF) iZ (run_move avO)<|BQ 9 O O (bR (c:=false) IF) iZ (fA oS 0 O tT Di)<|AG 10 O O (bR (c:=false) IF) iZ (fun w hS=>cB (hr.fields.sl.hp hS) lX O O (hS.cell (i:=2) O O))<|BQ 11 O O (bR (c:=false) IF) iZ (run_move Uu)<|AG 12 O O (bR (c:=false) IF) iZ (fun w hS=>ag (hr.fields.sl.hp hS) lX F4 O O J)<|BQ 13 O O (bR (c:=false) IF) iZ (fA FZ 1 O oX O)<|AG 14 O O (bR (c:=false) IF) iZ (fun w hS=>oy (dv:=mw) (off:=1) (cs:=iS _) ry (hr.fields.sl.hp hS) mL O O O J (Oi _))<|A1 15<|cC O (A5 O (bR (c:=false) IF)) O iZ sR (lz _ _ _ J _ (hs.mono iZ.kw)) (bz call79 O O O)<|fun w57 sW=>BQ 16 O O (bR (c:=false) IF) sW (bK O)<|AQ 17 O sW (dV (bR (c:=false) IF) (v:=B _) O)<|AD<|bQ O (fun h61=> ?_) (fun h61=> ?_)
  .refine SR<|va (v:=B false) rfl<|aa<|aj<|oB O ?_ sW
   exact(Jd h0 ‹k<_› (Ol (nt ‹(!j3 s aS _)=true›))).symm
  refine ak<|au<|aG Uu<|V (ax O O J)<|aI rfl<|aa<| ?_
  refine⟨(k+1,m++[(r.fields.getD k.toNat mw).name],v47),aW,Ut.u4.u4.u4.u4.u4.u4.u4.u4.u4,(Hp.conv (sW.sub (sQ sR)) aA),rfl,(aJ I aM),J,J,?_,?_,?_⟩
  .rw[HV h0 ‹k<_›,<-hm]
  .simp only[cV,gI];omega
  exact fun j a b=>if e:j=k then e▸Om (nf ‹(!gY _)=false›) (nf ‹(!j3 s aS _)=false›)else hg j a J
 refine aY (id:=0) rfl<|SR<|aG anQ<|aE O jD (jt _ _ _ (jD.sl (i:=0) O)) (aq call75 O)<|fun w62 pc=>V (aL O O)<|aB rfl<|aa<|aj<|oB O ?_ pc
 (rw[Y1 hsz XX ‹¬k<_› hg,show m=Qu r by rw[hm,iD J];rfl])
set_option maxHeartbeats 1000000 in
theorem zm(s:kx)(x:fU)(w:World)(hs:xm (Kw w) s)(hx:GO (Kw w) x):Calls Tryz.prog 35 #[.agg (GM s),.agg (u3 x).toArray] w (Pure (B (jQ s x)) w):=by
 have Ht:=hs.an.sl.small
 have Lz:=hs.vars.sl.small
 unfold maxLen at Ht Lz
 have hm3:=hx.code.small
 unfold maxLen at hm3
 refine eH func35 rfl rfl fun hH=>SR<|gX hH (v:= .agg _) rfl<|fun b3 w1 a7=>gX a7 (v:= .agg _) rfl<|fun b6 w4 bP=>va (v:=B false) rfl<|aa<|ah<|SR<|V (fA iF 0 O bp O)<|lI bt bP 0 O O rfl<|V (bO O O)<|aa<|aF O (fun h8=> ?_) (fun h8=> ?_)
 .refine SR<|V (cG (cs:=yA _) gB O O O (bf (bP.blk (i:=1) O)))<|V (fA iF 16 O bp O)<|lI bt bP 0 O O rfl<|V (fA iF 1 O bp O)<|lI bt bP 0 O O rfl<|aE O bP (jV _ _ _ _ _ (hs.mono bP.kw)) (iQ call76 O O (show _=I 2 from O) O)<|fun w9 bS=>mB rfl<|fW 16 O (fun h12=> ?_) (fun h12=> ?_)
  .refine V (fA iF 17 O jK O)<|V (az gK O O (bS.cell (i:=0) O (v:= .string _) O))<|aE O bS (gU _ _) (aq call74 O)<|fun C8 cw=>mB rfl<|aB rfl<|aa<|aj<|oB O ?_ cw
   (rw[afj ‹x.op=10›,‹oZ s x.var 2 x.aS=true›,po];done)
  refine aG (v:=B false) rfl<|aB rfl<|aa<|aj<|oB O ?_ bS
  (rw[afj ‹x.op=10›,‹oZ s x.var 2 x.aS=false›,pU];done)
 refine ak<|ah<|SR<|V (fA iF 1 O bp O)<|lI bt bP 0 O O rfl<|V (aL O O)<|mB rfl<|bI 24 O (fun Q9=> ?_) (fun Q9=> ?_)
 .refine aG (v:=B true) rfl<|aa<|cr rfl<|SR<|va (v:=B false) rfl<|aa<|aj<|oB O ?_ bP
  (rw[afk J J];done)
 refine V (fA iF 1 O bp O)<|lI bt bP 0 O O rfl<|V (fA gB 0 O qW O)<|V (cB (hs.an.sl.hp bP) kK O O (bP.cell (i:=1) O O))<|V (aD (hs.an.sl.hp bP) O kK O)<|V (di O O)<|mB rfl<|aa<|aF O (fun Mf=> ?_) (fun Mf=> ?_)
 .refine SR<|va (v:=B false) rfl<|aa<|aj<|oB O ?_ bP
  (rw[afk J J];done)
 refine ak<|ah<|SR<|V (fA iF 0 O bp O)<|lI bt bP 0 O O rfl<|V (bO O O)<|aa<|aF O (fun Q6=> ?_) (fun Q6=> ?_)
 .refine SR<|V (cG (cs:=yA _) gB O O O (bf (bP.blk (i:=1) O)))<|V (fA iF 1 O bp O)<|lI bt bP 0 O O rfl<|V (fA iF 12 O F6 O)<|V (ix (sub:=Qq _) oS O O O (bP.blk (i:=0) O) (apw _))<|aE O bP (qu _ _ _ J _ (hs.mono bP.kw) (hx.a.mono bP.kw)) (bz call77 O O O)<|fun Ug eU=>mB rfl<|fW 41 O (fun Hl=> ?_) (fun Hl=> ?_)
  .refine V (cG (cs:=yA _) gB O O O (bf (eU.blk (i:=1) O)))<|V (fA iF 1 O bp O)<|lI bt eU 0 O O rfl<|V (fA iF 14 O F6 O)<|V (ix (sub:=Qq _) oS O O O (eU.blk (i:=0) O) (apx _))<|aE O eU (qu _ _ _ J _ (hs.mono eU.kw) (hx.b.mono eU.kw)) (bz call77 O O O)<|fun Uj dw=>mB rfl<|aB rfl<|aa<|aj<|oB O ?_ dw
   (rw[amU ‹x.op=9› (show 0<=x.aS/\x.aS<s.an.length by omega),‹uy s x.aS x.a=true›,po];done)
  refine aG (v:=B false) rfl<|aB rfl<|aa<|aj<|oB O ?_ eU
  (rw[amU ‹x.op=9› (show 0<=x.aS/\x.aS<s.an.length by omega),‹uy s x.aS x.a=false›,pU];done)
 refine ak<|ah<|SR<|V (fA iF 0 O bp O)<|lI bt bP 0 O O rfl<|V (kQ O O)<|mB rfl<|bI 52 O (fun Ue=> ?_) (fun Ue=> ?_)
 .refine aG (v:=B true) rfl<|mB rfl<|cD O rfl<|aG (v:=B true) rfl<|aa<|cr rfl<|SR<|va (v:=B false) rfl<|aa<|aj<|oB O ?_ bP
  (rw[auk J J J];done)
 refine V (fA iF 2 O AS O)<|V (cB (hx.code.sl.hp bP) ir O O (bP.cell (i:=0) O O))<|aE O bP (zl _ _ _ (hx.code.sl.hp bP)) (aq call78 O)<|fun w31 iM=>V (bK O)<|mB rfl<|mB rfl<|fW 58 O (fun CF=> ?_) (fun CF=> ?_)
 .refine aG (v:=B true) rfl<|aa<|cr rfl<|SR<|va (v:=B false) rfl<|aa<|aj<|oB O ?_ iM
  (rw[On (show x.op=8 by omega) (show 0<=x.aS/\x.aS<s.an.length by omega),afh (nt ‹(!fP _)=true›),pU];done)
 refine V (cG (cs:=yA _) gB O O O (bf (iM.blk (i:=1) O)))<|V (fA iF 1 O bp O)<|lI bt iM 0 O O rfl<|V (fA iF 3 O oX O)<|V (ix (sub:=iS _) mL O O O (iM.blk (i:=0) O) (YW _))<|aE O iM (lz _ _ _ J _ (hs.mono iM.kw)) (bz call79 O O O)<|fun w36 xG=>V (bK O)<|mB rfl<|aa<|bQ O (fun h40=> ?_) (fun h40=> ?_)
 .refine SR<|va (v:=B false) rfl<|aa<|aj<|oB O ?_ xG
  (rw[On (show x.op=8 by omega) (show 0<=x.aS/\x.aS<s.an.length by omega),nt ‹(!j3 s x.aS x.to)=true›,Jt];done)
 refine ak<|ah<|SR<|va (v:=I 0) rfl<|aa<|aC<|bj (G:=Int) (fun k s' w'=>(Fr (rg 4 3 (rg 67 42 [])) _ s')/\(Hp w w' _)/\(s' 5=I k)/\(0<=k)/\(k<=x.code.length)/\(∀j:Int,0<=j->j<k->r7 s x.aS (x.code.getD j.toNat cg)=true)) (fun k=>(x.code.length-k).toNat) (0) ⟨Fr.refl _ _,xG,rfl,J,J,fun j a b=>absurd b J⟩<| ?_
 rintro k aCr w41 ⟨Ut,jD,Di,h0,hk,hg⟩
 obtain⟨ahN,MD⟩:=Ut.w2 2 3
 refine ah<|SR<|aG Di<|V (fA iF 2 O AS MD)<|V (cB (hx.code.sl.hp jD) ir O O (jD.cell (i:=0) O O))<|V (aD (hx.code.sl.hp jD) O ir O)<|V (aL O O)<|aa<|aF O (fun h43=> ?_) (fun h43=> ?_)
 .refine ak<|ah<|aC<|SR<|V (fA iF 2 O AS MD)<|V (cB (hx.code.sl.hp jD) ir O O (jD.cell (i:=0) O O))<|aG Di<|V (ag (hx.code.sl.hp jD) ir oW O O J)<|V (fg (dv:=cg) gE (hx.code.sl.hp jD) eG O O O J)<|ou jD (aZ BC)<|fun b46 w44 qD=>bk qD (i:=0) O (dX (c':=(jW _).toArray) O O O (xo _) (qD.blk (i:=0) O) O)<|fun w47 mH=>aa<|ah<|eu aN mH<|fun w49 ey=>have XY:=ey;AQ 0 O XY (fA eG 0 O bp O)<|tI 1 O XY bt 0 O O rfl<|AQ 2 O XY (bO O O)<|AQ 3 O XY (mV (B _) O)<|CQ (dj:=82) O (fun Uv=> ?_) (fun Uv=> ?_)
  .refine AG 4 O O (bT Uv) ey (fun w hS=>cG (cs:=yA _) gB O O ahN (bf (hS.blk (i:=2) O)))<|BQ 5 O O (bT Uv) ey (fA eG 1 O bp O)<|AG 6 O O (bT Uv) ey (fun w hS=>az bt O O (hS.cell (i:=0) O (v:=I _) O))<|BQ 7 O O (bT Uv) ey (fA iF 1 O bp MD)<|AG 8 O O (bT Uv) ey (fun w hS=>az bt O O (hS.cell (i:=1) O (v:=I _) O))<|A1 9<|cC O (A5 O (bT Uv)) O ey sR (jV _ _ _ _ _ (hs.mono ey.kw)) (iQ call76 O O (show _=I 1 from O) O)<|fun w53 gk=>BQ 10 O O (bT Uv) gk (bK O)<|have alP:=gk;AQ 11 O alP (gC (bT Uv) (v:=B _) O)<|AQ 12 O alP (mV (B _) O)<|Kh (dj:=91) O (fun Nz=> ?_) (fun Nz=> ?_)
   .refine AK 13 O O (bR (c:=true) Nz) gk<|AK 14 O O (bR (c:=true) Nz) gk<|AK 15 O O (bR (c:=true) Nz) gk<|AK 16 O O (bR (c:=true) Nz) gk<|AU 17 O O O gk<|AU 18 O O O gk<|AU 19 O O O gk<|AU 20 O O O gk<|AU 21 O O O gk<|AU 22 O O O gk<|AU 23 O O O gk<|AU 24 O O O gk<|AU 25 O O O gk<|AU 26 O O O gk<|AU 27 O O O gk<|AK 28 O O (bR (c:=true) Nz) gk<|AQ 29 O alP (gC (bR (c:=true) Nz) (v:=B true) O)<|AD<|cr rfl<|SR<|va (v:=B false) rfl<|aa<|aj<|oB O ?_ gk
    (rw[On (show x.op=8 by omega) (show 0<=x.aS/\x.aS<s.an.length by omega),Lg h0 ‹k<_› (ake ‹(List.getD x.code _ _).op=1› (nt ‹(!oZ s _ 1 x.aS)=true›)),pU];done)
   refine BQ 13 O O (bR (c:=false) Nz) gk (fA eG 0 O bp O)<|AG 14 O O (bR (c:=false) Nz) gk (fun w hS=>az bt O O (hS.cell (i:=0) O (v:=I _) O))<|BQ 15 O O (bR (c:=false) Nz) gk (bO O O)<|BQ 16 O O (bR (c:=false) Nz) gk (mV (B _) O)<|CQ (dj:=95) O (fun IG=> ?_) (fun IG=> ?_)
   .refine BQ 17 O O (bT IG) gk (fA gB 0 O qW ahN)<|AG 18 O O (bT IG) gk (fun w hS=>cB (hs.an.sl.hp hS) kK O O (hS.cell (i:=2) O O))<|BQ 19 O O (bT IG) gk (fA iF 1 O bp MD)<|AG 20 O O (bT IG) gk (fun w hS=>az bt O O (hS.cell (i:=1) O (v:=I _) O))<|AG 21 O O (bT IG) gk (fun w hS=>ag (hs.an.sl.hp hS) kK DD O O J)<|BQ 22 O O (bT IG) gk (fA wo 1 O AR O)<|AG 23 O O (bT IG) gk (fun w hS=>oy (dv:=mX) (off:=1) (cs:=zY _) r6 (hs.an.sl.hp hS) dJ O O O J (Jb _))<|BQ 24 O O (bT IG) gk (fA eG 2 O gN O)<|AG 25 O O (bT IG) gk (fun w hS=>rz cA O O O (hS.blk (i:=0) O) (ES _))<|A1 26<|cC O (A5 O (bT IG)) O gk sR (mz _ _ _ ((hs.at J J).mono gk.kw)) (aK call80 O O)<|fun w60 CI=>BQ 27 O O (bT IG) CI (bK O)<|BQ 28 O O (bR (c:=false) Nz) CI (gC (bT IG) (v:=B _) O)<|have aCv:=CI;AQ 29 O aCv (dV (bR (c:=false) Nz) (v:=B _) O)<|AD<|bQ O (fun h64=> ?_) (fun h64=> ?_)
    .refine SR<|va (v:=B false) rfl<|aa<|aj<|oB O ?_ CI
     (rw[On (show x.op=8 by omega) (show 0<=x.aS/\x.aS<s.an.length by omega),Lg h0 ‹k<_› (Y2 ‹(List.getD x.code _ _).op=2› (nt ‹(!cf _ _)=true›)),pU];done)
    refine ak<|au<|aG Di<|V (ax O O J)<|aI rfl<|aa<| ?_
    refine⟨k+1,aW,Ut.u4.u4.u4.u4.u4.u4.u4.u4.u4.u4.u4,(CI.sub (sQ sR)),(aJ I aM),J,J,?_⟩
    exact fun j a b=>if e:j=k then e▸Je ado (by exact .inr (nf ‹(!cf _ _)=false›))else hg j a J
   refine AK 17 O O (bF IG) gk<|AK 18 O O (bF IG) gk<|AK 19 O O (bF IG) gk<|AK 20 O O (bF IG) gk<|AK 21 O O (bF IG) gk<|AK 22 O O (bF IG) gk<|AK 23 O O (bF IG) gk<|AK 24 O O (bF IG) gk<|AK 25 O O (bF IG) gk<|AK 26 O O (bF IG) gk<|AK 27 O O (bF IG) gk<|BQ 28 O O (bR (c:=false) Nz) gk (dV (bF IG) (v:=B false) O)<|AQ 29 O alP (dV (bR (c:=false) Nz) (v:=B _) O)<|AD<|dm rfl<|ak<|au<|aG Di<|V (ax O O J)<|aI rfl<|aa<| ?_
   refine⟨k+1,aW,Ut.u4.u4.u4.u4.u4.u4.u4.u4.u4.u4.u4,(gk.sub (sQ sR)),(aJ I aM),J,J,?_⟩
   exact fun j a b=>if e:j=k then e▸Je ado (by exact .inl ‹¬(List.getD x.code _ _).op=2›)else hg j a J
  refine AK 4 O O (bF Uv) ey<|AK 5 O O (bF Uv) ey<|AK 6 O O (bF Uv) ey<|AK 7 O O (bF Uv) ey<|AK 8 O O (bF Uv) ey<|AK 9 O O (bF Uv) ey<|AK 10 O O (bF Uv) ey<|AQ 11 O XY (dV (bF Uv) (v:=B false) O)<|AQ 12 O XY (mV (B _) O)<|BQ 13 O O O ey (fA eG 0 O bp O)<|AG 14 O O O ey (fun w hS=>az bt O O (hS.cell (i:=0) O (v:=I _) O))<|BQ 15 O O O ey (bO O O)<|BQ 16 O O O ey (mV (B _) O)<|CQ (dj:=95) O (fun Fz=> ?_) (fun Fz=> ?_)
  .refine BQ 17 O O (bT Fz) ey (fA gB 0 O qW ahN)<|AG 18 O O (bT Fz) ey (fun w hS=>cB (hs.an.sl.hp hS) kK O O (hS.cell (i:=2) O O))<|BQ 19 O O (bT Fz) ey (fA iF 1 O bp MD)<|AG 20 O O (bT Fz) ey (fun w hS=>az bt O O (hS.cell (i:=1) O (v:=I _) O))<|AG 21 O O (bT Fz) ey (fun w hS=>ag (hs.an.sl.hp hS) kK DD O O J)<|BQ 22 O O (bT Fz) ey (fA wo 1 O AR O)<|AG 23 O O (bT Fz) ey (fun w hS=>oy (dv:=mX) (off:=1) (cs:=zY _) r6 (hs.an.sl.hp hS) dJ O O O J (Jb _))<|BQ 24 O O (bT Fz) ey (fA eG 2 O gN O)<|AG 25 O O (bT Fz) ey (fun w hS=>rz cA O O O (hS.blk (i:=0) O) (ES _))<|A1 26<|cC O (A5 O (bT Fz)) O ey sR (mz _ _ _ ((hs.at J J).mono ey.kw)) (aK call80 O O)<|fun w67 kD=>BQ 27 O O (bT Fz) kD (bK O)<|BQ 28 O O O kD (gC (bT Fz) (v:=B _) O)<|have aCw:=kD;AQ 29 O aCw (dV O (v:=B _) O)<|AD<|bQ O (fun h71=> ?_) (fun h71=> ?_)
   .refine SR<|va (v:=B false) rfl<|aa<|aj<|oB O ?_ kD
    (rw[On (show x.op=8 by omega) (show 0<=x.aS/\x.aS<s.an.length by omega),Lg h0 ‹k<_› (Y2 ‹(List.getD x.code _ _).op=2› (nt ‹(!cf _ _)=true›)),pU];done)
   refine ak<|au<|aG Di<|V (ax O O J)<|aI rfl<|aa<| ?_
   refine⟨k+1,aW,Ut.u4.u4.u4.u4.u4.u4.u4.u4.u4.u4.u4,(kD.sub (sQ sR)),(aJ I aM),J,J,?_⟩
   exact fun j a b=>if e:j=k then e▸Je ads (by exact .inr (nf ‹(!cf _ _)=false›))else hg j a J
  refine AK 17 O O (bF Fz) ey<|AK 18 O O (bF Fz) ey<|AK 19 O O (bF Fz) ey<|AK 20 O O (bF Fz) ey<|AK 21 O O (bF Fz) ey<|AK 22 O O (bF Fz) ey<|AK 23 O O (bF Fz) ey<|AK 24 O O (bF Fz) ey<|AK 25 O O (bF Fz) ey<|AK 26 O O (bF Fz) ey<|AK 27 O O (bF Fz) ey<|BQ 28 O O O ey (dV (bF Fz) (v:=B false) O)<|AQ 29 O XY (dV O (v:=B _) O)<|AD<|dm rfl<|ak<|au<|aG Di<|V (ax O O J)<|aI rfl<|aa<| ?_
  refine⟨k+1,aW,Ut.u4.u4.u4.u4.u4.u4.u4.u4.u4.u4.u4,(ey.sub (sQ sR)),(aJ I aM),J,J,?_⟩
  exact fun j a b=>if e:j=k then e▸Je ads (by exact .inl ‹¬(List.getD x.code _ _).op=2›)else hg j a J
 refine aY (id:=0) rfl<|SR<|va (v:=B true) rfl<|aa<|aj<|oB O ?_ jD
 (rw[On (show x.op=8 by omega) (show 0<=x.aS/\x.aS<s.an.length by omega),abh ‹¬k<_› hg (nf ‹(!fP _)=false›),nf ‹(!j3 s x.aS x.to)=false›];rfl)
theorem BO(s:kL)(op:Int)(v:Value)(l:List El)(hne:1<=l.length)(w:World)(hs:Sl w v 8 l.length (l.flatMap sC))(hsh:kO (Kw w) s)(hT:oq w):Calls Tryz.prog 139 #[.agg (rp s),I op,v] w (Pure (.agg (iU (qc (Lf s.sh op) l))) w):=by
 have hm:=hs.small
 unfold maxLen at hm
 refine eH func139 rfl rfl fun hH=>SR<|gX hH (v:= .agg _) rfl<|fun b3 w1 a7=>ou a7 (aZ js)<|fun b6 w4 bP=>aa<|SR<| ?_
 refine V (run_move bC) ?_
 refine V (run_move bC) ?_
 refine V (aD (hs.hp bP) O dL O)<|V (fK O O J)<|V (ag (hs.hp bP) dL gN O O J)<|V (ld (hs.hp bP) cA O O O J)<|ou bP (aZ js)<|fun b9 w7 eX=>bk eX (i:=0) O (ef O O O (eX.blk (i:=0) O))<|fun Hi dN=>aa<|ah<|SR<| ?_
 refine V (run_move bC) ?_
 refine V (aD (hs.hp dN) O dL O)<|V (fK O O J)<|aI rfl<|aa<|aC<|bj (G:=Int×El) (fun⟨k,e1⟩ s' w'=>(Fr (8::(rg 18 19 [])) _ s')/\(Hp w w' (.blk b9 (.cells (iU e1) 37 (0,0))::_))/\(s' 8=I k)/\(-1<=k)/\(k<=(l.length:Int)-2)/\(e1=qc (Lf s.sh op) (l.drop (k+1).toNat))) (fun⟨k,e1⟩=>(k+1).toNat) (((l.length:Int)-2,(l.getD ((l.length:Int)-1).toNat dh))) ⟨Fr.refl _ _,dN,rfl,J,J,(by rw[show((l.length:Int)-2+1).toNat=l.length-1 by omega,WQ (by intro h;rw[h]at hne;simp at hne)];congr 1;omega)⟩<| ?_
 rintro⟨k,e1⟩ ahA Cx ⟨o9,cQ,Mi,h0,hk,he⟩
 obtain⟨uK,Dg,Fw,anR,Uw⟩:=o9.w5 1 2 3 6 7
 refine ah<|SR<|aG Mi<|V (di O O)<|aa<|aF O (fun Jn=> ?_) (fun Jn=> ?_)
 .refine ak<|ah<|aC<|ah<|SR<|aG uK<|V (bO O O)<|aa<|aF O (fun xF=> ?_) (fun xF=> ?_)
  .refine ah<|ia aN cQ (sQ sR)<|fun OY dH=>have pN:=dH.sub (sQ sR);AT 0 O pN (fun w hS=>cG (cs:=[B _,_]) dJ O O Fw (bf (hS.blk (i:=1) O)))<|AQ 1 O pN (run_move Dg)<|AQ 2 O pN (run_move Mi)<|AT 3 O pN (fun w hS=>ag (hs.hp hS) dL gN O O J)<|AT 4 O pN (fun w hS=>ld (hs.hp hS) cA O O O J)<|A1 5<|bW O aH O dH (sQ sR) (dR cA O O Uw (dH.blk (i:=0) O))<|A1 6<|cC O aH O dH (sQ sR) (Re _ _ _ _ (hsh.mono dH.kw) (hT.hp dH)) (bz call170 O O O)<|fun Nr c8=>A1 7<|eK O aH c8 (j:=0) O (sQ sR) (ef O Uw O (c8.blk (i:=0) O))<|fun w25 j6=>AD<|aY (id:=1) rfl<|au<|aG Mi<|V (fK O O J)<|aI rfl<|aa<| ?_
   refine⟨(k-1,_),aW,o9.u4.u4.u4.u1.u1,j6,(aJ I aM),J,J,?_⟩
   (rw[show(k-1+1).toNat=k.toNat by omega,Y0 J J,<-he];exact aui ‹op=3›)
  refine ak<|ia aN cQ (sQ sR)<|fun w27 jC=>have XH:=jC.sub (sQ sR);AQ 0 O XH (run_move Dg)<|AQ 1 O XH (run_move Mi)<|AT 2 O XH (fun w hS=>ag (hs.hp hS) dL gN O O J)<|AT 3 O XH (fun w hS=>ld (hs.hp hS) cA O O O J)<|A1 4<|bW O aH O jC (sQ sR) (dR cA O O Uw (jC.blk (i:=0) O))<|A1 5<|cC O aH O jC (sQ sR) (Rf _ _ _) (aK call171 O O)<|fun w31 iM=>A1 6<|eK O aH iM (j:=0) O (sQ sR) (ef O Uw O (iM.blk (i:=0) O))<|fun w35 m6=>AD<|au<|aG Mi<|V (fK O O J)<|aI rfl<|aa<| ?_
  refine⟨(k-1,_),aW,o9.u4.u4.u4.u1,m6,(aJ I aM),J,J,?_⟩
  (rw[show(k-1+1).toNat=k.toNat by omega,Y0 J J,<-he];exact auj ‹¬op=3›)
 refine aY (id:=0) rfl<|SR<|V (dR cA O O Uw (cQ.blk (i:=0) O))<|bk cQ (i:=1) O (ef O anR O (cQ.blk (i:=1) O))<|fun w37 zn=>aa<|aj<|vC O anR zn (i:=1) O cA O mO ⟨?_,zn.below⟩
 (exact aJ Value.agg (rh (by rw[he,show(k+1).toNat=0 by omega];exact fun _ _=>rfl)))
set_option maxHeartbeats 1000000 in
theorem Ux(s:kL)(v:Value)(l:List dI)(u:Value)(vs:List El)(hl:l.length<=1000)(w:World)(hs:Sl w v 10 l.length (l.flatMap jW))(ht:Sl w u 8 vs.length (vs.flatMap sC))(hsh:kO (Kw w) s)(hT:oq w):Calls Tryz.prog 96 #[.agg (rp s),v,u] w (Pure (.tuple #[.agg (iU (fJ s.sh l vs).1),B (fJ s.sh l vs).2]) w):=by
 have hm:=hs.small
 unfold maxLen at hm
 have Lz:=ht.small
 unfold maxLen at Lz
 refine eH func96 rfl rfl fun hH=>SR<|gX hH (v:= .agg _) rfl<|fun b3 w1 a7=>ou a7 (aZ js)<|fun b6 w4 bP=>va (v:=B false) rfl<|aa<|ah<|SR<| ?_
 refine V (run_move bC) ?_
 refine aE O bP (Fy _ _ _ (hs.hp bP)) (aq call103 O)<|fun w7 eX=>V (bK O)<|aa<|bQ O (fun h11=> ?_) (fun h11=> ?_)
 .refine SR<|V (dD (vs:=[]) O (xC))<|bk eX (i:=0) O (ef O O O (eX.blk (i:=0) O))<|fun Cx bY=>va (v:=B false) rfl<|aa<|aj<|Oc O O O bY (i:=0) O cA O mO ⟨?_,bY.below⟩
  (rw[auh (nt ‹(!fP l)=true›)];rfl)
 refine ak<|SR<|va (v:= .slice none 0 0) rfl<|have cw:=eX.fl 37 8;aa<|ah<|SR<| ?_
 refine V (run_move bC) ?_
 refine V (aD (hs.hp cw) O ir O)<|aG (v:=I 0) rfl<|aa<|aC<|have hr:fP l=true:=nf ‹(!fP l)=false›;bj (G:=Int×(List El)×Value) (fun⟨k,st,v8⟩ s' w'=>(Fr (7::8::(10::11::(rg 18 53 []))) _ s')/\(Hp w w' (.row v8 37 8 (st.length) (st.flatMap sC)::_))/\(s' 8=v8)/\(s' 18=I k)/\(0<=k)/\(k<=l.length)/\(gS s.sh vs l k=some st)/\(iV l k=some (st.length:Int))) (fun⟨k,st,v8⟩=>(l.length-k).toNat) ((0,[],(.slice none 0 0:Value))) ⟨Fr.refl _ _,cw,rfl,rfl,J,J,rfl,Cm l⟩<| ?_
 rintro⟨k,st,v8⟩ aKI XD ⟨XZ,iu,O4,BP,h0,hk,hst,hdp⟩
 obtain⟨anS,avQ,O5,arh,ari⟩:=XZ.w5 2 3 6 16 17
 have hdk:=Qr h0 hk hdp
 refine SR<|V (aL BP ari)<|aa<|ah<|aF O (fun Q9=> ?_) (fun Q9=> ?_)
 .refine ak<|ah<|aC<|SR<|V (ag (hs.hp iu) ir oW arh BP J)<|V (fg (dv:=cg) gE (hs.hp iu) eG O O O J)<|ou iu (aZ BC)<|fun b20 Uc j7=>bk j7 (i:=0) O (dX (c':=(jW _).toArray) O O O (xo _) (j7.blk (i:=0) O) O)<|fun Nr c8=>aa<|SR<|V (fA eG 0 O bp O)<|lI bt c8 0 O O rfl<|aa<|aC<|SR<|V (bO O O)<|aB rfl<|aa<|aF O (fun zL=> ?_) (fun zL=> ?_)
  .refine ah<|SR<|V (fA eG 1 O bp O)<|lI bt c8 0 O O rfl<|V (aL O O)<|mB rfl<|bI 47 O (fun h26=> ?_) (fun h26=> ?_)
   .refine aG (v:=B true) rfl<|aa<|cr rfl<|SR<|V (dD (vs:=[]) O (xC))<|bk c8 (i:=2) O (ef O O5 O (c8.blk (i:=2) O))<|fun w27 jC=>va (v:=B false) rfl<|aa<|aj<|Oc O O5 O jC (i:=2) O cA O mO ⟨?_,jC.below⟩
    (rw[YY h0 ‹k<_› hst ‹(List.getD l k.toNat cg).op=1› J];rfl)
   refine V (fA eG 1 O bp O)<|lI bt c8 0 O O rfl<|aG anS<|V (aD (ht.hp c8) O dL O)<|V (di O O)<|mB rfl<|aa<|aF O (fun Ue=> ?_) (fun Ue=> ?_)
   .refine SR<|V (dD (vs:=[]) O (xC))<|bk c8 (i:=2) O (ef O O5 O (c8.blk (i:=2) O))<|fun w31 iM=>va (v:=B false) rfl<|aa<|aj<|Oc O O5 O iM (i:=2) O cA O mO ⟨?_,iM.below⟩
    (rw[YY h0 ‹k<_› hst ‹(List.getD l k.toNat cg).op=1› J];rfl)
   refine ak<|au<|aG O4<|aG anS<|V (fA eG 1 O bp O)<|lI bt c8 0 O O rfl<|V (ag (ht.hp c8) dL gN O O J)<|V (ld (ht.hp c8) cA O O O J)<|vP 1 1 c8 (ru dL O O O O)<|fun b35 w33 mG=> ?_
   (try simp only[ot]at mG)
   refine jm O mG (i:=2) O (Hp.mv fw mG (i:=0) (l:=[_]) O jL) O O dL O O (size:=8) (bytes:=64) O O O ay (YU _) (by show(st.length+1)*_<=_;omega) adt<|fun v36 w37 zn=> ?_
   refine V (run_assign bC) ?_
   refine aa<|au<|V (ax BP O J)<|mI rfl<|aa<| ?_
   refine⟨(k+1,st++[vs.getD (l.getD k.toNat cg).n.toNat dh],v36),aW,XZ.u4.u4.u4.u4.u4.u4.u4.u1,(Hp.conv (zn.sub (sQ (sQ sR))) (by simp;done)),rfl,(aJ I aM),J,J,?_,?_⟩
   .exact akb h0 ‹k<_› hst ‹(List.getD l k.toNat cg).op=1› ⟨J,J⟩
   (rw[jz h0 ‹k<_›,hdp,yB (.inl ‹(List.getD l k.toNat cg).op=1›)];simp;done)
  refine SR<|V (bO O O)<|aB rfl<|aa<|aF O (fun h40=> ?_) (fun h40=> ?_)
  .refine au<|aG O4<|V (fA eG 2 O gN O)<|V (rz cA O O O (c8.blk (i:=0) O) (ES _))<|vP 1 1 c8 (ru dL O O O O)<|fun b43 w41 xI=> ?_
   (try simp only[ot]at xI)
   refine jm O xI (i:=2) O (Hp.mv fw xI (i:=0) (l:=[_]) O jL) O O dL O O (size:=8) (bytes:=64) O O O ay (YU _) (by show(st.length+1)*_<=_;omega) adt<|fun v44 w45 rK=> ?_
   refine V (run_assign bC) ?_
   refine aa<|au<|V (ax BP O J)<|mI rfl<|aa<| ?_
   refine⟨(k+1,st++[(l.getD k.toNat cg).c],v44),aW,XZ.u4.u4.u4.u4.u1.u1,(Hp.conv (rK.sub (sQ (sQ sR))) (by simp;done)),rfl,(aJ I aM),J,J,?_,?_⟩
   .exact apy h0 ‹k<_› hst ‹(List.getD l k.toNat cg).op=2›
   (rw[jz h0 ‹k<_›,hdp,yB (.inr ‹(List.getD l k.toNat cg).op=2›)];simp;done)
  refine SR<|aG O4<|V (aD (c8.sl (i:=1) O) O dL O)<|V (fA eG 1 O bp O)<|lI bt c8 0 O O rfl<|V (fK O O (by have hq:=(tW hr h0 ‹k<_› hdp ‹¬(List.getD l k.toNat cg).op=1› ‹¬(List.getD l k.toNat cg).op=2›);omega))<|aI rfl<|aa<|have hpo:=(tW hr h0 ‹k<_› hdp ‹¬(List.getD l k.toNat cg).op=1› ‹¬(List.getD l k.toNat cg).op=2›);ia aN c8 (sP (sQ sR))<|fun w47 mH=>have Uy:=mH.sub (sP (sQ sR));AQ 0 O Uy (run_move O4)<|AQ 1 O Uy (mV (I _) O)<|AQ 2 O Uy (mV (I _) O)<|AT 4 O Uy (fun w hS=>cG (cs:=[B _,_]) dJ O O avQ (bf (hS.blk (i:=2) O)))<|AQ 5 O Uy (fA eG 0 O bp O)<|tI 6 O Uy bt 0 O O rfl<|AQ 7 O Uy (run_move O4)<|AQ 8 O Uy (mV (I _) O)<|ic 3 9 aN ?_ ?_
  .refine bW O aH O mH (sP (sQ sR)) (uz (mH.sl (i:=1) O) dL gN O O O J)<|A1 9<|bW O aH O mH (sP (sQ sR)) (fT (mH.sl (i:=1) O) dL gN O O J)<|A1 10<|cC O aH O mH (sP (sQ sR)) (BO s (l.getD k.toNat cg).op _ (st.drop ((st.length:Int)-(l.getD k.toNat cg).n).toNat) J1 _ (Sl.frE fw (mH.sl (i:=1) O) _ J) (hsh.mono mH.kw) (hT.hp mH)) (bz call139 O O O)<|fun w53 gk=>A1 11<|cN O aH O gk (sP (sQ sR)) (f:=fun b=> .slice (some ⟨b,0,none⟩) 1 1) (ru dL O O O O)<|fun b57 w55 oo=> ?_
   (try simp only[ot]at oo)
   refine A1 12<|Qv O aH O oo (j:=2) O (q:=(((st.length:Int)-(l.getD k.toNat cg).n)).toNat) J (fun _=>(sQ (sP (sQ sR)))) (Hp.mv fw oo (i:=0) (l:=[_]) O jL) O O dL O O (size:=8) (bytes:=64) O O O aA PR PO<|fun v60 w61 pO=> ?_
   refine AQ 13 O (pO.sub (sQ (sP (sQ sR)))) (run_assign bC) ?_
   refine AD<|au<|V (ax BP O J)<|mI rfl<|aa<| ?_
   refine⟨(k+1,st.take ((st.length:Int)-(l.getD k.toNat cg).n).toNat++[qc (Lf s.sh (l.getD k.toNat cg).op) (st.drop ((st.length:Int)-(l.getD k.toNat cg).n).toNat)],v60),aW,XZ.u4.u4.u4.u4.u4.u4.u4.u4,(Hp.conv (pO.sub (sQ (sQ sR))) PS),rfl,(aJ I aM),J,J,?_,?_⟩
   .exact YZ h0 ‹k<_› hst ‹¬(List.getD l k.toNat cg).op=1› ‹¬(List.getD l k.toNat cg).op=2› O PN
   (have hq:=(tW hr h0 ‹k<_› hdp ‹¬(List.getD l k.toNat cg).op=1› ‹¬(List.getD l k.toNat cg).op=2›);rw[hq.2.2,cV,eD,gI];congr 1<;>omega)
  refine bW O aH O mH (sP (sQ sR)) (fT (mH.sl (i:=1) O) dL gN O O J)<|ic 3 10 aN ?_ ?_
  .refine bW O aH O mH (sP (sQ sR)) (uz (mH.sl (i:=1) O) dL gN O O O J)<|A1 10<|cC O aH O mH (sP (sQ sR)) (BO s (l.getD k.toNat cg).op _ (st.drop ((st.length:Int)-(l.getD k.toNat cg).n).toNat) J1 _ (Sl.frE fw (mH.sl (i:=1) O) _ J) (hsh.mono mH.kw) (hT.hp mH)) (bz call139 O O O)<|fun w67 kD=>A1 11<|cN O aH O kD (sP (sQ sR)) (f:=fun b=> .slice (some ⟨b,0,none⟩) 1 1) (ru dL O O O O)<|fun b71 w69 uN=> ?_
   (try simp only[ot]at uN)
   refine A1 12<|Qv O aH O uN (j:=2) O (q:=(((st.length:Int)-(l.getD k.toNat cg).n)).toNat) J (fun _=>(sQ (sP (sQ sR)))) (Hp.mv fw uN (i:=0) (l:=[_]) O jL) O O dL O O (size:=8) (bytes:=64) O O O aA PR PO<|fun v74 w75 qF=> ?_
   refine AQ 13 O (qF.sub (sQ (sP (sQ sR)))) (run_assign bC) ?_
   refine AD<|au<|V (ax BP O J)<|mI rfl<|aa<| ?_
   refine⟨(k+1,st.take ((st.length:Int)-(l.getD k.toNat cg).n).toNat++[qc (Lf s.sh (l.getD k.toNat cg).op) (st.drop ((st.length:Int)-(l.getD k.toNat cg).n).toNat)],v74),aW,XZ.u4.u4.u4.u4.u4.u4.u4.u4,(Hp.conv (qF.sub (sQ (sQ sR))) PS),rfl,(aJ I aM),J,J,?_,?_⟩
   .exact YZ h0 ‹k<_› hst ‹¬(List.getD l k.toNat cg).op=1› ‹¬(List.getD l k.toNat cg).op=2› O PN
   (have hq:=(tW hr h0 ‹k<_› hdp ‹¬(List.getD l k.toNat cg).op=1› ‹¬(List.getD l k.toNat cg).op=2›);rw[hq.2.2,cV,eD,gI];congr 1<;>omega)
  refine cC O aH O mH (sP (sQ sR)) (BO s (l.getD k.toNat cg).op _ (st.drop ((st.length:Int)-(l.getD k.toNat cg).n).toNat) J1 _ (Sl.frE fw (mH.sl (i:=1) O) _ J) (hsh.mono mH.kw) (hT.hp mH)) (bz call139 O O O)<|fun w77 II=>ic 3 11 aN ?_ ?_
  .refine bW O aH O II (sP (sQ sR)) (uz (II.sl (i:=1) O) dL gN O O O J)<|A1 11<|cN O aH O II (sP (sQ sR)) (f:=fun b=> .slice (some ⟨b,0,none⟩) 1 1) (ru dL O O O O)<|fun b83 w81 pP=> ?_
   (try simp only[ot]at pP)
   refine A1 12<|Qv O aH O pP (j:=2) O (q:=(((st.length:Int)-(l.getD k.toNat cg).n)).toNat) J (fun _=>(sQ (sP (sQ sR)))) (Hp.mv fw pP (i:=0) (l:=[_]) O jL) O O dL O O (size:=8) (bytes:=64) O O O aA PR PO<|fun v86 w87 Ee=> ?_
   refine AQ 13 O (Ee.sub (sQ (sP (sQ sR)))) (run_assign bC) ?_
   refine AD<|au<|V (ax BP O J)<|mI rfl<|aa<| ?_
   refine⟨(k+1,st.take ((st.length:Int)-(l.getD k.toNat cg).n).toNat++[qc (Lf s.sh (l.getD k.toNat cg).op) (st.drop ((st.length:Int)-(l.getD k.toNat cg).n).toNat)],v86),aW,XZ.u4.u4.u4.u4.u4.u4.u4.u4,(Hp.conv (Ee.sub (sQ (sQ sR))) PS),rfl,(aJ I aM),J,J,?_,?_⟩
   .exact YZ h0 ‹k<_› hst ‹¬(List.getD l k.toNat cg).op=1› ‹¬(List.getD l k.toNat cg).op=2› O PN
   (have hq:=(tW hr h0 ‹k<_› hdp ‹¬(List.getD l k.toNat cg).op=1› ‹¬(List.getD l k.toNat cg).op=2›);rw[hq.2.2,cV,eD,gI];congr 1<;>omega)
  refine cN O aH O II (sP (sQ sR)) (f:=fun b=> .slice (some ⟨b,0,none⟩) 1 1) (ru dL O O O O)<|fun b91 w89 sX=> ?_
  (try simp only[ot]at sX)
  refine A1 3<|bW O aH O sX (sQ (sP (sQ sR))) (uz (sX.sl (i:=2) O) dL gN O O O J)<|A1 12<|Qv O aH O sX (j:=2) O (q:=(((st.length:Int)-(l.getD k.toNat cg).n)).toNat) J (fun _=>(sQ (sP (sQ sR)))) (Hp.mv fw sX (i:=0) (l:=[_]) O jL) O O dL O O (size:=8) (bytes:=64) O O O aA PR PO<|fun v96 w97 Rj=> ?_
  refine AQ 13 O (Rj.sub (sQ (sP (sQ sR)))) (run_assign bC) ?_
  refine AD<|au<|V (ax BP O J)<|mI rfl<|aa<| ?_
  refine⟨(k+1,st.take ((st.length:Int)-(l.getD k.toNat cg).n).toNat++[qc (Lf s.sh (l.getD k.toNat cg).op) (st.drop ((st.length:Int)-(l.getD k.toNat cg).n).toNat)],v96),aW,XZ.u4.u4.u4.u4.u4.u4.u4.u4,(Hp.conv (Rj.sub (sQ (sQ sR))) PS),rfl,(aJ I aM),J,J,?_,?_⟩
  .exact YZ h0 ‹k<_› hst ‹¬(List.getD l k.toNat cg).op=1› ‹¬(List.getD l k.toNat cg).op=2› O PN
  (have hq:=(tW hr h0 ‹k<_› hdp ‹¬(List.getD l k.toNat cg).op=1› ‹¬(List.getD l k.toNat cg).op=2›);rw[hq.2.2,cV,eD,gI];congr 1<;>omega)
 refine aY (id:=0) rfl<|SR<|aG O4<|V (ag (iu.sl (i:=0) O) dL gN O O adw)<|V (ld (iu.sl (i:=0) O) cA O O O adw)<|bk iu (i:=1) O (ef O O5 O (iu.blk (i:=1) O))<|fun w99 qN=>va (v:=B true) rfl<|aa<|aj<|Oc O O5 O qN (i:=1) O cA O mO ⟨?_,qN.below⟩
 (rw[Qt hr hk ‹¬k<_› hst];rfl)
theorem kS(b:Nat)(r:Rl)(d s:Int)(vw vj:Value)(a:BitVec 64)(w:World)(hb:w.heap[b]?=some (.cells (kN r d s vw vj).toArray 212 (0,0)))(hW:Sl w vw 1 (mZ r (pts r).toNat).length ((mZ r (pts r).toNat).map U)):Calls Tryz.prog 174 #[.pointer (some ⟨b,0,none⟩),U a] w (Pure (I (C0 r a)) w):=by
 have hp:=dr r
 have hpp:pts r=max 0 (min r.n 64):=rfl
 have X0:=yL (r:=r) (k:=(pts r).toNat)
 refine eH func174 rfl rfl fun hH=>SR<|va (v:=I 0) rfl<|aa<|ah<|SR<|aG (v:=Pn _ _) rfl<|V (af O)<|V (fA mj 68 O iO O)<|V (az cR O O (hH.dY hb C2))<|V (aD (hW.hp hH) O cR O)<|aG (v:=I 0) rfl<|aa<|aC<|bj (G:=Int) (fun k s' w'=>(Fr (rg 4 3 (rg 12 10 [])) _ s')/\(Hp w w' _)/\(s' 12=I k)/\(0<=k)/\(k<=pts r)/\(∀j:Int,0<=j->j<k->bN r j≠a)) (fun k=>(pts r-k).toNat) (0) ⟨Fr.refl _ _,hH,rfl,J,J,fun j a b=>absurd b J⟩<| ?_
 rintro k sg1 w1 ⟨tg,iA,Z0,h0,hk,hf⟩
 obtain⟨yW,avT,avU⟩:=tg.w3 1 10 11
 refine SR<|V (aL Z0 avU)<|aa<|ah<|aF O (fun h3=> ?_) (fun h3=> ?_)
 .refine ak<|ah<|aC<|SR<|aG Z0<|V (ag (hW.hp iA) cR cX avT Z0 J)<|V (az dU O O (rB (hW.hp iA) J))<|aI rfl<|aU rfl<|aa<|SR<|mU rfl<|aG yW<|V (jb O O)<|aa<|aF O (fun h5=> ?_) (fun h5=> ?_)
  .refine SR<|mI rfl<|aI rfl<|aa<|aj<|oI O ?_ iA
   exact(apM h0 J aQ hf).symm
  refine ak<|au<|V (ax Z0 O J)<|mI rfl<|aa<| ?_
  refine⟨k+1,aW,tg.u4.u4.u1.u1.u1,iA,(aJ I aM),J,J,?_⟩
  exact fun j a b=>if e:j=k then e▸‹¬bN r k=_›else hf j a J
 refine aY (id:=0) rfl<|SR<|va (v:=I (-1)) rfl<|aa<|aj<|oI O ?_ iA
 exact(auv (k:=k) J hf).symm
end
section
open Go Go.RowKit Go.Proofs.YtlhjdflgjbkpmaaGreatDoor.E Go.Proofs.YtlhjdflgjbkpmaaGreatDoor.M
set_option maxRecDepth 100000
open Go.Proofs.Tryz
variable{fr:List a8}
set_option maxHeartbeats 1000000 in
theorem Ef(W0:World)(b:Nat)(r:Rl)(L:List a8)(w:World)(hT:oq W0)(hH:Hp W0 w (.blk b (.cells (kN r 0 1 (.slice none 0 0) (.slice none 0 0)).toArray 212 (0,0))::L)):Calls Tryz.prog 173 #[.pointer (some ⟨b,0,none⟩)] w (jF fun u w'=>u= .tuple #[]/\∃(v1 v2:Value) (rs:List QE) (Z:List a8),G0 (Kz KN Z) r v1 v2 rs/\Hp W0 w' (.blk b (.cells (kN r 0 1 (v1) (v2)).toArray 212 (0,0))::(Z++L))):=by
 have hp:=dr r
 have hpp:pts r=max 0 (min r.n 64):=rfl
 have X0:=yL (r:=r) (k:=(pts r).toNat)
 refine en func173 rfl rfl<|have hN:=(hH.fl 100 1).fl 35 1;SR<|aG (v:=Pn _ _) rfl<|V (af O)<|V (fA mj 0 O jI O)<|V (fA bL 0 O bp O)<|V (az bt O O (hN.cell (i:=2) O auw))<|V (tZ O O)<|V (Ey O O)<|aI rfl<|aa<|ah<|SR<|mI rfl<|aG (v:=I 0) rfl<|aa<|aC<|bj (G:=Int×Value) (fun⟨k,v1⟩ s' w'=>(Fr (3::(rg 17 19 [])) _ s')/\(Hp W0 w' (.row v1 35 1 (mZ r (k).toNat).length ((mZ r (k).toNat).map U)::_:: .blk b (.cells (kN r 0 1 (v1) (.slice none 0 0)).toArray 212 (0,0))::_))/\(s' 17=I k)/\(0<=k)/\(k<=pts r)) (fun⟨k,v1⟩=>(pts r-k).toNat) ((0,.slice none 0 0)) ⟨Fr.refl _ _,hN,rfl,J,J⟩<| ?_
 rintro⟨k,v1⟩ sg1 w1 ⟨tg,iA,ahO,h0,hk⟩
 obtain⟨lD,ahu,avV⟩:=tg.w3 0 2 16
 have hwk:=yL (r:=r) (k:=k.toNat)
 refine SR<|V (aL ahO avV)<|aa<|ah<|aF O (fun h3=> ?_) (fun h3=> ?_)
 .refine ak<|DW (G:=(Value)) iA (3::(rg 19 16 [])) (fun(L:List a8) (v3:(Value))=>((L).set 2 (.blk b (.cells (kN r 0 1 (v3) (.slice none 0 0)).toArray 212 (0,0)))).set 0 (.row v3 35 1 (mZ r ((k+1)).toNat).length ((mZ r ((k+1)).toNat).map U))) (fun(v3:(Value)) s'=>True) ?_ ?_
  .refine aC<|SR<|aG ahO<|aI rfl<|aa<|ia aN iA (sQ (sP (sQ sR)))<|fun w4 bP=>have Nq:=bP.sub (sQ (sP (sQ sR)));AQ 0 O Nq (run_move lD)<|AQ 1 O Nq (run_move lD)<|AQ 2 O Nq (af O)<|AQ 3 O Nq (fA mj 68 O iO O)<|AQ 5 O Nq (run_move lD)<|AQ 6 O Nq (af O)<|AQ 7 O Nq (fA mj 0 O jI O)<|AQ 9 O Nq (mV (I _) O)<|ic 4 8 aN ?_ ?_
   .refine bW O aH O bP (sQ (sP (sQ sR))) (az cR O O (bP.cell (i:=2) O C2))<|A1 8<|bW O aH O bP (sQ (sP (sQ sR))) (G1 bL O O O (bP.blk (i:=2) O))<|A1 10<|cC O aH O bP (sQ (sP (sQ sR))) (nN _ _ _ (hT.hp bP)) (aK Gb O O)<|fun Hi dN=>A1 11<|cN O aH O dN (sQ (sP (sQ sR))) (f:=fun b=> .slice (some ⟨b,0,none⟩) 1 1) (bZ cR O O (sz:=1) (vs:=[U _]) O O ay ay O O)<|fun b14 Cx bY=> ?_
    (try simp only[ot]at bY)
    refine A1 12<|k8 O aH O bY (j:=1) O (fun _=>(sQ (sQ (sP (sQ sR))))) (bY.dQ (i:=0) (n:=1) (sz:=1) O O ay) O O cR O O (size:=1) (bytes:=8) O O O ay jY J jv<|fun v17 XD cF=> ?_
    simp only[z2,gF,pull]at cF
    refine AQ 13 O (cF.sub (sQ (sQ (sP (sQ sR))))) (af O)<|AQ 14 O (cF.sub (sQ (sQ (sP (sQ sR))))) (fA mj 68 O iO O)<|A1 15<|eK O aH cF (j:=3) O (sQ (sQ (sP (sQ sR)))) (bM O O (v:=v17) O (a6 (cF.get (i:=1) O)).1 (a6 (cF.get (i:=1) O)).2 (cF.blk (i:=3) O) JZ)<|fun w20 fD=> ?_
    simp only[z2,gF,pull]at fD
    rw[EY]at fD
    refine AD ?_
    refine⟨((Fr.refl _ _)).u4.u4.u4.u4.u1,v17,(Hp.conv (fD.sub (sQ sR)) PX),trivial⟩
   refine bW O aH O bP (sQ (sP (sQ sR))) (G1 bL O O O (bP.blk (i:=2) O))<|ic 4 10 aN ?_ ?_
   .refine bW O aH O bP (sQ (sP (sQ sR))) (az cR O O (bP.cell (i:=2) O C2))<|A1 10<|cC O aH O bP (sQ (sP (sQ sR))) (nN _ _ _ (hT.hp bP)) (aK Gb O O)<|fun Uj dw=>A1 11<|cN O aH O dw (sQ (sP (sQ sR))) (f:=fun b=> .slice (some ⟨b,0,none⟩) 1 1) (bZ cR O O (sz:=1) (vs:=[U _]) O O ay ay O O)<|fun b30 w28 gj=> ?_
    (try simp only[ot]at gj)
    refine A1 12<|k8 O aH O gj (j:=1) O (fun _=>(sQ (sQ (sP (sQ sR))))) (gj.dQ (i:=0) (n:=1) (sz:=1) O O ay) O O cR O O (size:=1) (bytes:=8) O O O ay jY J jv<|fun v33 w31 iM=> ?_
    simp only[z2,gF,pull]at iM
    refine AQ 13 O (iM.sub (sQ (sQ (sP (sQ sR))))) (af O)<|AQ 14 O (iM.sub (sQ (sQ (sP (sQ sR))))) (fA mj 68 O iO O)<|A1 15<|eK O aH iM (j:=3) O (sQ (sQ (sP (sQ sR)))) (bM O O (v:=v33) O (a6 (iM.get (i:=1) O)).1 (a6 (iM.get (i:=1) O)).2 (iM.blk (i:=3) O) JZ)<|fun w36 xG=> ?_
    simp only[z2,gF,pull]at xG
    rw[EY]at xG
    refine AD ?_
    refine⟨((Fr.refl _ _)).u4.u4.u4.u4.u1,v33,(Hp.conv (xG.sub (sQ sR)) PX),trivial⟩
   refine cC O aH O bP (sQ (sP (sQ sR))) (nN _ _ _ (hT.hp bP)) (aK Gb O O)<|fun w38 oK=>ic 4 11 aN ?_ ?_
   .refine bW O aH O oK (sQ (sP (sQ sR))) (az cR O O (oK.cell (i:=2) O C2))<|A1 11<|cN O aH O oK (sQ (sP (sQ sR))) (f:=fun b=> .slice (some ⟨b,0,none⟩) 1 1) (bZ cR O O (sz:=1) (vs:=[U _]) O O ay ay O O)<|fun b44 w42 me=> ?_
    (try simp only[ot]at me)
    refine A1 12<|k8 O aH O me (j:=1) O (fun _=>(sQ (sQ (sP (sQ sR))))) (me.dQ (i:=0) (n:=1) (sz:=1) O O ay) O O cR O O (size:=1) (bytes:=8) O O O ay jY J jv<|fun v47 w45 rK=> ?_
    simp only[z2,gF,pull]at rK
    refine AQ 13 O (rK.sub (sQ (sQ (sP (sQ sR))))) (af O)<|AQ 14 O (rK.sub (sQ (sQ (sP (sQ sR))))) (fA mj 68 O iO O)<|A1 15<|eK O aH rK (j:=3) O (sQ (sQ (sP (sQ sR)))) (bM O O (v:=v47) O (a6 (rK.get (i:=1) O)).1 (a6 (rK.get (i:=1) O)).2 (rK.blk (i:=3) O) JZ)<|fun w50 u7=> ?_
    simp only[z2,gF,pull]at u7
    rw[EY]at u7
    refine AD ?_
    refine⟨((Fr.refl _ _)).u4.u4.u4.u4.u1,v47,(Hp.conv (u7.sub (sQ sR)) PX),trivial⟩
   refine cN O aH O oK (sQ (sP (sQ sR))) (f:=fun b=> .slice (some ⟨b,0,none⟩) 1 1) (bZ cR O O (sz:=1) (vs:=[U _]) O O ay ay O O)<|fun b54 w52 iZ=> ?_
   (try simp only[ot]at iZ)
   refine A1 4<|bW O aH O iZ (sQ (sQ (sP (sQ sR)))) (az cR O O (iZ.cell (i:=3) O C2))<|A1 12<|k8 O aH O iZ (j:=1) O (fun _=>(sQ (sQ (sP (sQ sR))))) (iZ.dQ (i:=0) (n:=1) (sz:=1) O O ay) O O cR O O (size:=1) (bytes:=8) O O O ay jY J jv<|fun v59 w57 sW=> ?_
   simp only[z2,gF,pull]at sW
   refine AQ 13 O (sW.sub (sQ (sQ (sP (sQ sR))))) (af O)<|AQ 14 O (sW.sub (sQ (sQ (sP (sQ sR))))) (fA mj 68 O iO O)<|A1 15<|eK O aH sW (j:=3) O (sQ (sQ (sP (sQ sR)))) (bM O O (v:=v59) O (a6 (sW.get (i:=1) O)).1 (a6 (sW.get (i:=1) O)).2 (sW.blk (i:=3) O) JZ)<|fun w62 pc=> ?_
   simp only[z2,gF,pull]at pc
   rw[EY]at pc
   refine AD ?_
   refine⟨((Fr.refl _ _)).u4.u4.u4.u4.u1,v59,(Hp.conv (pc.sub (sQ sR)) PX),trivial⟩
  rintro v3 aKO w64 avX BN-
  simp only[z2,gF,pull]at BN
  have arl:=avX.t1 17 ahO
  refine au<|V (ax arl O J)<|mI rfl<|aa<| ?_
  refine⟨(k+1,v3),aW,(((tg.u O).t avX O)).u1.u1,(Hp.conv BN aM),(aJ I aM),J,J⟩
 refine aY (id:=0) rfl<|SR<|aG ahu<|aG (v:=I 0) rfl<|aa<|aC<|have HN:k.toNat=(pts r).toNat:=J;?_
 rw[HN]at iA
 refine bj (G:=Int×Value×(List QE)×(List a8)) (fun⟨i,v2,rs,Z1⟩ s' w'=>(Fr (rg 4 5 (rg 37 76 [])) _ s')/\(Hp W0 w' (_:: .row v2 100 1 rs.length (rs.map QE.v):: .blk b (.cells (kN r 0 1 (v1) (v2)).toArray 212 (0,0))::Z1))/\(s' 37=I i)/\(0<=i)/\(i<=pts r)/\(rs.map QE.l=D2 r (pts r).toNat i.toNat)/\(∃Zr,Z1=Zr++L/\∀x∈rs,n7 (Kz KN Zr) x.v 1 x.l.length (x.l.map U))/\(rs.length=i.toNat)) (fun⟨i,v2,rs,Z1⟩=>(pts r-i).toNat) ((0,.slice none 0 0,[],L)) ⟨Fr.refl _ _,iA,rfl,J,J,rfl,⟨[],rfl,fun x hx=>by cases hx⟩,rfl⟩ ?_
 rintro⟨i,v2,rs,Z1⟩ aKP w65 ⟨arm,uM,X3,i0,hi,hrs,hZ,hln⟩
 have arn:=arm.w1 36
 obtain⟨avY,anT⟩:=arm.t2 0 lD 2 ahu
 obtain⟨Zr,rfl,hE⟩:=hZ
 refine SR<|V (aL X3 arn)<|aa<|ah<|aF O (fun h67=> ?_) (fun h67=> ?_)
 .refine ak<|ah<|aC<|SR<|aG X3<|aI rfl<|aa<|SR<|aG anT<|Wg O uM (f:=fun b=>(.slice (some ⟨b,0,none⟩) (pts r).toNat (pts r).toNat)) (Oe (cl:=fun x:BitVec 64=>[U x]) (sz:=1) (z0:=0#64) (n:=(pts r).toNat) (fun _=>rfl) ay cR O O aN O (aJ I (show _=(((pts r).toNat:Nat):Int)from by omega)) (aJ I (show _=(((pts r).toNat:Nat):Int)from by omega)) (by show 8*_<=_;omega) jv)<|fun b68 w69 uN=> ?_
  rw[mk_zero (r:=r) (i:=i)]at uN
  have ahP:=uN.A9 (pts r).toNat 1 (by rw[fx,A0,kX]) jv
  refine V (run_assign bC) ?_
  refine aa<|ah<|SR<|aG anT<|aG (v:=I 0) rfl<|aa<|aC<|bj (G:=Int) (fun j s' w'=>(Fr (rg 6 3 (rg 43 59 [])) _ s')/\(Hp W0 w' (.row (.slice (some ⟨b68,0,none⟩) (pts r).toNat (pts r).toNat) 35 1 (pts r).toNat ((yM r i (pts r).toNat j.toNat).map U)::_))/\(s' 43=I j)/\(0<=j)/\(j<=pts r)) (fun j=>(pts r-j).toNat) (0) ⟨Fr.refl _ _,ahP,rfl,J,J⟩<| ?_
  rintro j aKQ w72 ⟨ahQ,X4,Rk,j0,hj⟩
  obtain⟨anU,ahR,aro⟩:=ahQ.w3 4 5 42
  obtain⟨Dj,arp⟩:=ahQ.t2 0 avY 37 X3
  refine SR<|V (aL Rk aro)<|aa<|ah<|aF O (fun h74=> ?_) (fun h74=> ?_)
  .refine ak<|ah<|aC<|SR<|aG Rk<|aI rfl<|aa<|ah<|ia aN X4 (sQ sR)<|fun w75 qF=>have pQ:=qF.sub (sQ sR);AQ 0 O pQ (run_move ahR)<|AQ 1 O pQ (mV (I _) O)<|AQ 2 O pQ (run_move Dj)<|AQ 3 O pQ (af O)<|AQ 4 O pQ (fA mj 68 O iO O)<|AT 5 O pQ (fun w hS=>az cR O O (hS.cell (i:=2) O C2))<|AQ 6 O pQ (run_move anU)<|AT 7 O pQ (fun w hS=>ag (hS.sl (i:=0) O) cR cX O O J)<|AT 8 O pQ (fun w hS=>az dU O O (rB (hS.sl (i:=0) O) J))<|AQ 9 O pQ (run_move Dj)<|AQ 10 O pQ (af O)<|AQ 11 O pQ (fA mj 68 O iO O)<|AT 12 O pQ (fun w hS=>az cR O O (hS.cell (i:=2) O C2))<|AQ 13 O pQ (mV (I _) O)<|AT 14 O pQ (fun w hS=>ag (hS.sl (i:=0) O) cR cX O O J)<|AT 15 O pQ (fun w hS=>az dU O O (rB (hS.sl (i:=0) O) J))<|AQ 16 O pQ (jj O O)<|A1 17<|bW O aH O qF (sQ sR) (ag (qF.sl (i:=0) O) cR cX O O J)<|A1 18<|apD (u:=U _) O aH qF (i:=0) O (fun _=>(sQ sR)) J O O O O O J<|fun w81 pP=> ?_
   simp only[z2,gF,pull]at pP
   rw[Bi adu,EX,kX]at pP
   refine AD<|ah<|eu aN pP<|fun w83 nP=>have qG:=nP;AQ 0 O qG (run_move Dj)<|AQ 1 O qG (af O)<|AQ 2 O qG (fA mj 0 O jI O)<|AT 3 O qG (fun w hS=>G1 bL O O O (hS.blk (i:=3) O))<|AQ 4 O qG (run_move Dj)<|AQ 5 O qG (run_move Dj)<|AQ 6 O qG (af O)<|AQ 7 O qG (fA mj 68 O iO O)<|AT 8 O qG (fun w hS=>az cR O O (hS.cell (i:=3) O C2))<|AQ 9 O qG (run_move anU)<|AT 10 O qG (fun w hS=>ag (hS.sl (i:=1) O) cR cX O O J)<|AT 11 O qG (fun w hS=>az dU O O (rB (hS.sl (i:=1) O) J))<|AQ 13 O qG (run_move Dj)<|AQ 14 O qG (run_move Dj)<|AQ 15 O qG (af O)<|AQ 16 O qG (fA mj 68 O iO O)<|AT 17 O qG (fun w hS=>az cR O O (hS.cell (i:=3) O C2))<|AQ 18 O qG (mV (I _) O)<|AT 19 O qG (fun w hS=>ag (hS.sl (i:=1) O) cR cX O O J)<|AT 20 O qG (fun w hS=>az dU O O (rB (hS.sl (i:=1) O) J))<|A1 12<|cC O aH O nP sR (kS _ _ _ _ _ _ _ _ (nP.blk (i:=3) O) (nP.sl (i:=1) O)) (aK call174 O O)<|fun w85 vb=>A1 21<|cC O aH O vb sR (kS _ _ _ _ _ _ _ _ (vb.blk (i:=3) O) (vb.sl (i:=1) O)) (aK call174 O O)<|fun w87 Ee=>A1 22<|cC O aH O Ee sR (ze _ _ _ _ (hT.hp Ee)) (bz call168 O O O)<|fun w89 sX=>have ahS:=sX;?_
   refine AQ 23 O ahS (run_move bC) ?_
   refine AQ 24 O ahS (bD O (v:=I _) O)<|AQ 25 O ahS (bD O (v:=B _) O)<|AQ 26 O ahS (aV (I _) O)<|AQ 27 O ahS (aV (B _) O)<|AD<|SR<|mB rfl<|aa<|bQ O (fun h92=> ?_) (fun h92=> ?_)
   .refine au<|aG ahR<|mI rfl<|aG Dj<|V (af O)<|V (fA mj 68 O iO O)<|V (az cR O O (sX.cell (i:=3) O C2))<|mI rfl<|V (ag (sX.sl (i:=1) O) cR cX O O adk)<|V (az dU O O (rB (sX.sl (i:=1) O) adk))<|V (ag (sX.sl (i:=0) O) cR cX O O J)<|yF (u:=U _) sX (i:=0) O J O O O O O J<|fun w93 vc=> ?_
    simp only[z2,gF,pull]at vc
    rw[Bi adu,EX,kX]at vc
    refine aa<|au<|V (ax Rk O J)<|mI rfl<|aa<| ?_
    refine⟨j+1,aW,ahQ.u4.u4.u4.u4.u4.u4.u4.u4.u4.u4.u4.u4.u4.u4.u4.u1.u1,(Hp.conv vc (by rw[abw J (abt ‹_=true›).symm];done)),(aJ I aM),J,J⟩
   refine ak<|au<|V (ax Rk O J)<|mI rfl<|aa<| ?_
   refine⟨j+1,aW,ahQ.u4.u4.u4.u4.u4.u4.u4.u4.u4.u4.u4.u4.u4,(Hp.conv sX (by rw[Th J (afL ‹_=false›).symm];done)),(aJ I aM),J,J⟩
  refine aY (id:=4) rfl<|au<|aG Dj<|aG Dj<|V (af O)<|V (fA mj 69 O sizeOf210 O)<|V (az JK O O (X4.cell (i:=3) O am0))<|aG ahR<|vP 1 1 X4 (aa9 (v:=(.slice (some ⟨b68,0,none⟩) (pts r).toNat (pts r).toNat)) O JK O O O O)<|fun b97 w95 uO=> ?_
  (try simp only[ot]at uO)
  refine jm O uO (i:=3) O (uO.dQ (i:=0) (n:=1) (sz:=1) O O ay) O O JK O O (size:=1) (bytes:=24) O O O ay jY J jv<|fun v98 w99 qN=> ?_
  simp only[z2,gF,pull]at qN
  refine V (af O)<|V (fA mj 69 O sizeOf210 O)<|bk qN (i:=4) O (bM O O (v:=v98) O (a6 (qN.get (i:=3) O)).1 (a6 (qN.get (i:=3) O)).2 (qN.blk (i:=4) O) JZ)<|fun aCH Ia=> ?_
  simp only[z2,gF,pull]at Ia
  rw[afN]at Ia
  refine aa<|au<| ?_
  rw[show j.toNat=(pts r).toNat by omega]at Ia
  obtain⟨arq,av1,av2,-⟩:=(Ia.pj [1]).UX (KN)
  have uP:Hp _ aCH (_::_::_::_::(arq++(Zr++L))):=av1.Iq (L:=[_,_,_,_]) (L':=(Zr++L))
  refine V (ax arp O J)<|mI rfl<|aa<| ?_
  refine⟨(i+1,v98,rs++[QE.mk (.slice (some ⟨b68,0,none⟩) (pts r).toNat (pts r).toNat) (yM r i (pts r).toNat (pts r).toNat)],(arq++(Zr++L))),aW,(((arm.u4.u4).t ahQ O)).u4.u4.u4.u1,(Hp.conv (uP.sub (sQ sR)) (by simp only[gp,cV,kV,AL,gI];done)),(aJ I aM),J,J,?_,?_,?_⟩
  .rw[gp,hrs,W6 i0];rfl
  .exact⟨arq++Zr,(dg _ _ _).symm,afQ hE av2⟩
  rw[cV,gI];omega
 refine aY (id:=2) O ?_
 obtain⟨alQ,av3,av4,-⟩:=uM.UX (KN)
 have O6:Hp _ w65 (_::_::(alQ++(Zr++L))):=av3.Iq (L:=[_,_]) (L':=(Zr++L))
 obtain⟨av5,av6,av7,-⟩:=O6.UX (KN)
 have Dk:Hp _ w65 (_::(av5++(alQ++(Zr++L)))):=av6.Iq (L:=[_]) (L':=(alQ++(Zr++L)))
 have ei:i=pts r:=J
 rw[show i.toNat=(pts r).toNat by omega]at hrs
 have hTV:G0 (Kz KN (av5++(alQ++Zr))) r v1 v2 rs:=⟨av4.mono (Le.zz (fun x hx=>(bB _ (dy _ hx)))),av7.mono (Le.zz (fun x hx=>(dy _ hx))),fun x hx=>(hE x hx).mono (Le.zz (fun x hx=>(bB _ (bB _ hx)))),hrs⟩
 exact p5 O ⟨rfl,v1,v2,rs,_,hTV,by simpa only[dg]using Dk⟩
section
theorem ME(w:World):(callFunc 259 #[]).run Tryz.prog w= .ok (.value (.tuple #[])) w:=run_call_mark0 func259 aN aN aN .disable aN w
theorem O7(w:World):(callFunc 261 #[]).run Tryz.prog w= .ok (.value (.tuple #[])) w:=run_call_mark0 func261 aN aN aN .enable aN w
theorem X5(a:Addr)(w:World):(callFunc 262 #[.pointer (some a)]).run Tryz.prog w= .ok (.value (.tuple #[])) w:=run_call_marked func262 aN aN aN .acquire aN a w
theorem ahT(a:Addr)(w:World):(callFunc 264 #[.pointer (some a)]).run Tryz.prog w= .ok (.value (.tuple #[])) w:=run_call_marked func264 aN aN aN .releaseMerge aN a w
theorem ahU(a:Addr)(x:Value)(u:FrameMode)(w:World)(hc:w.cell? a=some x)(hz:w.frozen? a=false):
  CallsD Tryz.prog 237 #[.pointer (some a),.bool true] u w fun e u' w'=>u'=u/\(e= .returned (.tuple #[])/\w'=w.drew.setCell a (.int .u32 1)):=by
 have hc':w.drew.cell? a=some x:=by go_simp
 have hz':w.drew.frozen? a=false:=by go_simp
 have hst:=run_call_store (P:=Tryz.prog) func255 aN aN aN aN (k:= .u32) (y:=1) hc' hz'
 go_enter_d func237,ntmps237
 go_wp2
 go_region_calls
 all_goals(go_end0;exact⟨rfl,rfl⟩)
theorem acn(a:Addr)(u:FrameMode)(w:World)(hc:w.cell? a=some (.int .i32 1))(hz:w.frozen? a=false):
  CallsD Tryz.prog 236 #[.pointer (some a)] u w fun e u' w'=>u'=u/\(e= .returned (.tuple #[])/\w'=w.setCell a (.int .i32 0)):=by
 have hd:=ME
 have he:=O7
 have hr:=ahT
 have avk:=run_call_add (P:=Tryz.prog) func265 aN aN aN .i32 aN (y:= -1) (s:=0) hc hz (by simp[go_sem];rfl)
 have hcv:=run_convert_to_unsafe (P:=Tryz.prog) (src:=273) (dst:=277) underlying273 underlying277 aN hc
 go_enter_d func236,ntmps236
 go_wp2
 go_end0
 go_wp2
 go_end0
 exact⟨rfl,rfl⟩
theorem alR(a:Addr)(w:World)(hc:w.cell? a=some (.int .i32 0))(hz:w.frozen? a=false):
  Calls Tryz.prog 235 #[.pointer (some a)] w fun e w'=>e= .returned (.tuple #[])/\w'=w.setCell a (.int .i32 1):=by
 have hd:=ME
 have he:=O7
 have ha:=X5
 have aKT:=run_call_cas_hit (P:=Tryz.prog) func260 aN aN aN .i32 aN (y:=1) hc hz
 have hc':(w.setCell a (.int .i32 1)).cell? a=some (.int .i32 1):=World.cell?_setCell_same w a _ hc
 have hcv:=run_convert_to_unsafe (P:=Tryz.prog) (src:=273) (dst:=277) underlying273 underlying277 aN hc'
 go_enter func235,ntmps235
 go_wp2
 refine bodyPost_ret (results_none O _ _ _) O ?_
 go_wp2
 go_end0
 exact⟨rfl,rfl⟩
theorem alS{q:Value->World->Prop}{e:Ending}{w:World}(h:jF q e w):∃v,e= .returned v/\q v w:=by
 cases e<;>first|exact⟨_,rfl,h⟩|exact h.elim
set_option maxRecDepth 100000 in
set_option maxHeartbeats 1600000 in
theorem alT(W0 w:World)(b:Nat)(r:Rl)(L:List a8)(hT:oq W0)(hH:Hp W0 w (.blk b (.cells (kN r 0 0 (.slice none 0 0) (.slice none 0 0)).toArray 212 (0,0))::L)):
  Calls Tryz.prog 207 #[.pointer (some ⟨b,65,none⟩),.func (.func 173) #[.pointer (some ⟨b,0,none⟩)] #[]] w fun e w'=>e= .returned (.tuple #[])/\∃(v1 v2:Value) (rs:List QE) (Z:List a8),G0 (Kz KN Z) r v1 v2 rs/\Hp W0 w' (.blk b (.cells (kN r 1 0 (v1) (v2)).toArray 212 (0,0))::(Z++L)):=by
 have Fz:w.cell? ⟨b,65+1,none⟩=some (.int .i32 0):=hH.cell (i:=0) O amZ
 have f66:w.frozen? ⟨b,65+1,none⟩=false:=hH.fz (i:=0) O
 have iA:=hH.setCell (i:=0) (b:=b) (o:=66) (v:= .int .i32 1) O
 simp only[ij,Ti]at iA
 have hl:=VU (P:=Tryz.prog) func234 aN aN aN .u32 aN (w:=w.setCell ⟨b,65+1,none⟩ (.int .i32 1)) (a:=⟨b,65,none⟩) (x:=0) (iA.cell (i:=0) O Y7)
 have av8:∀(x:Bool) (w:World),(Op.unary .not (.bool x)).run Tryz.prog w= .ok (.bool (!x)) w:=fun _ _=>rfl
 go_enter_defers func207,ntmps207
 go_wp2_with (go_at_call 235;refine(alR ⟨b,65+1,none⟩ _ Fz f66).mono ?_;rintro e w' ⟨rfl,rfl⟩)
 go_wp2_with (first|(go_at_call 173;refine(Ef W0 b r L _ hT iA).mono ?_;intro e w' hr;obtain⟨v,rfl,rfl,v1,v2,rs,Z,hV,a7⟩:=alS hr)|(go_at_call 206;go_in))
 refine leaves_cons (f:=237) (args:=#[.pointer (some ⟨b,65,none⟩),.bool true]) aA (by simp[go_sem])<|(ahU ⟨b,65,none⟩ (.int .u32 0) .returning _ (a7.cell (i:=0) O Y7) (a7.fz (i:=0) O)).mono<| ?_
 rintro e u' w'' ⟨rfl,rfl,rfl⟩
 have tK:=a7.drew.setCell (i:=0) (b:=b) (o:=65) (v:= .int .u32 1) O
 simp only[ij,afO]at tK
 refine leaves_cons (f:=236) (args:=#[.pointer (some ⟨b,66,none⟩)]) (by simp[settle]) (by simp[go_sem])<|(acn ⟨b,66,none⟩ _ _ (tK.cell (i:=0) O amZ) (tK.fz (i:=0) O)).mono<| ?_
 rintro e u' w'' ⟨rfl,rfl,rfl⟩
 have gL:=tK.setCell (i:=0) (b:=b) (o:=66) (v:= .int .i32 0) O
 simp only[ij,Ti]at gL
 simp[Leaves,settle,results,results207]
 exact⟨v1,v2,rs,Z,hV,gL⟩
set_option maxRecDepth 100000 in
set_option maxHeartbeats 1600000 in
theorem ahV(W0 w:World)(b:Nat)(r:Rl)(L:List a8)(hT:oq W0)(hH:Hp W0 w (.blk b (.cells (kN r 0 0 (.slice none 0 0) (.slice none 0 0)).toArray 212 (0,0))::L)):
  Calls Tryz.prog 172 #[.pointer (some ⟨b,65,none⟩),.func (.func 173) #[.pointer (some ⟨b,0,none⟩)] #[]] w fun e w'=>e= .returned (.tuple #[])/\∃(v1 v2:Value) (rs:List QE) (Z:List a8),G0 (Kz KN Z) r v1 v2 rs/\Hp W0 w' (.blk b (.cells (kN r 1 0 (v1) (v2)).toArray 212 (0,0))::(Z++L)):=by
 have hl:=VU (P:=Tryz.prog) func234 aN aN aN .u32 aN (hH.cell (i:=0) O Y7)
 have av8:∀(x:Bool) (w:World),(Op.unary .not (.bool x)).run Tryz.prog w= .ok (.bool (!x)) w:=fun _ _=>rfl
 go_enter func172,ntmps172
 go_wp2_with (first|(go_at_call 207;refine(alT W0 _ b r L hT hH).mono ?_;rintro e w' ⟨rfl,hq⟩)|(go_at_call 206;go_in))
 go_end0
 exact⟨rfl,hq⟩
theorem alU(w:World)(b:Nat)(fv:Value)(h0:w.cell? ⟨b,65,none⟩=some (.int .u32 1)):
  Calls Tryz.prog 172 #[.pointer (some ⟨b,65,none⟩),fv] w fun e w'=>e= .returned (.tuple #[])/\w'=w:=by
 have hl:=VU (P:=Tryz.prog) func234 aN aN aN .u32 aN h0
 have av8:∀(x:Bool) (w:World),(Op.unary .not (.bool x)).run Tryz.prog w= .ok (.bool (!x)) w:=fun _ _=>rfl
 go_enter func172,ntmps172
 go_wp2
 go_end0
 exact⟨rfl,rfl⟩
theorem ars(W0 w:World)(b:Nat)(r:Rl)(Z L:List a8)(hT:oq W0)(hZ:TbZ 212 r b Z)(hH:Hp W0 w (Z++L)):
  Calls Tryz.prog 172 #[.pointer (some ⟨b,65,none⟩),.func (.func 173) #[.pointer (some ⟨b,0,none⟩)] #[]] w (jF fun u w'=>u= .tuple #[]/\∃(v1 v2:Value) (rs:List QE) (Z:List a8),G0 (Kz KN Z) r v1 v2 rs/\Hp W0 w' (.blk b (.cells (kN r 1 0 (v1) (v2)).toArray 212 (0,0))::(Z++L))):=by
 rcases hZ with rfl|⟨v1,v2,rs,Zr,rfl,hV⟩
 .exact(ahV W0 w b r L hT hH).mono fun e w' ⟨he,hq⟩=>by subst he;exact⟨rfl,hq⟩
 exact(alU w b _ (hH.cell (i:=0) O Y7)).mono fun e w' ⟨he,hw⟩=>by subst he hw;exact⟨rfl,v1,v2,rs,Zr,hV,hH⟩
end
theorem CJ(W0:World)(b:Nat)(r:Rl)(Z L:List a8)(a c:BitVec 64)(w:World)(hT:oq W0)(hZ:TbZ 212 r b Z)(hH:Hp W0 w (Z++L)):Calls Tryz.prog 142 #[.pointer (some ⟨b,0,none⟩),U a,U c] w (jF fun u w'=>u=U (jq r a c)/\∃Z',TbZ 212 r b Z'/\Hp W0 w' (Z'++L)):=by
 refine en func142 rfl rfl<|SR<|va (v:=U 0#64) rfl<|aa<|SR<|aG (v:=Pn _ _) rfl<|V (af O)<|V (fA mj 65 O sizeOf209 O)<|aG (v:=Pn _ _) rfl<|V (afR (v:=Pn _ _) O)<|ct O (ars W0 _ b r Z L hT hZ hH) (aK call172 O O)<| ?_
 rintro _ w1 ⟨rfl,v1,v2,rs,Zr,hV,a7⟩
 have ha:=am1 r a
 have hc:=am1 r c
 have hln:=hV.len
 have hp:=dr r
 refine aa<|SR<|aG (v:=Pn _ _) rfl<|mU rfl<|aE O a7 (kS _ _ _ _ _ _ _ _ (a7.blk (i:=0) O) ((hV.words).mono (a7.kz KN.le (fun x hx=>(mT (dy _ hx))))).sl) (aK call174 O O)<|fun w3 gL=>aG (v:=Pn _ _) rfl<|mU rfl<|aE O gL (kS _ _ _ _ _ _ _ _ (gL.blk (i:=0) O) ((hV.words).mono (gL.kz KN.le (fun x hx=>(mT (dy _ hx))))).sl) (aK call174 O O)<|fun w5 jg=>aI rfl<|aI rfl<|aa<|ah<|SR<|mI rfl<|V (aL O O)<|mB rfl<|bI 23 O (fun h8=> ?_) (fun h8=> ?_)
 .refine aG (v:=B true) rfl<|aa<|cr rfl<|SR<|mU rfl<|mU rfl<|V (jj O O)<|aU rfl<|aa<|aj<|ja O (v:=U (jq r a c)) (kZ O (aJ U (by exact Oz J))) ⟨rfl,_,.inr ⟨v1,v2,rs,Zr,rfl,hV⟩,jg⟩
 refine mI rfl<|V (aL O O)<|mB rfl<|aa<|aF O (fun h10=> ?_) (fun h10=> ?_)
 .refine SR<|mU rfl<|mU rfl<|V (jj O O)<|aU rfl<|aa<|aj<|ja O (v:=U (jq r a c)) (kZ O (aJ U (by exact Oz J))) ⟨rfl,_,.inr ⟨v1,v2,rs,Zr,rfl,hV⟩,jg⟩
 refine ak<|SR<|have hrw:=(hV.row (i:=C0 r a) J).1;have hrl:(rs.getD (C0 r a).toNat ru0).l.length=(pts r).toNat:=(by rw[hrw,A0]);aG (v:=Pn _ _) rfl<|V (af O)<|V (fA mj 69 O sizeOf210 O)<|V (az JK O O (jg.cell (i:=0) O am0))<|mI rfl<|V (ag ((hV.afP).mono (jg.kz KN.le (fun x hx=>(mT (dy _ hx))))).sl JK iO O O J)<|V (az cR O O (((hV.afP).mono (jg.kz KN.le (fun x hx=>(mT (dy _ hx))))).sl.cell _ _ (apO J)))<|mI rfl<|V (ag (((hV.row J).2).mono (jg.kz KN.le (fun x hx=>(mT (dy _ hx))))).sl cR cX O O J)<|V (az dU O O ((((hV.row J).2).mono (jg.kz KN.le (fun x hx=>(mT (dy _ hx))))).sl.atU J J))<|aU rfl<|aa<|aj<|ja O (v:=U (jq r a c)) (kZ O (aJ U (by rw[hrw,aky J];exact afM J))) ⟨rfl,_,.inr ⟨v1,v2,rs,Zr,rfl,hV⟩,jg⟩
theorem Hw(W0:World)(B:Nat)(tb:Iv)(tl:List (Nat×Rl))(Z R:List a8)(a c:El)(w:World)(hT:oq W0)(XX:∀i,i<8->∀p,tb i=some p->p∈tl)(hB:Kz (Kw W0) R B (.cells (Tj tb).toArray 199 (0,0)))(hZ:u5 212 tl Z)(hH:Hp W0 w (Z++R)):Calls Tryz.prog 141 #[.agg (iU a),.agg (iU c),.pointer (some ⟨B,0,none⟩)] w (jF fun u w'=>u= .agg (iU (oc tb a c))/\∃Z',u5 212 tl Z'/\Hp W0 w' (Z'++R)):=by
 refine en func141 rfl rfl<|SR<|gX hH (v:= .agg _) rfl<|fun b3 w1 a7=>gX a7 (v:= .agg _) rfl<|fun b6 w4 bP=>ou bP (aZ js)<|fun b9 w7 eX=>aa<|ah<|SR<|V (cG (cs:=Tj tb) VV O O O (bf (eX.kz (Le.refl _) (fun x hx=>(mT (mT (mT (bB _ hx))))) _ _ hB)))<|aG (v:=I 0) rfl<|aa<|aC<|bj (G:=Int×El×(List a8)) (fun⟨k,e1,Z1⟩ s' w'=>(Fr (6::7::(rg 9 25 [])) _ s')/\(Hp W0 w' (_::_:: .blk b3 (.cells (iU e1) 37 (0,0))::Z1))/\(s' 9=I k)/\(0<=k)/\(k<=8)/\(e1=rY (oc tb a c) a k)/\(∃Zt,Z1=Zt++R/\u5 212 tl Zt)) (fun⟨k,e1,Z1⟩=>(8-k).toNat) ((0,a,(Z++R))) ⟨Fr.refl _ _,eX,rfl,J,J,(EM _ _).symm,⟨_,rfl,hZ⟩⟩<| ?_
 rintro⟨k,e1,Z1⟩ XQ Hi ⟨rJ,bS,Mz,h0,hk,hr,hS⟩
 obtain⟨oL,O1,Mu,av9⟩:=rJ.w4 3 4 5 8
 obtain⟨Zt,rfl,hZt⟩:=hS
 refine SR<|V (aL Mz O)<|aa<|ah<|aF O (fun h12=> ?_) (fun h12=> ?_)
 .refine ak<|ah<|aC<|SR<|aG Mz<|V (Kb VV isAgg198 sizeOf198 av9 Mz J (apR _ J))<|aI rfl<| ?_
  refine V (run_assign bC) ?_
  refine aa<|ah<|SR<| ?_
  refine V (run_move bC) ?_
  refine V (OA underlying198 O O)<|aa<|bQ O (fun Jn=> ?_) (fun Jn=> ?_)
  .refine ah<|ia aN bS (sP (sP (sQ (sA sR))))<|fun XD cF=>have sy:=cF.sub (sP (sP (sQ (sA sR))));AQ 0 O sy (mV (I _) O)<| ?_
   refine AQ 1 O sy (run_move bC) ?_
   refine AQ 2 O sy (mV (I _) O)<|AQ 3 O sy (bu cA cX oL O J)<|AQ 5 O sy (mV (I _) O)<|AQ 6 O sy (bu cA cX O1 O J)<|tV 7 O sy dU 1 O O (mW _ J)<|A1 4<|bW O aH O cF (sP (sP (sQ (sA sR)))) (az dU O O (cF.cell (i:=2) O (mW _ J)))<|A1 8<| ?_
   obtain⟨⟨bi,ri⟩,hi⟩:=Option.isSome_iff_exists.1 ‹(tb k.toNat).isSome=true›
   obtain⟨z27,Y22,aCK,aCL,awa⟩:=hZt.pick (XX _ J _ hi)
   refine wF O aH O (CJ W0 bi ri z27 (Y22++([_,_,_]++R)) _ _ _ hT aCK (Hp.auy (A:=[_,_,_]) cF aCL)) (bz call142 (aJ afS hi) O O) (fun u w' ⟨_,z',hz',h⟩=>let⟨Z',_,q2⟩:=awa z' hz';Hp.sub (L:=_::_::_::(Z'++R)) (Hp.am2 (A:=[_,_,_]) h q2) (sP (sP (sQ (sA sR))))) ?_
   rintro _ Uj ⟨rfl,z34,aCM,qC⟩
   obtain⟨awb,aCN,aCO⟩:=awa z34 aCM
   have jE:Hp _ Uj (_::_::_::(awb++R)):=Hp.am2 (A:=[_,_,_]) qC aCO
   refine AQ 9 O (jE.sub (sP (sP (sQ (sA sR))))) (bu cA cX oL O J)<|A1 10<|eK O aH jE (j:=2) O (sP (sP (sQ (sA sR)))) (bM O O (v:=U _) O O O (jE.blk (i:=2) O) DJ)<|fun w37 zn=> ?_
   rw[yx]at zn
   refine AD<|aY (id:=1) rfl<|au<|V (ax Mz O J)<|mI rfl<|aa<| ?_
   refine⟨(k+1,_,(awb++R)),aW,rJ.u4.u4.u4.u4.u1.u1.u1,zn,(aJ I aM),J,J,?_,?_⟩
   .exact apS hr h0 hi
   exact⟨_,rfl,aCN⟩
  refine ak<|ia aN bS (sP (sP (sQ sR)))<|fun w39 nM=>have uQ:=nM.sub (sP (sP (sQ sR)));AQ 0 O uQ (mV (I _) O)<|AQ 1 O uQ (bu cA cX oL O J)<|AQ 3 O uQ (mV (I _) O)<|AQ 4 O uQ (bu cA cX O1 O J)<|tV 5 O uQ dU 1 O O (mW _ J)<|A1 2<|bW O aH O nM (sP (sP (sQ sR))) (az dU O O (nM.cell (i:=2) O (mW _ J)))<|AQ 6 O uQ (jj O O)<|AQ 7 O uQ (bu cA cX oL O J)<|A1 8<|eK O aH nM (j:=2) O (sP (sP (sQ sR))) (bM O O (v:=U _) O O O (nM.blk (i:=2) O) DJ)<|fun w45 rK=> ?_
  rw[yx]at rK
  refine AD<|au<|V (ax Mz O J)<|mI rfl<|aa<| ?_
  refine⟨(k+1,_,(Zt++R)),aW,rJ.u4.u4.u4.u4.u1,rK,(aJ I aM),J,J,?_,?_⟩
  .exact auz hr h0 ‹(tb k.toNat).isSome=false›
  exact⟨_,rfl,hZt⟩
 refine aY (id:=0) rfl<|SR<|V (dR cA O O oL (bS.blk (i:=2) O))<|bk bS (i:=0) O (ef O Mu O (bS.blk (i:=0) O))<|fun w47 mH=>aa<|aj<|vC O Mu mH (i:=0) O cA O mO ⟨aJ Value.agg (rh V5),Zt,hZt,mH.sub (sQ (sQ (sQ sR)))⟩
theorem MF(s:kL)(w:World)(hs:kO (Kw w) s):Calls Tryz.prog 98 #[.agg (rp s)] w (jF fun u w'=>∃(B:Nat) (tb:Iv) (tl:List (Nat×Rl)) (Zt:List a8),u= .func (.func 141) #[] #[.pointer (some ⟨B,0,none⟩)]/\afU s.sh tb/\(∀i,i<8->∀p,tb i=some p->p∈tl)/\u5 212 tl Zt/\Hp w w' (Zt++[.blk B (.cells (Tj tb).toArray 199 (0,0))])):=by
 have Ht:=hs.aT.small
 unfold maxLen at Ht
 refine eH func98 rfl rfl fun hH=>SR<|gX hH (v:= .agg _) rfl<|fun b3 w1 a7=>va (v:= .nilFunc) rfl<|aa<|SR<|ou a7 (aZ Tryz.zeroValue199)<|fun b6 w4 bP=>aa<|ah<|SR<|V (fA dJ 1 O gM O)<|lV dz bP 1 O O rfl<|V (aD (hs.aT.sl.hp bP) O dz O)<|aG (v:=I 0) rfl<|aa<|aC<|bj (G:=Int×(List (Nat×Rl))×Iv×(List a8)) (fun⟨k,tl,tb,Z⟩ s' w'=>(Fr (4::5::(rg 9 19 [])) _ s')/\(Hp w w' (.blk b6 (.cells ((Tj tb).toArray) 199 (0,0))::_::Z))/\(s' 9=I k)/\(0<=k)/\(k<=s.aT.length)/\(G2 s.sh k tb)/\(∀i,i<8->∀p,tb i=some p->p∈tl)/\(u5 212 tl Z)) (fun⟨k,tl,tb,Z⟩=>(s.aT.length-k).toNat) ((0,[],tb0,[])) ⟨Fr.refl _ _,bP,rfl,J,J,G2.start _,(fun i _ p hp=>(by cases hp)),rfl⟩<| ?_
 rintro⟨k,tl,tb,Z⟩ sg7 w7 ⟨Es,eR,Nv,h0,hk,hTo,XX,hZ⟩
 obtain⟨ack,aCP,art⟩:=Es.w3 3 7 8
 refine SR<|V (aL Nv art)<|aa<|ah<|aF O (fun h9=> ?_) (fun h9=> ?_)
 .refine ak<|ah<|aC<|SR<|aG Nv<|V (ag (hs.aT.sl.hp eR) dz sK aCP Nv J)<|V (fg (dv:=ko) fB (hs.aT.sl.hp eR) dF O O O J)<|ou eR (aZ uJ)<|fun b12 Hi dN=>aI rfl<|bk dN (i:=0) O (tG (hs.at J J) O O O (dN.blk (i:=0) O))<|fun C8 cw=>aa<|SR<|mI rfl<|V (aL O O)<|mB rfl<|bI 16 O (fun xF=> ?_) (fun xF=> ?_)
  .refine V (fA dF 0 O bp O)<|lI bt cw 0 O O rfl<|V (bO O O)<|mB rfl<|aa<|aF O (fun pL=> ?_) (fun pL=> ?_)
   .refine au<|mI rfl<|V (fA dF 2 O jI O)<|V (jP bL O O O (cw.blk (i:=0) O))<|V (dD (vs:=[(0,.agg (dK _))]) O (ab1 _))<|gX cw (v:= .agg _) rfl<|fun b21 Ub cJ=>V (bu VV sizeOf198 ack O J)<|bk cJ (i:=2) O (bM O O (v:=Pn _ _) O O O (cJ.blk (i:=2) O) (by rw[tQ,akA];omega))<|fun Ug eU=> ?_
    rw[afT tb (s.aT.getD k.toNat ko).rel]at eU
    have qB:Hp _ Ug (_::_::_::([a8.blk b21 (.cells (kN (s.aT.getD k.toNat ko).rel 0 0 (.slice none 0 0) (.slice none 0 0)).toArray 212 (0,0))]++Z)):=Hp.Iq (Z:=[a8.blk b21 (.cells (kN (s.aT.getD k.toNat ko).rel 0 0 (.slice none 0 0) (.slice none 0 0)).toArray 212 (0,0))]) (L:=[_,_,_]) (L':=Z) eU
    refine aa<|au<|V (ax Nv O J)<|mI rfl<|aa<| ?_
    refine⟨(k+1,((b21,(s.aT.getD k.toNat ko).rel)::tl),Tk tb k.toNat (b21,(s.aT.getD k.toNat ko).rel),([a8.blk b21 (.cells (kN (s.aT.getD k.toNat ko).rel 0 0 (.slice none 0 0) (.slice none 0 0)).toArray 212 (0,0))]++Z)),aW,Es.u4.u4.u4.u4.u4.u1,(Hp.conv (qB.sub (sQ sR)) aM),(aJ I aM),J,J,?_,?_,?_⟩
    .exact hTo.put h0 (by rw[sN];omega) (by rw[mr];assumption) (by rw[mr];rfl)
    .exact akC XX
    exact u5.cons hZ
   refine ak<|au<|V (ax Nv O J)<|mI rfl<|aa<| ?_
   refine⟨(k+1,tl,tb,Z),aW,Es.u4.u4.u4.u1.u1.u1,(Hp.conv (cw.sub (sQ sR)) aM),(aJ I aM),J,J,?_,?_,?_⟩
   .exact hTo.skip h0 adh
   .exact XX
   exact hZ
  refine aG (v:=B false) rfl<|aa<|dm rfl<|ak<|au<|V (ax Nv O J)<|mI rfl<|aa<| ?_
  refine⟨(k+1,tl,tb,Z),aW,Es.u4.u4.u4.u1.u1.u1,(Hp.conv (cw.sub (sQ sR)) aM),(aJ I aM),J,J,?_,?_,?_⟩
  .exact hTo.skip h0 adh
  .exact XX
  exact hZ
 refine aY (id:=0) rfl<|SR<|V (A6 ack)<|va (v:= .func _ _ _) rfl<|aa<|aj<|ja rfl (v:= .func (.func 141) #[] #[.pointer (some ⟨b6,0,none⟩)]) rfl ⟨b6,tb,tl,Z,rfl,hTo.all (by rw[sN];omega),XX,hZ,(eR.sub (sP (sQ sR))).perm (sE (l₁:=[_]))⟩
theorem lA(W0:World)(m off:Nat)(C:Array Value)(te:TypeId)(x:Int)(L:List a8)(hx: -9000000000000000000<=x/\x<=9000000000000000000)(hc:C[off]?=some (I x))(w:World)(hH:Hp W0 w (.blk m (.cells C te (0,0))::L)):Calls Tryz.prog 61 #[.pointer (some ⟨m,off,none⟩),I 1] w (jF fun u w'=>u=I (x+1)/\Hp W0 w' (.blk m (.cells (C.setIfInBounds off (I (x+1))) te (0,0))::L)):=by
 refine en func61 rfl rfl<|SR<|va (v:=I 0) rfl<|aa<|SR<|aG (v:=Pn _ _) rfl<|V (af O)<|V (fA underlying133 0 O sizeOf2 O)<|mI rfl<|V (W7 (run_call_add (P:=Tryz.prog) func106 aN aN aN .i64 aN (hH.cell (i:=0) O hc) (hH.fz (i:=0) O) (akE J)) O O)<|have a7:=hH.setCell (i:=0) (b:=m) (o:=off) (v:=I (x+1)) rfl;?_
 simp only[ij]at a7
 refine aI rfl<|aa<|aj<|ja O (v:=I (x+1)) O ⟨rfl,a7⟩
theorem nc(m:Nat)(c:Cn)(w:World)(hb:w.heap[m]?=some (.cells #[B true,I c.e,I c.l,I c.j] 135 (0,0))):Calls Tryz.prog 60 #[.pointer (some ⟨m,0,none⟩)] w (Pure (B true) w):=by
 refine eH func60 rfl rfl fun hH=>SR<|va (v:=B false) rfl<|aa<|SR<|aG (v:=Pn _ _) rfl<|V (OA (o:=some (_,Rl.none)) DC O O)<|mB rfl<|cD O rfl<|aG (v:=Pn _ _) rfl<|V (af O)<|V (fA PI 0 O mN O)<|V (az sI O O (hH.dY hb (v:=B _) O))<|mB rfl<|aB rfl<|aa<|aj<|oB O ?_ hH
 rfl
theorem zo(m:Nat)(w:World):Calls Tryz.prog 63 #[.pointer (some ⟨m,0,none⟩)] w (Pure (.pointer (some ⟨m,1,none⟩)) w):=by
 refine eH func63 rfl rfl fun hH=>SR<|va (v:= .pointer none) rfl<|aa<|SR<|aG (v:=Pn _ _) rfl<|V (af O)<|V (fA PI 1 O sizeOf133 O)<|va (v:=Pn _ _) rfl<|aa<|aj<|Ez O ?_ hH.below
 rfl
theorem zq(m:Nat)(w:World):Calls Tryz.prog 65 #[.pointer (some ⟨m,0,none⟩)] w (Pure (.pointer (some ⟨m,2,none⟩)) w):=by
 refine eH func65 rfl rfl fun hH=>SR<|va (v:= .pointer none) rfl<|aa<|SR<|aG (v:=Pn _ _) rfl<|V (af O)<|V (fA PI 2 O sizeOf133 O)<|va (v:=Pn _ _) rfl<|aa<|aj<|Ez O ?_ hH.below
 rfl
theorem zu(m:Nat)(w:World):Calls Tryz.prog 67 #[.pointer (some ⟨m,0,none⟩)] w (Pure (.pointer (some ⟨m,3,none⟩)) w):=by
 refine eH func67 rfl rfl fun hH=>SR<|va (v:= .pointer none) rfl<|aa<|SR<|aG (v:=Pn _ _) rfl<|V (af O)<|V (fA PI 3 O sizeOf133 O)<|va (v:=Pn _ _) rfl<|aa<|aj<|Ez O ?_ hH.below
 rfl
theorem ahW(W0:World)(b2 m:Nat)(c:Cn)(L:List a8)(hc:c.ok)(w:World)(hB:Kz (Kw W0) L b2 (.cells #[pt m] 72 (0,0)))(hH:Hp W0 w (.blk m (.cells #[B true,I c.e,I c.l,I c.j] 135 (0,0))::L)):Calls Tryz.prog 59 #[.func (.func 63) #[] #[],.pointer (some ⟨b2,0,none⟩)] w (jF fun u w'=>u= .tuple #[]/\Hp W0 w' (rD TX m (Kd.e.up c)::L)):=by
 unfold Cn.ok at hc
 refine en func59 rfl rfl<|SR<|V (az DC rfl rfl (uC (hH.kz (Le.refl _) (fun x hx=>(mT hx)) _ _ hB) (v:=Pn _ _) O))<|aE O hH (nc _ _ _ (hH.blk (i:=0) O)) (aq call60 O)<|fun w1 a7=>aa<|cr rfl<|au<|aG (v:= .func _ _ _) rfl<|V (az DC O O (uC (a7.kz (Le.refl _) (fun x hx=>(mT hx)) _ _ hB) (v:=Pn _ _) O))<|aE O a7 (zo _ _) (kH call63 (cs:=[]) O O)<|fun w4 bP=>ct O (lA W0 m 1 _ _ c.e L J O _ bP) (aK call61 O O)<| ?_
 rintro _ w6 ⟨rfl,eR⟩
 refine aa<|p5 O ⟨rfl,eR⟩
theorem ahX(W0:World)(b2 m:Nat)(c:Cn)(L:List a8)(hc:c.ok)(w:World)(hB:Kz (Kw W0) L b2 (.cells #[pt m] 72 (0,0)))(hH:Hp W0 w (.blk m (.cells #[B true,I c.e,I c.l,I c.j] 135 (0,0))::L)):Calls Tryz.prog 59 #[.func (.func 65) #[] #[],.pointer (some ⟨b2,0,none⟩)] w (jF fun u w'=>u= .tuple #[]/\Hp W0 w' (rD TX m (Kd.l.up c)::L)):=by
 unfold Cn.ok at hc
 refine en func59 rfl rfl<|SR<|V (az DC rfl rfl (uC (hH.kz (Le.refl _) (fun x hx=>(mT hx)) _ _ hB) (v:=Pn _ _) O))<|aE O hH (nc _ _ _ (hH.blk (i:=0) O)) (aq call60 O)<|fun w1 a7=>aa<|cr rfl<|au<|aG (v:= .func _ _ _) rfl<|V (az DC O O (uC (a7.kz (Le.refl _) (fun x hx=>(mT hx)) _ _ hB) (v:=Pn _ _) O))<|aE O a7 (zq _ _) (kH call65 (cs:=[]) O O)<|fun w4 bP=>ct O (lA W0 m 2 _ _ c.l L J O _ bP) (aK call61 O O)<| ?_
 rintro _ w6 ⟨rfl,eR⟩
 refine aa<|p5 O ⟨rfl,eR⟩
theorem ahY(W0:World)(b2 m:Nat)(c:Cn)(L:List a8)(hc:c.ok)(w:World)(hB:Kz (Kw W0) L b2 (.cells #[pt m] 72 (0,0)))(hH:Hp W0 w (.blk m (.cells #[B true,I c.e,I c.l,I c.j] 135 (0,0))::L)):Calls Tryz.prog 59 #[.func (.func 67) #[] #[],.pointer (some ⟨b2,0,none⟩)] w (jF fun u w'=>u= .tuple #[]/\Hp W0 w' (rD TX m (Kd.j.up c)::L)):=by
 unfold Cn.ok at hc
 refine en func59 rfl rfl<|SR<|V (az DC rfl rfl (uC (hH.kz (Le.refl _) (fun x hx=>(mT hx)) _ _ hB) (v:=Pn _ _) O))<|aE O hH (nc _ _ _ (hH.blk (i:=0) O)) (aq call60 O)<|fun w1 a7=>aa<|cr rfl<|au<|aG (v:= .func _ _ _) rfl<|V (az DC O O (uC (a7.kz (Le.refl _) (fun x hx=>(mT hx)) _ _ hB) (v:=Pn _ _) O))<|aE O a7 (zu _ _) (kH call67 (cs:=[]) O O)<|fun w4 bP=>ct O (lA W0 m 3 _ _ c.j L J O _ bP) (aK call61 O O)<| ?_
 rintro _ w6 ⟨rfl,eR⟩
 refine aa<|p5 O ⟨rfl,eR⟩
theorem BR(W0:World)(b5 b3 b2 m:Nat)(c:Cn)(fe:FuncId)(ae:List Value)(x1 x2:Value)(v u:Value)(ee:El)(bb:Bool)(Y R:List a8)(Q:List a8->Prop)(hc:c.ok)(w:World)(Z4:∀args w,(callFunc fe args).run Tryz.prog w= .ok (.enter fe args) w)(h5:Kz (Kw W0) R b5 (.cells #[iW 59 #[pt b2]] 139 (0,0)))(h2:Kz (Kw W0) R b2 (.cells #[pt m] 72 (0,0)))(h3:Kz (Kw W0) R b3 (.cells #[iW fe ae.toArray,x1,x2] 117 (0,0)))(hin:∀(w1:World) (A:List a8),Hp W0 w1 ((rD TX m (Kd.e.up c)::Y)++(A++R))->Calls Tryz.prog fe (v::u::ae).toArray w1 (jF fun x w'=>x= .tuple #[.agg (iU ee),B bb]/\∃Z',Q Z'/\Hp W0 w' (Z'++(A++R))))(hH:Hp W0 w ((rD TX m c::Y)++R)):Calls Tryz.prog 62 #[v,u,.pointer (some ⟨b5,0,none⟩),.pointer (some ⟨b3,0,none⟩)] w (jF fun x w'=>x= .tuple #[.agg (iU ee),B bb]/\∃Z',Q Z'/\Hp W0 w' (Z'++R)):=by
 refine en func62 rfl rfl<|SR<|ou hH (aZ js)<|fun b3 w1 a7=>va (v:=B false) rfl<|aa<|SR<|V (az VW O O (uC (a7.kz (Le.refl _) (fun x hx=>(mT (mT (bB _ hx)))) _ _ h5) (v:= .func _ _ _) O))<|have hF4:=Hp.rC (A:=[_]) (Zf:=[_]) (R:=(Y++R)) a7;ct O (ahW W0 b2 m c _ hc _ (Le.zz (fun x hx=>bB _ (bB _ hx)) _ _ h2) hF4) (kH call59 (cs:=[pt b2]) O O)<| ?_
 rintro _ w5 ⟨rfl,h6⟩
 have eR:Hp _ w5 (_::_::(Y++R)):=Hp.nU (A:=[_]) (Zf:=[_]) h6
 refine aa<|ah<|SR<|V (fA pV 0 O sizeOf114 O)<|V (az PJ O O (uC (eR.kz (Le.refl _) (fun x hx=>(mT (mT (bB _ hx)))) _ _ h3) (v:= .func _ _ _) O))<|V (Tl PJ O O)<|aa<|dm rfl<|ak<|SR<|V (fA pV 0 O sizeOf114 O)<|V (az PJ O O (uC (eR.kz (Le.refl _) (fun x hx=>(mT (mT (bB _ hx)))) _ _ h3) (v:= .func _ _ _) O))<| ?_
 refine V (run_move bC) ?_
 refine V (run_move bC) ?_
 have hF8:=Hp.rC (A:=[_]) (Zf:=_::Y) (R:=R) eR
 refine ct O (hin _ _ hF8) (iw Z4 (cs:=ae) O O O) ?_
 rintro _ w9 ⟨rfl,Z',hq,h10⟩
 have dN:Hp _ w9 (_::(Z'++R)):=Hp.nU (A:=[_]) h10
 refine V (bD O (v:= .agg _) O)<|V (bD O (v:=B _) O)<|bk dN (i:=0) O (ef O O O (dN.blk (i:=0) O))<|fun C8 cw=>aB rfl<|aa<|aj<|Oc O O O cw (i:=0) O cA O mO ⟨rfl,Z',hq,cw.sub (sQ sR)⟩
theorem BS(W0:World)(b5 b3 b2 m:Nat)(c:Cn)(fe:FuncId)(ae:List Value)(x1 x2:Value)(a b:El)(bb:Bool)(Y R:List a8)(Q:List a8->Prop)(hc:c.ok)(w:World)(Z4:∀args w,(callFunc fe args).run Tryz.prog w= .ok (.enter fe args) w)(h5:Kz (Kw W0) R b5 (.cells #[iW 59 #[pt b2]] 139 (0,0)))(h2:Kz (Kw W0) R b2 (.cells #[pt m] 72 (0,0)))(h3:Kz (Kw W0) R b3 (.cells #[x1,iW fe ae.toArray,x2] 117 (0,0)))(hin:∀(w1:World) (A:List a8),Hp W0 w1 ((rD TX m (Kd.l.up c)::Y)++(A++R))->Calls Tryz.prog fe (.agg (iU a):: .agg (iU b)::ae).toArray w1 (jF fun x w'=>x=B bb/\∃Z',Q Z'/\Hp W0 w' (Z'++(A++R))))(hH:Hp W0 w ((rD TX m c::Y)++R)):Calls Tryz.prog 64 #[.agg (iU a),.agg (iU b),.pointer (some ⟨b5,0,none⟩),.pointer (some ⟨b3,0,none⟩)] w (jF fun x w'=>x=B bb/\∃Z',Q Z'/\Hp W0 w' (Z'++R)):=by
 refine en func64 rfl rfl<|SR<|gX hH (v:= .agg _) rfl<|fun b3 w1 a7=>gX a7 (v:= .agg _) rfl<|fun b6 w4 bP=>va (v:=B false) rfl<|aa<|SR<|V (az VW O O (uC (bP.kz (Le.refl _) (fun x hx=>(mT (mT (mT (bB _ hx))))) _ _ h5) (v:= .func _ _ _) O))<|have hF7:=Hp.rC (A:=[_,_]) (Zf:=[_]) (R:=(Y++R)) bP;ct O (ahX W0 b2 m c _ hc _ (Le.zz (fun x hx=>bB _ (bB _ hx)) _ _ h2) hF7) (kH call59 (cs:=[pt b2]) O O)<| ?_
 rintro _ w8 ⟨rfl,h9⟩
 have bS:Hp _ w8 (_::_::_::(Y++R)):=Hp.nU (A:=[_,_]) (Zf:=[_]) h9
 refine aa<|SR<|V (fA pV 1 O sizeOf65 O)<|V (az JS O O (uC (bS.kz (Le.refl _) (fun x hx=>(mT (mT (mT (bB _ hx))))) _ _ h3) (v:= .func _ _ _) O))<|V (Tm JS O O)<|mB rfl<|cD O rfl<|V (fA pV 1 O sizeOf65 O)<|V (az JS O O (uC (bS.kz (Le.refl _) (fun x hx=>(mT (mT (mT (bB _ hx))))) _ _ h3) (v:= .func _ _ _) O))<|V (dR cA O O O (bS.blk (i:=1) O))<|V (dR cA O O O (bS.blk (i:=0) O))<|have aCQ:=Hp.rC (A:=[_,_]) (Zf:=_::Y) (R:=R) bS;ct O (hin _ _ aCQ) (iw Z4 (cs:=ae) O O O)<| ?_
 rintro _ Cx ⟨rfl,Z',hq,Ua⟩
 have cw:Hp _ Cx (_::_::(Z'++R)):=Hp.nU (A:=[_,_]) Ua
 refine mB rfl<|aB rfl<|aa<|aj<|ja O (v:=B bb) O ⟨rfl,Z',hq,cw.sub (sQ (sQ sR))⟩
theorem BT(W0:World)(b5 b3 b2 m:Nat)(c:Cn)(fe:FuncId)(ae:List Value)(x1 x2:Value)(a b:El)(ee:El)(Y R:List a8)(Q:List a8->Prop)(hc:c.ok)(w:World)(Z4:∀args w,(callFunc fe args).run Tryz.prog w= .ok (.enter fe args) w)(h5:Kz (Kw W0) R b5 (.cells #[iW 59 #[pt b2]] 139 (0,0)))(h2:Kz (Kw W0) R b2 (.cells #[pt m] 72 (0,0)))(h3:Kz (Kw W0) R b3 (.cells #[x1,x2,iW fe ae.toArray] 117 (0,0)))(hin:∀(w1:World) (A:List a8),Hp W0 w1 ((rD TX m (Kd.j.up c)::Y)++(A++R))->Calls Tryz.prog fe (.agg (iU a):: .agg (iU b)::ae).toArray w1 (jF fun x w'=>x= .agg (iU ee)/\∃Z',Q Z'/\Hp W0 w' (Z'++(A++R))))(hH:Hp W0 w ((rD TX m c::Y)++R)):Calls Tryz.prog 66 #[.agg (iU a),.agg (iU b),.pointer (some ⟨b5,0,none⟩),.pointer (some ⟨b3,0,none⟩)] w (jF fun x w'=>x= .agg (iU ee)/\∃Z',Q Z'/\Hp W0 w' (Z'++R)):=by
 refine en func66 rfl rfl<|SR<|gX hH (v:= .agg _) rfl<|fun b3 w1 a7=>gX a7 (v:= .agg _) rfl<|fun b6 w4 bP=>ou bP (aZ js)<|fun b9 w7 eX=>aa<|SR<|V (az VW O O (uC (eX.kz (Le.refl _) (fun x hx=>(mT (mT (mT (mT (bB _ hx)))))) _ _ h5) (v:= .func _ _ _) O))<|have aCR:=Hp.rC (A:=[_,_,_]) (Zf:=[_]) (R:=(Y++R)) eX;ct O (ahY W0 b2 m c _ hc _ (Le.zz (fun x hx=>bB _ (bB _ hx)) _ _ h2) aCR) (kH call59 (cs:=[pt b2]) O O)<| ?_
 rintro _ H9 ⟨rfl,h12⟩
 have bY:Hp _ H9 (_::_::_::_::(Y++R)):=Hp.nU (A:=[_,_,_]) (Zf:=[_]) h12
 refine aa<|ah<|SR<|V (fA pV 2 O sizeOf115 O)<|V (az JL O O (uC (bY.kz (Le.refl _) (fun x hx=>(mT (mT (mT (mT (bB _ hx)))))) _ _ h3) (v:= .func _ _ _) O))<|V (Tl JL O O)<|aa<|dm rfl<|ak<|SR<|V (fA pV 2 O sizeOf115 O)<|V (az JL O O (uC (bY.kz (Le.refl _) (fun x hx=>(mT (mT (mT (mT (bB _ hx)))))) _ _ h3) (v:= .func _ _ _) O))<|V (dR cA O O O (bY.blk (i:=2) O))<|V (dR cA O O O (bY.blk (i:=1) O))<|have aCS:=Hp.rC (A:=[_,_,_]) (Zf:=_::Y) (R:=R) bY;ct O (hin _ _ aCS) (iw Z4 (cs:=ae) O O O)<| ?_
 rintro _ XD ⟨rfl,Z',hq,xF⟩
 have er:Hp _ XD (_::_::_::(Z'++R)):=Hp.nU (A:=[_,_,_]) xF
 refine bk er (i:=0) O (ef O O O (er.blk (i:=0) O))<|fun Uc j7=>aa<|aj<|vC O O j7 (i:=0) O cA O mO ⟨rfl,Z',hq,j7.sub (sQ (sQ (sQ sR)))⟩
theorem Rm(Bk:Nat)(s:kL)(v:Value)(l:List dI)(u:Value)(vs:List El)(hl:l.length<=1000)(w:World)(hs:Sl w v 10 l.length (l.flatMap jW))(ht:Sl w u 8 vs.length (vs.flatMap sC))(hsh:kO (Kw w) s)(hb:w.heap[Bk]?=some (.cells (rp s) 56 (0,0)))(hT:oq w):Calls Tryz.prog 95 #[v,u,.pointer (some ⟨Bk,0,none⟩)] w (Pure (.tuple #[.agg (iU (fJ s.sh l vs).1),B (fJ s.sh l vs).2]) w):=by
 refine eH func95 rfl rfl fun hH=>SR<|ou hH (aZ js)<|fun b3 w1 a7=>va (v:=B false) rfl<|aa<|SR<|V (cG (cs:=[B _,_]) dJ O O O (bf (a7.ext hb)))<| ?_
 refine V (run_move bC) ?_
 refine V (run_move bC) ?_
 refine aE O a7 (Ux _ _ _ _ _ J _ (hs.hp a7) (ht.hp a7) (hsh.mono a7.kw) (hT.hp a7)) (bz call96 O O O)<|fun w4 bP=>V (bD O (v:= .agg _) O)<|V (bD O (v:=B _) O)<|bk bP (i:=0) O (ef O O O (bP.blk (i:=0) O))<|fun w7 eX=>aB rfl<|aa<|aj<|Oc O O O eX (i:=0) O cA O mO ⟨?_,eX.below⟩
 rfl
theorem MG(K:Vu)(s:kL)(hfn:s.aT.length<=1000)(hnn:∀f∈s.aT,f.names.length<=1000)(w:World)(hK:Le K (Kw w))(hs:kO K s):Calls Tryz.prog 52 #[.agg (rp s)] w (jF fun u w'=>∃(f1 f2 f3:FuncId) (a1 a2 a3:Array Value) (p:kL) (tb:Iv) (tl:List (Nat×Rl)) (Zt Z:List a8),u= .agg #[iW f1 a1,iW f2 a2,iW f3 a3]/\z8 TX (Kz K Z) (.base p tb) (iW f1 a1) (iW f2 a2) (iW f3 a3)/\p.sh=s.sh/\afU p.sh tb/\(∀i,i<8->∀q,tb i=some q->q∈tl)/\u5 212 tl Zt/\Hp w w' (Zt++Z)):=by
 refine eH func52 rfl rfl fun hH=>SR<|gX hH (v:= .agg _) rfl<|fun b3 w1 a7=>ou a7 (aZ T5)<|fun b6 w4 bP=>aa<|SR<|V (cG (cs:=[B _,_]) dJ O O O (bf (bP.blk (i:=1) O)))<|vP 1 1 bP (K1 PG O O O (l:=[s]) O ay ay O)<|fun b9 w7 eX=>Wx O eX (zR K (.slice (some ⟨b9,0,none⟩) 1 1) [s] (show 1<=1000 by decide) (by simpa using hfn) (by simpa using hnn) _ (hK.trans eX.kw) (Hp.mv KZ eX (i:=0) (l:=[s]) O (show 1<=maxLen by decide)) ⟨fun x hx=>by rw[fG.1 hx];exact hs⟩) (aq call51 O)<|fun v12 C8 Z15 cw aCT=>have er:Hp _ C8 (_::_::_::Z15):=cw.aAU (L:=[_,_,_]);?_
 obtain⟨p18,rfl,awc,aru⟩:=aCT
 refine ou er (aZ Tryz.zeroValue56)<|fun b23 Nr c8=>bk c8 (i:=0) O (GL aru O O O (c8.blk (i:=0) O) O)<|fun w24 mc=>aa<|SR<|V (fA dJ 0 O mN O)<|V (az sI O O (mc.cell (i:=3) O (v:=B _) O))<|V (fA dJ 0 O mN O)<|bk (c':=#[B s.tuple,p18.fv]) mc (i:=0) O (bM (off:=0+0) O O (v:=B s.tuple) O O O (mc.blk (i:=0) O) aA)<|fun w27 jC=>have U3:kO _ ⟨s.tuple,p18.fv,p18.aT⟩:=⟨aru.aT,aru.each⟩;aa<|SR<| ?_
 refine V (A6 bC) ?_
 refine V (cG (cs:=[B _,_]) dJ O O O (bf (jC.blk (i:=0) O)))<|ct O (MF ⟨s.tuple,p18.fv,p18.aT⟩ _ (U3.mono (jC.kz hK (fun x hx=>(mT (mT (mT (mT hx)))))))) (aq call98 O)<| ?_
 rintro _ w33 ⟨awd,awe,aCU,ahZ,rfl,awf,awg,awh,h37⟩
 have zn:Hp _ w33 (_::_::_::_::((ahZ++[_])++Z15)):=Hp.nU (A:=[_,_,_,_]) (Zf:=ahZ++[_]) (R:=Z15) (jC.EK h37)
 refine V (dD (vs:=[(0,iW _ _),(1,iW _ _),(2,iW _ _)]) O (ab2 _ _ _ _ _ _))<|bk zn (i:=2) O (dX O O O (by simp[Value.oneCell',pt,iW]) (zn.blk (i:=2) O) O)<|fun w39 nM=>aa<|aj<|have jD:Hp _ w39 (_::_::_::([a8.blk b23 (.cells ([B s.tuple,p18.fv]).toArray 56 (0,0))]++((ahZ++[_])++Z15))):=Hp.Iq (Z:=[a8.blk b23 (.cells ([B s.tuple,p18.fv]).toArray 56 (0,0))]) (L:=[_,_,_]) (L':=((ahZ++[_])++Z15)) nM;vC O O jD (i:=1) O pV O O ⟨_,_,_,_,_,_,⟨s.tuple,p18.fv,p18.aT⟩,awe,aCU,ahZ,([a8.blk b23 (.cells ([B s.tuple,p18.fv]).toArray 56 (0,0))]++([a8.blk awd (.cells (Tj awe).toArray 199 (0,0))]++Z15)),rfl,⟨b23,awd,rfl,rfl,rfl,.inr aA,U3.mono (Le.zz fun x hx=>pY),.inr aA⟩,?_,awf,awg,awh,?_⟩
 .have hq:=aJ Sh.aT awc;simp only[zD,s0,List.flatMap_nil,lU]at hq
  show(⟨s.tuple,p18.aT.map pI.fc⟩:Sh)=s.sh;rw[show p18.aT.map pI.fc=s.sh.aT from hq];rfl
 exact(jD.sub (sQ (sQ (sQ sR)))).perm (by rw[dg];exact vh _ _ _)
section
theorem awi{K:Vu}{d:Wr}{e l j:Value}(h:z8 TX K d e l j):apT Tryz.prog e:=by
 cases d with
 |base p tb=>obtain⟨B1,B2,rfl,rfl,rfl,-⟩:=h;exact⟨_,_,rfl,call95⟩
 |wrap m d=>obtain⟨b2,b3,b5,e',l',j',rfl,rfl,rfl,-⟩:=h;exact⟨_,_,rfl,call62⟩
theorem ah0(W0:World)(ids:List Nat)(tl:List (Nat×Rl))(hT:oq W0)(v:Value)(il:List dI)(u:Value)(vs:List El)(hil:il.length<=1000)(d:Wr):∀(n:Nat) (f:Ct) (Z R:List a8) (e l j:Value) (w:World),z8 TX (Kz (Kw W0) R) d e l j->d.DP ids tl->j5 (Ae fr) ids f tl Z->D3 n f->n+d.dep<=1000000000000->(∀Z' w',Hp W0 w' (Z'++R)->Sl w' v 10 il.length (il.flatMap jW))->(∀Z' w',Hp W0 w' (Z'++R)->Sl w' u 8 vs.length (vs.flatMap sC))->Hp W0 w (Z++R)->
  yN Tryz.prog e [v,u] w (jF fun x w'=>x= .tuple #[.agg (iU (fJ d.sh.sh il vs).1),B (fJ d.sh.sh il vs).2]/\∃Z',j5 (Ae fr) ids (d.tick .e f) tl Z'/\Hp W0 w' (Z'++R)):=by
 induction d with
 |base p tb=>
  intro n f Z R e l j w hO hi hZ hf hn hs ht hH
  obtain⟨B1,B2,rfl,rfl,rfl,h4,h5,h6⟩:=hO
  have hk:=hH.kz (Le.refl _) (Z:=R) fun x hx=>bB _ hx
  refine⟨_,[pt B1],rfl,call95,?_⟩
  exact(Rm B1 p v il u vs hil w (hs Z w hH) (ht Z w hH) (h5.mono hk) (hk _ _ h4) (hT.hp hH)).mono fun x w' hx=>jF.mono (fun y w2 hy=>⟨hy.1,Z,hZ,hH.call hy.2⟩) hx
 |wrap m d ih=>
  intro n f Z R e l j w hO hi hZ hf hn hs ht hH
  obtain⟨b2,b3,b5,e',l',j',rfl,rfl,rfl,h5,h2,h3,hd⟩:=hO
  obtain⟨fe,ce,he,Z4⟩:=awi hd
  subst he
  obtain⟨Y,hp,hq⟩:=hZ.pick hi.1 hH
  obtain⟨Z1,hz1,hp1⟩:=hq (Kd.e.up (f m))
  have hn':n+(d.dep+1)<=1000000000000:=hn
  refine⟨_,[pt b5,pt b3],rfl,call62,?_⟩
  refine BR W0 b5 b3 b2 m (f m) fe ce _ _ v u (fJ d.sh.sh il vs).1 (fJ d.sh.sh il vs).2 Y R (fun Z'=>j5 (Ae fr) ids (d.tick .e (je .e m f)) tl Z') (hf.ok J m) w Z4 h5 h2 h3 (fun w1 A h=> ?_) (hH.perm (hp.append_right R))
  exact(ih (n+1) (je .e m f) Z1 (A++R) _ _ _ w1 (hd.mono (Le.zz fun x hx=>bB _ hx)) hi.2 hz1 (hf.tick _ m) J (fun Z' w' h=>hs (Z'++A) w' (by rw[dg];exact h)) (fun Z' w' h=>ht (Z'++A) w' (by rw[dg];exact h)) (h.perm (hp1.append_right _))).get
theorem awj{K:Vu}{d:Wr}{e l j:Value}(h:z8 TX K d e l j):apT Tryz.prog l:=by
 cases d with
 |base p tb=>obtain⟨B1,B2,rfl,rfl,rfl,-⟩:=h;exact⟨_,_,rfl,call97⟩
 |wrap m d=>obtain⟨b2,b3,b5,e',l',j',rfl,rfl,rfl,-⟩:=h;exact⟨_,_,rfl,call64⟩
theorem ah1(W0:World)(ids:List Nat)(tl:List (Nat×Rl))(hT:oq W0)(a b:El)(d:Wr):∀(n:Nat) (f:Ct) (Z R:List a8) (e l j:Value) (w:World),z8 TX (Kz (Kw W0) R) d e l j->d.DP ids tl->j5 (Ae fr) ids f tl Z->D3 n f->n+d.dep<=1000000000000->Hp W0 w (Z++R)->
  yN Tryz.prog l [.agg (iU a),.agg (iU b)] w (jF fun x w'=>x=B (cK a b)/\∃Z',j5 (Ae fr) ids (d.tick .l f) tl Z'/\Hp W0 w' (Z'++R)):=by
 induction d with
 |base p tb=>
  intro n f Z R e l j w hO hi hZ hf hn hH
  obtain⟨B1,B2,rfl,rfl,rfl,h4,h5,h6⟩:=hO
  have hk:=hH.kz (Le.refl _) (Z:=R) fun x hx=>bB _ hx
  refine⟨_,[],rfl,call97,?_⟩
  exact(Uo a b w).mono fun x w' hx=>jF.mono (fun y w2 hy=>⟨hy.1,Z,hZ,hH.call hy.2⟩) hx
 |wrap m d ih=>
  intro n f Z R e l j w hO hi hZ hf hn hH
  obtain⟨b2,b3,b5,e',l',j',rfl,rfl,rfl,h5,h2,h3,hd⟩:=hO
  obtain⟨fe,ce,he,Z4⟩:=awj hd
  subst he
  obtain⟨Y,hp,hq⟩:=hZ.pick hi.1 hH
  obtain⟨Z1,hz1,hp1⟩:=hq (Kd.l.up (f m))
  have hn':n+(d.dep+1)<=1000000000000:=hn
  refine⟨_,[pt b5,pt b3],rfl,call64,?_⟩
  refine BS W0 b5 b3 b2 m (f m) fe ce _ _ a b (cK a b) Y R (fun Z'=>j5 (Ae fr) ids (d.tick .l (je .l m f)) tl Z') (hf.ok J m) w Z4 h5 h2 h3 (fun w1 A h=> ?_) (hH.perm (hp.append_right R))
  exact(ih (n+1) (je .l m f) Z1 (A++R) _ _ _ w1 (hd.mono (Le.zz fun x hx=>bB _ hx)) hi.2 hz1 (hf.tick _ m) J (h.perm (hp1.append_right _))).get
theorem awk{K:Vu}{d:Wr}{e l j:Value}(h:z8 TX K d e l j):apT Tryz.prog j:=by
 cases d with
 |base p tb=>obtain⟨B1,B2,rfl,rfl,rfl,-⟩:=h;exact⟨_,_,rfl,call141⟩
 |wrap m d=>obtain⟨b2,b3,b5,e',l',j',rfl,rfl,rfl,-⟩:=h;exact⟨_,_,rfl,call66⟩
theorem ah2(W0:World)(ids:List Nat)(tl:List (Nat×Rl))(hT:oq W0)(a b:El)(d:Wr):∀(n:Nat) (f:Ct) (Z R:List a8) (e l j:Value) (w:World),z8 TX (Kz (Kw W0) R) d e l j->d.DP ids tl->j5 (Ae fr) ids f tl Z->D3 n f->n+d.dep<=1000000000000->Hp W0 w (Z++R)->
  yN Tryz.prog j [.agg (iU a),.agg (iU b)] w (jF fun x w'=>x= .agg (iU (oc d.tb a b))/\∃Z',j5 (Ae fr) ids (d.tick .j f) tl Z'/\Hp W0 w' (Z'++R)):=by
 induction d with
 |base p tb=>
  intro n f Z R e l j w hO hi hZ hf hn hH
  obtain⟨B1,B2,rfl,rfl,rfl,h4,h5,h6⟩:=hO
  have hk:=hH.kz (Le.refl _) (Z:=R) fun x hx=>bB _ hx
  refine⟨_,[pt B2],rfl,call141,?_⟩
  obtain⟨Zt,hzt,rfl⟩:=hZ
  refine(Hw W0 B2 tb tl Zt ((ids.map (fun m=>rD TX m (f m))++fr)++R) a b w hT hi.2 (Le.zz (fun x hx=>bB _ hx) _ _ h6) hzt (hH.perm (by rw[dg];exact vh _ _ _))).mono fun x w' hx=>jF.mono (fun y w2 hy=>⟨hy.1,?_⟩) hx
  obtain⟨-,Z',hz',h'⟩:=hy
  exact⟨_,⟨Z',hz',rfl⟩,h'.perm (by rw[dg (_++_) Z' R];exact vh _ _ _)⟩
 |wrap m d ih=>
  intro n f Z R e l j w hO hi hZ hf hn hH
  obtain⟨b2,b3,b5,e',l',j',rfl,rfl,rfl,h5,h2,h3,hd⟩:=hO
  obtain⟨fe,ce,he,Z4⟩:=awk hd
  subst he
  obtain⟨Y,hp,hq⟩:=hZ.pick hi.1 hH
  obtain⟨Z1,hz1,hp1⟩:=hq (Kd.j.up (f m))
  have hn':n+(d.dep+1)<=1000000000000:=hn
  refine⟨_,[pt b5,pt b3],rfl,call66,?_⟩
  refine BT W0 b5 b3 b2 m (f m) fe ce _ _ a b (oc d.tb a b) Y R (fun Z'=>j5 (Ae fr) ids (d.tick .j (je .j m f)) tl Z') (hf.ok J m) w Z4 h5 h2 h3 (fun w1 A h=> ?_) (hH.perm (hp.append_right R))
  exact(ih (n+1) (je .j m f) Z1 (A++R) _ _ _ w1 (hd.mono (Le.zz fun x hx=>bB _ hx)) hi.2 hz1 (hf.tick _ m) J (h.perm (hp1.append_right _))).get
end
end
end Go.Proofs.YtlhjdflgjbkpmaaGreatDoor.W

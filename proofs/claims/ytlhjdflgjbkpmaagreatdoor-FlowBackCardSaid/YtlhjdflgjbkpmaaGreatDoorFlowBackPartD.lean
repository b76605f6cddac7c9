/- Part 4 of the proof of FlowBack: its plain laws and the walks of its functions. -/
import Derived.Test.YtlhjdflgjbkpmaaGreatDoorFlowBackPartC
set_option linter.all false
namespace Go.Proofs.YtlhjdflgjbkpmaaGreatDoor.W
section
open Go Go.RowKit Go.Proofs.YtlhjdflgjbkpmaaGreatDoor.E Go.Proofs.YtlhjdflgjbkpmaaGreatDoor.M
set_option maxRecDepth 100000
open Go.Proofs.Tryz
theorem qA:∀w,(zeroValue 86).run Tryz.prog w= .ok (.agg (dM Rl.none)) w:=fun w=>by
 rw[iR];exact Tryz.zeroValue86 w
theorem ye(a:Int):Tryz.prog.built 86 [(0,I a)]=some (dM ⟨a,fun _=>0#64⟩):=by
 rw[iR];rfl
theorem IC:Tryz.prog.fieldsOf 86=#[{name:= "N",type:=3,offset:=0,embedded:=false,tag:= "",pkgPath:= "",byteOffset:=0},{name:= "Up",type:=84,offset:=1,embedded:=false,tag:= "",pkgPath:= "",byteOffset:=8}]:=by
 unfold Program.fieldsOf;rw[bQ]
theorem HK:ali Tryz.prog 86 {name:= "N",type:=3,offset:=0,embedded:=false,tag:= "",pkgPath:= "",byteOffset:=0} {name:= "Up",type:=84,offset:=1,embedded:=false,tag:= "",pkgPath:= "",byteOffset:=8} 35:=
 ⟨by rw[IC];exact bQ,IC,aD,aD,rfl,rfl,bx,Tryz.isAgg3,rf,Tryz.isAgg84,s6,dW,c8,Tryz.isAgg35,aM,aM⟩
theorem B3:ElT Tryz.prog 37 35:=⟨cI,dW,c8,Tryz.isAgg35,aM⟩
theorem jH:∀w,(zeroValue 37).run Tryz.prog w= .ok (.agg (jg dy)) w:=fun w=>by
 rw[afR];exact Tryz.zeroValue37 w
theorem vb:∀w,(zeroValue 88).run Tryz.prog w= .ok (.agg (tX kF)) w:=fun w=>Tryz.zeroValue88 w
theorem MG:Tryz.prog.built 86 []=some (dM Rl.none):=by
 rw[iR];rfl
theorem YL{v:Value}(h:v.cells=#[v]):Tryz.prog.built 56 [(1,v)]=some #[B false,v]:=
 (show Tryz.prog.built 56 [(1,v)]=Instr.fill (#[(0,1),(1,1)][·]?) #[B false,.slice none 0 0] [(1,v)]from O).trans (by simp only[Instr.fill,h];rfl)
theorem YM:Tryz.prog.built 56 [(0,B true)]=some #[B true,.slice none 0 0]:=rfl
theorem adb(k:Int)(b n:Nat)(l:List Tx):Tryz.prog.built 88 [(0,I k),(1,.slice (some ⟨b,0,none⟩) n n)]=some (tX ⟨k,.slice (some ⟨b,0,none⟩) n n,l,Rl.none⟩):=rfl
theorem PM(a:BitVec 64):Tryz.prog.built 37 [(0,U a)]=some (jg (Av dy 0 a)):=by
 rw[hG];rfl
theorem yf:Tryz.prog.built 37 []=some (jg dy):=by
 rw[hG];rfl
theorem Vh:∀w,(zeroValue 58).run Tryz.prog w= .ok (.agg (LI nj).toArray) w:=fun w=>Tryz.zeroValue58 w
theorem B4:∀w,(zeroValue 90).run Tryz.prog w= .ok (.agg (kg cA).toArray) w:=fun w=>(Tryz.zeroValue90 w).trans aM
theorem YN:∀w,(zeroValue 143).run Tryz.prog w= .ok (.agg (tj mJ).toArray) w:=fun w=>(Tryz.zeroValue143 w).trans aM
theorem aiK:∀w,(zeroValue 44).run Tryz.prog w= .ok (.agg (Ay gz).toArray) w:=fun w=>(Tryz.zeroValue44 w).trans aM
theorem ade(r:Rl):Tryz.prog.built 212 [(0,.agg (dM r))]=some (kZ r 0 0 (.slice none 0 0) (.slice none 0 0)).toArray:=by
 rw[iR];kernel_rfl
abbrev TX:NT:=(⟨95,97,141,59,62,64,66,56,199,139,72,117,135,212,[]⟩:NT)
abbrev AH(fr:List a8):NT:=(⟨95,97,141,59,62,64,66,56,199,139,72,117,135,212,fr⟩:NT)
theorem adf(f g k:FuncId)(a b c:Array Value):Tryz.prog.built 117 [(0,jF f a),(1,jF g b),(2,jF k c)]=some #[jF f a,jF g b,jF k c]:=rfl
theorem Vi:∀w,(zeroValue 117).run Tryz.prog w= .ok (.agg #[.nilFunc,.nilFunc,.nilFunc]) w:=fun w=>Tryz.zeroValue117 w
variable{fr:List a8}
theorem R7(n:Int)(w:World):Calls Tryz.prog 238 #[I n] w (Pure (B (yO n)) w):=by
 refine eH func238 rfl rfl fun hH=>SR<|va (v:=B false) rfl<|aa<|SR<|mI rfl<|V (dA O O)<|mB rfl<|bN 5 O (fun h2=> ?_) (fun h2=> ?_)
 .refine mI rfl<|V (yM O O)<|mB rfl<|aB rfl<|aa<|aj<|oB O ?_ hH
  (simp[yO];omega)
 refine aE (v:=B false) rfl<|aB rfl<|aa<|aj<|oB O ?_ hH
 (simp[yO];omega)
theorem n7(n:Int)(w:World):Calls Tryz.prog 179 #[I n] w (Pure (U (below n)) w):=by
 refine eH func179 rfl rfl fun hH=>SR<|va (v:=U 0#64) rfl<|aa<|ah<|SR<|mI rfl<|V (yM O O)<|aa<|aF O (fun h2=> ?_) (fun h2=> ?_)
 .refine SR<|va (v:=U 0#64) rfl<|aa<|aj<|E7 O (aK U (Q3 aR).symm) hH.below
 refine ak<|ah<|SR<|mI rfl<|V (dA O O)<|aa<|aF O (fun h4=> ?_) (fun h4=> ?_)
 .refine SR<|va (v:=U 18446744073709551615#64) rfl<|aa<|aj<|E7 O (aK U (aby aR).symm) hH.below
 refine ak<|SR<|mI rfl<|V (jW bx Be O)<|V (E5 (a:=1#64) O O)<|V (Tf O (b:=1#64) O)<|aU rfl<|aa<|aj<|E7 O (aK U (abz aR aR).symm) hH.below
theorem R8(n:Int)(s:BitVec 64)(w:World):Calls Tryz.prog 212 #[I n,U s] w (Pure (.tuple #[I (level n s).1,B (level n s).2]) w):=by
 refine eH func212 rfl rfl fun hH=>SR<|va (v:=I 0) rfl<|va (v:=B false) rfl<|aa<|ah<|SR<|mI rfl<|aG O hH (R7 _ _) (aq call238 O)<|fun w1 aW=>V (bO O)<|aa<|bY O (fun h5=> ?_) (fun h5=> ?_)
 .refine SR<|va (v:=I 0) rfl<|va (v:=B false) rfl<|aa<|aj<|have hn:=ak7 ‹(!yO n)=true›;?_
  refine kG O (aK I ?_) (aK B ?_) aW.below<;>rw[K1 s hn]
 refine ak<|ah<|SR<|mI rfl<|aE (v:=I 0) rfl<|aa<|aC<|have hn:=ak6 ‹(!yO n)=false›;bj (G:=Int) (fun k s' w'=>(Fr (rg 4 3 (rg 11 9 [])) _ s')/\(Hp w w' _)/\(s' 11=I k)/\(0<=k)/\(k<=n)/\(∀j:Int,0<=j->j<k->s≠below j)) (fun k=>(n-k).toNat) (0) ⟨Fr.refl _ _,aW,rfl,J,J,fun j a b=>absurd b J⟩<| ?_
 rintro k sg6 w6 ⟨MH,gT,MI,h0,hk,hf⟩
 obtain⟨Ob,aiL⟩:=MH.w2 1 10
 refine SR<|V (aL MI aiL)<|aa<|ah<|aF O (fun h8=> ?_) (fun h8=> ?_)
 .refine ak<|ah<|aC<|SR<|aE MI<|aI rfl<|aa<|SR<|aE Ob<|mI rfl<|aG O gT (n7 _ _) (aq GG O)<|fun w9 bW=>V (js O O)<|aa<|aF O (fun h12=> ?_) (fun h12=> ?_)
  .refine SR<|mI rfl<|aI rfl<|va (v:=B true) rfl<|aa<|aj<| ?_
   refine kG O (aK I ?_) (aK B ?_) bW.below<;>rw[K2 hn h0 J aR hf]
  refine ak<|ax<|V (ay MI O J)<|mI rfl<|aa<| ?_
  refine⟨k+1,aZ,MH.u4.u4.u1,bW,(aK I aN),J,J,?_⟩
  exact fun j a b=>if e:j=k then e▸‹¬s=below k›else hf j a J
 refine a7 (id:=0) rfl<|SR<|va (v:=I 0) rfl<|va (v:=B false) rfl<|aa<|aj<| ?_
 refine kG O (aK I ?_) (aK B ?_) gT.below<;>rw[Eh hn (fun j a b=>hf j a J)]
theorem PN(i:Int)(w:World):Calls Tryz.prog 250 #[I i] w (Pure (B (yP i)) w):=by
 refine eH func250 rfl rfl fun hH=>SR<|va (v:=B false) rfl<|aa<|SR<|mI rfl<|V (dA O O)<|mB rfl<|bN 5 O (fun h2=> ?_) (fun h2=> ?_)
 .refine mI rfl<|V (aL O O)<|mB rfl<|aB rfl<|aa<|aj<|oB O ?_ hH
  (simp[yP];try omega)
 refine aE (v:=B false) rfl<|aB rfl<|aa<|aj<|oB O ?_ hH
 (simp[yP];try omega)
theorem YO(s:BitVec 64)(i:Int)(w:World):Calls Tryz.prog 232 #[U s,I i] w (Pure (B (hasB s i)) w):=by
 refine eH func232 rfl rfl fun hH=>SR<|va (v:=B false) rfl<|aa<|SR<|mI rfl<|aG O hH (PN _ _) (aq call250 O)<|fun w1 aW=>mB rfl<|gm 7 O (fun h4=> ?_) (fun h4=> ?_)
 .refine mU rfl<|mI rfl<|V (jW bx Be O)<|V (E6 O O)<|V (mq O (b:=1#64) O)<|V (js O (b:=1#64) O)<|mB rfl<|aB rfl<|aa<|aj<|oB O ?_ aW
  exact ak9 s ‹yP i=true›
 refine aE (v:=B false) rfl<|aB rfl<|aa<|aj<|oB O ?_ aW
 exact(Xx s ‹yP i=false›).symm
theorem B5(s:BitVec 64)(i:Int)(w:World):Calls Tryz.prog 231 #[U s,I i] w (Pure (U (uE s i)) w):=by
 refine eH func231 rfl rfl fun hH=>SR<|va (v:=U 0#64) rfl<|aa<|ah<|SR<|mI rfl<|aG O hH (PN _ _) (aq call250 O)<|fun w1 aW=>V (bO O)<|aa<|bY O (fun h5=> ?_) (fun h5=> ?_)
 .refine SR<|mU rfl<|aU rfl<|aa<|aj<|oU O ?_ aW
  simp_all [uE]
 refine ak<|SR<|mU rfl<|mI rfl<|V (jW bx Be O)<|V (E5 (a:=1#64) O O)<|V (jC O O)<|aU rfl<|aa<|aj<|oU O ?_ aW
 simp_all [uE]
theorem EM(a b:BitVec 64)(w:World):Calls Tryz.prog 140 #[U a,U b] w (Pure (B (dV a b)) w):=by
 refine eH func140 rfl rfl fun hH=>SR<|va (v:=B false) rfl<|aa<|SR<|mU rfl<|mU rfl<|V (Tg O O)<|V (js O (b:=0#64) O)<|aB rfl<|aa<|aj<|oB O ?_ hH
 rfl
theorem yg(v:Value)(l:List Int)(w:World)(hs:Sl w v 1 l.length (l.map I)):Calls Tryz.prog 203 #[v] w (Pure (U (kH l)) w):=by
 have hm:=hs.small
 unfold maxLen at hm
 refine eH func203 rfl rfl fun hH=>SR<|va (v:=U 0#64) rfl<|aa<|SR<|va (v:=U 0#64) rfl<|aa<|ah<|SR<| ?_
 refine V (run_move bG) ?_
 refine V (aA (hs.hp hH) O bg O)<|aE (v:=I 0) rfl<|aa<|aC<|bj (G:=Int) (fun k s' w'=>(Fr (3::(5::(rg 8 8 []))) _ s')/\(Hp w w' _)/\(s' 3=U (kH (l.take k.toNat)))/\(s' 8=I k)/\(0<=k)/\(k<=l.length)) (fun k=>(l.length-k).toNat) (0) ⟨Fr.refl _ _,hH,(aK U (by simp[ZH])),rfl,J,J⟩<| ?_
 rintro k sg1 w1 ⟨tR,iL,rR,Oc,h0,hk⟩
 obtain⟨Od,Vj⟩:=tR.w2 6 7
 refine SR<|V (aL Oc Vj)<|aa<|ah<|aF O (fun h3=> ?_) (fun h3=> ?_)
 .refine ak<|ah<|aC<|SR<|V (ag (hs.hp iL) bg bz Od Oc J)<|V (au bx O O ((hs.hp iL).cell _ _ (dZ J)))<|aI rfl<|aa<|ax<|aE rR<|mI rfl<|aG O iL (B5 _ _ _) (aJ call231 O O)<|fun w4 bU=>aU rfl<|aa<|ax<|V (ay Oc O J)<|mI rfl<|aa<| ?_
  refine⟨k+1,aZ,tR.u4.u4.u1.u1,bU,(aK U (by rw[abA,<-OC h0 aR])),(aK I aN),J,J⟩
 refine a7 (id:=0) rfl<|SR<|aE rR<|aU rfl<|aa<|aj<|oU O ?_ iL
 rw[K4 aR]
theorem sN(s:BitVec 64)(i:Int)(w:World):Calls Tryz.prog 102 #[U s,I i] w (Pure (B (hasB s i)) w):=by
 refine eH func102 rfl rfl fun hH=>SR<|va (v:=B false) rfl<|aa<|ah<|SR<|mI rfl<|V (aL O O)<|mB rfl<|bN 8 O (fun h2=> ?_) (fun h2=> ?_)
 .refine aE (v:=B true) rfl<|aa<|cB rfl<|SR<|va (v:=B false) rfl<|aa<|aj<|oB O ?_ hH
  exact(Xx s (by simp[yP];omega)).symm
 refine mI rfl<|V (dz O O)<|mB rfl<|aa<|aF O (fun h4=> ?_) (fun h4=> ?_)
 .refine SR<|va (v:=B false) rfl<|aa<|aj<|oB O ?_ hH
  exact(Xx s (by simp[yP];omega)).symm
 refine ak<|ah<|SR<|va (v:=I 0) rfl<|aa<|aC<|bj (G:=Int) (fun k s' w'=>(Fr (0::(5::(rg 12 7 []))) _ s')/\(Hp w w' _)/\(s' 0=U (s>>>k.toNat))/\(s' 5=I k)/\(0<=k)/\(k<=i)) (fun k=>(i-k).toNat) (0) ⟨Fr.refl _ _,hH,(aK U az),rfl,J,J⟩<| ?_
 rintro k sg5 w5 ⟨fr5,bU,YP,adh,h0,hk⟩
 have asJ:=fr5.w1 1
 refine ah<|SR<|aE adh<|aE asJ<|V (aL O O)<|aa<|aF O (fun h7=> ?_) (fun h7=> ?_)
 .refine ak<|ah<|aC<|ax<|aE YP<|V (KP O (b:=2#64) O aD)<|aU rfl<|aa<|ax<|aE adh<|V (ay O O J)<|aI rfl<|aa<| ?_
  refine⟨k+1,aZ,fr5.u4.u4.u1,bU,(aK U Xd),(aK I aN),J,J⟩
 refine a7 (id:=0) rfl<|SR<|aE YP<|V (KQ O (b:=2#64) O aD)<|V (js O (b:=1#64) O)<|aB rfl<|aa<|aj<|oB O ?_ bU
 (rw[hasB,show yP i=true by simp[yP];omega,show k=i by omega];rw[gG];simp only[ep,lU];exact Js s _)
theorem ir(v:Value)(l:List Int)(w:World)(hs:Sl w v 1 l.length (l.map I)):Calls Tryz.prog 154 #[v] w (Pure (U (kH l)) w):=by
 have hm:=hs.small
 unfold maxLen at hm
 refine eH func154 rfl rfl fun hH=>SR<|va (v:=U 0#64) rfl<|aa<|SR<|va (v:=U 0#64) rfl<|va (v:=U 1#64) rfl<|aa<|ah<|SR<|va (v:=I 0) rfl<|aa<|aC<|bj (G:=Int) (fun i s' w'=>(Fr (rg 3 25 []) _ s')/\(Hp w w' _)/\(s' 3=U (zY l i.toNat))/\(s' 4=U (1#64<<<i.toNat))/\(s' 5=I i)/\(0<=i)/\(i<=64)) (fun i=>(64-i).toNat) (0) ⟨Fr.refl _ _,hH,(aK U aN),(aK U aN),rfl,J,J⟩<| ?_
 rintro i sg1 w1 ⟨tR,iL,rR,zw,MJ,i0,i1⟩
 obtain⟨lO,aiM⟩:=tR.w2 0 2
 refine ah<|SR<|aE MJ<|V (aL O O)<|aa<|aF O (fun h3=> ?_) (fun h3=> ?_)
 .refine ak<|ah<|aC<|ah<|SR<|va (v:=I 0) rfl<|aa<|aC<|bj (G:=Int) (fun k s' w'=>(Fr (3::(6::(rg 11 15 []))) _ s')/\(Hp w w' _)/\(s' 3=U (zY l i.toNat))/\(s' 6=I k)/\(0<=k)/\(k<=l.length)/\(∀j:Int,0<=j->j<k->l.getD j.toNat 0≠i)) (fun k=>(l.length-k).toNat) (0) ⟨Fr.refl _ _,iL,rR,rfl,J,J,fun j a b=>absurd b J⟩<| ?_
  rintro k sg4 w4 ⟨B6,gE,yh,EN,k0,k1,hf⟩
  obtain⟨adi,Vk,FR⟩:=B6.t3 0 lO 4 zw 5 MJ
  refine ah<|SR<|aE EN<|aE adi<|V (aA (hs.hp gE) O bg O)<|V (aL O O)<|aa<|aF O (fun h6=> ?_) (fun h6=> ?_)
  .refine ak<|ah<|aC<|SR<|aE adi<|aE EN<|V (ag (hs.hp gE) bg bz O O J)<|V (au bx O O ((hs.hp gE).cell _ _ (dZ J)))<|aE FR<|V (bX O O)<|aa<|aF O (fun h8=> ?_) (fun h8=> ?_)
   .refine SR<|aE yh<|aE Vk<|V (aeR O O)<|aU rfl<|aa<|a7 (id:=2) rfl<|ax<|aE Vk<|V (KO O (b:=2#64) O)<|aU rfl<|aa<|ax<|aE FR<|V (ay O O J)<|aI rfl<|aa<| ?_
    refine⟨i+1,aZ,(((tR.u1.u1.u1).t B6 O)).u4.u4.u4.u4.u4,gE,(aK U (Xy i0 J k0 J aR)),(aK U aeB),(aK I aN),J,J⟩
   refine ak<|ax<|aE EN<|V (ay O O J)<|aI rfl<|aa<| ?_
   refine⟨k+1,aZ,B6.u4.u4.u4.u1,gE,yh,(aK I aN),J,J,?_⟩
   exact fun j a b=>if e:j=k then e▸‹¬l.getD k.toNat 0=i›else hf j a J
  refine a7 (id:=2) rfl<|ax<|aE Vk<|V (KO O (b:=2#64) O)<|aU rfl<|aa<|ax<|aE FR<|V (ay O O J)<|aI rfl<|aa<| ?_
  refine⟨i+1,aZ,(((tR.u1.u1.u1).t B6 O)).u4.u4.u1.u1,gE,(jA yh (aK U (abD i0 (fun j a b=>hf j a J)))),(aK U aeB),(aK I aN),J,J⟩
 refine a7 (id:=0) rfl<|SR<|aE rR<|aU rfl<|aa<|aj<|oU O ?_ iL
 (rw[show i.toNat=64 by omega];rfl)
theorem AI(s:BitVec 64)(w:World):Calls Tryz.prog 101 #[U s] w (rV 3 1 (gf s).length ((gf s).map I) w):=by
 refine eH func101 rfl rfl fun hH=>SR<|va (v:= .slice none 0 0) rfl<|have iL:=hH.fD 3 1;aa<|SR<|va (v:= .slice none 0 0) rfl<|have aW:=iL.fD 3 1;aa<|ah<|SR<|va (v:=I 0) rfl<|aa<|aC<|bj (G:=Int×(List Int)×Value) (fun⟨k,l,v3⟩ s' w'=>(Fr (0::(rg 3 15 [])) _ s')/\(Hp w w' (.row v3 3 1 (l.length) (l.map I)::_))/\(s' 0=U (s>>>k.toNat))/\(s' 3=v3)/\(s' 4=I k)/\(0<=k)/\(k<=64)/\(l=r8 s k.toNat)) (fun⟨k,l,v3⟩=>(64-k).toNat) ((0,[],(.slice none 0 0:Value))) ⟨Fr.refl _ _,aW,(aK U az),rfl,rfl,J,J,rfl⟩<| ?_
 rintro⟨k,l,v3⟩ sg3 w3 ⟨fr3,rY,AJ,asK,anm,h0,hk,hl⟩
 refine ah<|SR<|aE anm<|V (aL O O)<|aa<|aF O (fun h5=> ?_) (fun h5=> ?_)
 .refine ak<|ah<|aC<|ah<|SR<|aE AJ<|V (KQ O (b:=2#64) O aD)<|V (js O (b:=1#64) O)<|aa<|aF O (fun h7=> ?_) (fun h7=> ?_)
  .refine ax<|aE asK<|aE anm<|yd 1 1 rY (ct bg O O (sz:=1) (vs:=[I _]) O O aD aD O O)<|fun b10 w8 iB=> ?_
   (try simp only[oX]at iB)
   refine jX O iB (i:=1) O (iB.dQ (i:=0) (n:=1) (sz:=1) O O aD) O O bg O O (size:=1) (bytes:=8) O O O aD kq (by have:=G0 s k.toNat;rw[<-hl]at this;omega) (by have:=G0 s k.toNat;rw[<-hl]at this;simp only[maxLen];omega)<|fun v11 B7 cm=> ?_
   refine V (run_assign bG) ?_
   refine aa<|ax<|aE AJ<|V (KP O (b:=2#64) O aD)<|aU rfl<|aa<|ax<|aE anm<|V (ay O O J)<|aI rfl<|aa<| ?_
   refine⟨(k+1,l++[k],v11),aZ,fr3.u4.u4.u4.u4,(Hp.conv (cm.sub (sQ sR)) az),(aK U Xd),rfl,(aK I aN),J,J,?_⟩
   rw[hl,abE h0 aR]
  refine ak<|ax<|aE AJ<|V (KP O (b:=2#64) O aD)<|aU rfl<|aa<|ax<|aE anm<|V (ay O O J)<|aI rfl<|aa<| ?_
  refine⟨(k+1,l,v3),aZ,fr3.u4.u4.u1.u1.u1,(Hp.conv rY aN),(aK U Xd),asK,(aK I aN),J,J,?_⟩
  rw[hl,ae5 h0 aR]
 refine a7 (id:=0) rfl<|SR<|aE asK<| ?_
 refine V (run_assign bG) ?_
 refine aa<|aj<|N1 O O rY (i:=0) O (by rw[hl,OD aR hk]) (by rw[hl,OD aR hk])
theorem qB(n:Int)(w:World):Calls Tryz.prog 119 #[I n] w (Pure (U (below n)) w):=by
 refine eH func119 rfl rfl fun hH=>SR<|va (v:=U 0#64) rfl<|aa<|SR<|va (v:= .slice none 0 0) rfl<|have iL:=hH.fD 3 1;aa<|ah<|SR<|va (v:=I 0) rfl<|aa<|aC<|bj (G:=Int×(List Int)×Value) (fun⟨k,l,v3⟩ s' w'=>(Fr (rg 3 15 []) _ s')/\(Hp w w' (.row v3 3 1 (l.length) (l.map I)::_))/\(s' 3=v3)/\(s' 4=I k)/\(0<=k)/\(k<=64)/\(k<=max n 0)/\(l=upto k)) (fun⟨k,l,v3⟩=>(64-k).toNat) ((0,[],(.slice none 0 0:Value))) ⟨Fr.refl _ _,iL,rfl,rfl,J,J,J,rfl⟩<| ?_
 rintro⟨k,l,v3⟩ sg2 w2 ⟨TY,aW,Vl,ann,h0,hk,hn,hl⟩
 have aEN:=TY.w1 0
 refine ah<|SR<|aE ann<|aE aEN<|V (aL O O)<|mB rfl<|bN 8 O (fun h4=> ?_) (fun h4=> ?_)
 .refine aE ann<|V (aL O O)<|mB rfl<|aa<|aF O (fun h6=> ?_) (fun h6=> ?_)
  .refine ak<|ah<|aC<|ax<|aE Vl<|aE ann<|yd 1 1 aW (ct bg O O (sz:=1) (vs:=[I _]) O O aD aD O O)<|fun b9 w7 fq=> ?_
   (try simp only[oX]at fq)
   refine jX O fq (i:=1) O (fq.dQ (i:=0) (n:=1) (sz:=1) O O aD) O O bg O O (size:=1) (bytes:=8) O O O aD kq (by have:= @r9 k;rw[<-hl]at this;omega) (by have:= @r9 k;rw[<-hl]at this;simp only[maxLen];omega)<|fun v10 ID cK=> ?_
   refine V (run_assign bG) ?_
   refine aa<|ax<|aE ann<|V (ay O O J)<|aI rfl<|aa<| ?_
   refine⟨(k+1,l++[k],v10),aZ,TY.u4.u4.u4.u1.u1.u1,(Hp.conv (cK.sub (sQ sR)) az),rfl,(aK I aN),J,J,J,?_⟩
   rw[hl,kC h0]
  refine a7 (id:=0) rfl<|SR<|aE Vl<|aG O aW (ir _ _ _ (aW.sl (i:=0) O)) (aq GH O)<|fun C7 cF=>aU rfl<|aa<|aj<|oU O ?_ cF
  exact Fa fun i a b=>by rw[hl,cM];omega
 refine aE (v:=B false) rfl<|aa<|dh rfl<|a7 (id:=0) rfl<|SR<|aE Vl<|aG O aW (ir _ _ _ (aW.sl (i:=0) O)) (aq GH O)<|fun Wg cG=>aU rfl<|aa<|aj<|oU O ?_ cG
 exact Fa fun i a b=>by rw[hl,cM];omega
theorem R9(n:Int)(s:BitVec 64)(w:World):Calls Tryz.prog 178 #[I n,U s] w (Pure (B (level n s).2) w):=by
 refine eH func178 rfl rfl fun hH=>SR<|va (v:=B false) rfl<|aa<|SR<|mI rfl<|mU rfl<|aG O hH (R8 _ _ _) (aJ call212 O O)<|fun w1 aW=> ?_
 refine V (run_move bG) ?_
 refine V (bA O (v:=I _) O)<|V (bA O (v:=B _) O)<|aI rfl<|aB rfl<|aa<|SR<|mB rfl<|aB rfl<|aa<|aj<|oB O ?_ aW
 rfl
theorem AL(n k:Int)(w:World):Calls Tryz.prog 185 #[I n,I k] w (Pure (.tuple #[U (uD n k).1,B (uD n k).2]) w):=by
 refine eH func185 rfl rfl fun hH=>SR<|va (v:=U 0#64) rfl<|va (v:=B false) rfl<|aa<|ah<|SR<|mI rfl<|V (aL O O)<|mB rfl<|bN 8 O (fun h2=> ?_) (fun h2=> ?_)
 .refine aE (v:=B true) rfl<|mB rfl<|cC O rfl<|aE (v:=B true) rfl<|mB rfl<|cC O rfl<|aE (v:=B true) rfl<|aa<|cB rfl<|SR<|va (v:=U 0#64) rfl<|va (v:=B false) rfl<|aa<|aj<| ?_
  refine kG O (aK U ?_) (aK B ?_) hH.below<;>rw[Bz J]
 refine mI rfl<|V (dz O O)<|mB rfl<|mB rfl<|bN 12 O (fun h4=> ?_) (fun h4=> ?_)
 .refine aE (v:=B true) rfl<|mB rfl<|cC O rfl<|aE (v:=B true) rfl<|aa<|cB rfl<|SR<|va (v:=U 0#64) rfl<|va (v:=B false) rfl<|aa<|aj<| ?_
  refine kG O (aK U ?_) (aK B ?_) hH.below<;>rw[Bz J]
 refine mI rfl<|V (aL O O)<|mB rfl<|mB rfl<|bN 16 O (fun h6=> ?_) (fun h6=> ?_)
 .refine aE (v:=B true) rfl<|aa<|cB rfl<|SR<|va (v:=U 0#64) rfl<|va (v:=B false) rfl<|aa<|aj<| ?_
  refine kG O (aK U ?_) (aK B ?_) hH.below<;>rw[Bz J]
 refine mI rfl<|mI rfl<|V (dA O O)<|mB rfl<|aa<|aF O (fun h8=> ?_) (fun h8=> ?_)
 .refine SR<|va (v:=U 0#64) rfl<|va (v:=B false) rfl<|aa<|aj<| ?_
  refine kG O (aK U ?_) (aK B ?_) hH.below<;>rw[Bz J]
 refine ak<|SR<|mI rfl<|aG O hH (qB _ _) (aq call119 O)<|fun w9 bW=>aU rfl<|va (v:=B true) rfl<|aa<|aj<| ?_
 refine kG O (aK U ?_) (aK B ?_) bW.below<;>rw[ug J]
theorem zx(n:Int)(s:BitVec 64)(w:World):Calls Tryz.prog 152 #[I n,U s] w (Pure (.tuple #[I (level n s).1,B (level n s).2]) w):=by
 refine eH func152 rfl rfl fun hH=>SR<|va (v:=I 0) rfl<|va (v:=B false) rfl<|aa<|ah<|SR<|va (v:=I 0) rfl<|aa<|aC<|bj (G:=Int) (fun k s' w'=>(Fr (rg 4 27 []) _ s')/\(Hp w w' _)/\(s' 6=I k)/\(0<=k)/\(k<=n\/k=0)/\(k<=64)/\(n<=64->∀j:Int,0<=j->j<k->s≠below j)) (fun k=>(64-k).toNat) (0) ⟨Fr.refl _ _,hH,rfl,J,J,J,fun _ j a b=>absurd b J⟩<| ?_
 rintro k sg1 w1 ⟨tR,iL,Od,h0,hk,h6,hf⟩
 obtain⟨lO,zy⟩:=tR.w2 0 1
 refine ah<|SR<|aE Od<|aE lO<|V (aL O O)<|mB rfl<|bN 12 O (fun h3=> ?_) (fun h3=> ?_)
 .refine aE Od<|V (aL O O)<|mB rfl<|aa<|aF O (fun h5=> ?_) (fun h5=> ?_)
  .refine ak<|ah<|aC<|SR<|aE lO<|aE Od<|aG O iL (AL _ _ _) (aJ call185 O O)<|fun w6 eD=> ?_
   refine V (run_move bG) ?_
   refine V (bA O (v:=U _) O)<|V (bA O (v:=B _) O)<|aU rfl<|aB rfl<|aa<|SR<|mB rfl<|mB rfl<|gm 25 O (fun h9=> ?_) (fun h9=> ?_)
   .refine mU rfl<|aE zy<|V (js O O)<|mB rfl<|aa<|aF O (fun h11=> ?_) (fun h11=> ?_)
    .refine SR<|aE Od<|aI rfl<|va (v:=B true) rfl<|aa<|aj<| ?_
     refine kG O (aK I ?_) (aK B ?_) eD.below<;>rw[abF h0 aR hf aR]
    refine ak<|ax<|aE Od<|V (ay O O J)<|aI rfl<|aa<| ?_
    refine⟨k+1,aZ,tR.u4.u4.u4.u4.u4.u4,eD,(aK I aN),J,J,J,?_⟩
    exact Tl h0 aR aR hf
   refine aE (v:=B false) rfl<|aa<|dh rfl<|ak<|ax<|aE Od<|V (ay O O J)<|aI rfl<|aa<| ?_
   refine⟨k+1,aZ,tR.u4.u4.u4.u4.u4.u4,eD,(aK I aN),J,J,J,?_⟩
   exact Tm h0 aR hf aR
  refine a7 (id:=0) rfl<|SR<|va (v:=I 0) rfl<|va (v:=B false) rfl<|aa<|aj<| ?_
  refine kG O (aK I ?_) (aK B ?_) iL.below<;>rw[Dm h0 hk h6 hf J]
 refine aE (v:=B false) rfl<|aa<|dh rfl<|a7 (id:=0) rfl<|SR<|va (v:=I 0) rfl<|va (v:=B false) rfl<|aa<|aj<| ?_
 refine kG O (aK I ?_) (aK B ?_) iL.below<;>rw[Dm h0 hk h6 hf J]
theorem zA(s:BitVec 64)(w:World)(hT:oh w):Calls Tryz.prog 258 #[U s] w (Pure (I (tz s)) w):=by
 refine eH func258 rfl rfl fun hH=>SR<|va (v:=I 0) rfl<|aa<|ah<|SR<|mU rfl<|V (js O (b:=0#64) O)<|aa<|aF O (fun h2=> ?_) (fun h2=> ?_)
 .refine SR<|va (v:=I 64) rfl<|aa<|aj<|oI O ?_ hH
  rw[‹s=0#64›];rfl
 refine ak<|SR<|mU rfl<|mU rfl<|V (aeS O)<|V (mq O O)<|V (KO O (b:=285870213051353865#64) O)<|V (E6 O (b:=58#64) O)<|V (bC underlying280 sizeOf5 O O (by exact ae8 _))<|V (au Kx O O (hT.at _))<|V (Ef Kx bx O (alf (afa _)))<|aI rfl<|aa<|aj<|oI O ?_ hH
 exact avZ aR
theorem Vm(f:FuncId)(cap:Array Value)(Inv Stop:List Int->World->Prop)(s:BitVec 64)(w:World)(hf:∀args w,(callFunc f args).run Tryz.prog w= .ok (.enter f args) w)(hm:∀l w w',Inv l w->Below w.heap.size w w'->Inv l w')(hT:∀l w,Inv l w->oh w)(go:∀l i r w,gf s=l++i::r->Inv l w->Calls Tryz.prog f (#[I i]++cap) w (iA fun u w'=>∃c:Bool,u=B c/\(c=true->Inv (l++[i]) w')/\(c=false->Stop (l++[i]) w')))(h0:Inv [] w):Calls Tryz.prog 251 #[U s,.func (.func f) #[] cap] w (iA fun u w'=>u= .tuple #[]/\(Inv (gf s) w'\/∃l i r,gf s=l++i::r/\Stop (l++[i]) w')):=by
 refine eH func251 rfl rfl fun hH=>aC<|bj (G:=(BitVec 64)×(List Int)) (fun⟨s1,l⟩ s' w'=>(Fr (0::(rg 4 11 [])) _ s')/\(Inv l w')/\(s' 0=U s1)/\(gf s=l++gf s1)) (fun⟨s1,l⟩=>(gf s1).length) ((s,[])) ⟨Fr.refl _ _,h0,rfl,az⟩<| ?_
 rintro⟨s1,l⟩ sg1 w1 ⟨tR,iL,lO,hl⟩
 have hI1:=iL
 clear iL
 have iL:=Hp.start w1
 have zy:=tR.vv 1 (a:= .func _ _ _) rfl rfl
 refine ah<|SR<|aE lO<|V (uB O (b:=0#64) O)<|aa<|aF O (fun h3=> ?_) (fun h3=> ?_)
 .refine ak<|aC<|ah<|SR<|aE zy<|aE lO<|aG O iL (zA _ _ (hT _ _ hI1)) (aq call258 O)<|fun w4 bU=>have hI:=hm _ _ _ hI1 bU.below;GU O (Xv hf O (v1:=I (tz s1)) O) (go l (tz s1) (gf (s1&&&(s1-1#64))) _ (by rw[hl,Q4 aR]) hI)<| ?_
  rintro u8 w6 ⟨c,rfl,hJ1,hJ2⟩
  have eD:=Hp.start w6
  refine V (bO O)<|aa<|bY O (fun h11=> ?_) (fun h11=> ?_)
  .refine aj<|nW O ⟨rfl,.inr ⟨l,tz s1,gf (s1&&&(s1-1#64)),by rw[hl,Q4 aR],hJ2 (by simpa using‹(!c)=true›)⟩⟩
  refine ak<|ax<|aE lO<|aE lO<|V (Tf O (b:=1#64) O)<|V (mq O O)<|aU rfl<|aa<| ?_
  refine⟨(s1&&&(s1-1#64),l++[tz s1]),?_,tR.u4.u4.u4,(hJ1 (by simpa using‹(!c)=false›)),rfl,?_⟩
  .exact Q5 aR
  rw[hl,Q4 aR];simp
 refine a7 (id:=0) rfl<|have hn:gf s1=[]:=yR.2 (by simpa using‹¬s1≠0#64›);nW O ⟨rfl,.inl (by rw[hl,hn,kV];assumption)⟩
theorem Oe(W0:World)(b:Nat)(v:Value)(l:List Int)(i:Int)(w:World)(hH:Hp W0 w [.row v 3 1 l.length (l.map I),.blk b (.cells #[v] 99 (0,0))])(hlen:l.length<=64):Calls Tryz.prog 252 #[I i,.pointer (some ⟨b,0,none⟩)] w (iA fun u w'=>u=B true/\∃v',Hp W0 w' [.row v' 3 1 (l++[i]).length ((l++[i]).map I),.blk b (.cells #[v'] 99 (0,0))]):=by
 refine en func252 rfl rfl<|SR<|va (v:=B false) rfl<|aa<|SR<|lV bg hH 1 O O rfl<|mI rfl<|yd 1 1 hH (ct bg O O (sz:=1) (vs:=[I _]) O O aD aD O O)<|fun b3 w1 aW=> ?_
 (try simp only[oX]at aW)
 refine jX O aW (i:=1) O (aW.dQ (i:=0) (n:=1) (sz:=1) O O aD) O O bg O O (size:=1) (bytes:=8) O O O aD kq J jU<|fun v4 w5 gT=> ?_
 refine bu gT (i:=2) O (bL O O bG (aS (gT.get (i:=1) O)).1 (aS (gT.get (i:=1) O)).2 (gT.blk (i:=2) O) az) ?_
 intro w7 fq
 refine aa<|SR<|va (v:=B true) rfl<|aa<|aj<|iG O O ⟨rfl,(v4:Value),Hp.conv fq.tail az⟩
theorem B8(s:BitVec 64)(w:World)(hT:oh w):Calls Tryz.prog 233 #[U s] w (rV 3 1 (gf s).length ((gf s).map I) w):=by
 refine eH func233 rfl rfl fun hH=>SR<|va (v:= .slice none 0 0) rfl<|aa<|SR<|oY hH (bf Tryz.zeroValue99)<|fun b3 w1 aW=>have gE:=aW.fD 3 1;aa<|SR<|mU rfl<| ?_
 refine V (Bw bG) ?_
 refine GU O (aJ call251 (v1:=U s) O (v2:= .func (.func 252) #[] #[.pointer (some ⟨b3,0,none⟩)]) rfl) (Vm 252 _ (fun l w'=>∃v,Hp w w' [.row v 3 1 l.length (l.map I),.blk b3 (.cells #[v] 99 (0,0))]) (fun _ _=>False) s _ call252 (fun l w' w'' h hb=>h.imp fun v h=>h.call hb) (fun l w' h=>h.elim fun v h=>hT.hp h) (fun l i r w' he h=>h.elim fun v h=>by
  have aEP:l.length<=64:=by have:=E8 s;rw[he]at this;simp at this;omega
  have hc:=Oe w b3 v l i w' h aEP
  refine iA.calls hc<|fun u w2 hq=>⟨true,hq.1,fun _=>hq.2,fun h=>ow⟩) ⟨.slice none 0 0,gE⟩) ?_
 rintro u w5 ⟨rfl,hor⟩
 obtain⟨v7,gT⟩:=hor.resolve_right (fun⟨_,_,_,_,h⟩=>h)
 refine aa<|SR<|lV bg gT 1 O O rfl<| ?_
 refine V (run_assign bG) ?_
 refine aa<|aj<|N1 O O gT (i:=0) O (O) (O)
theorem B9(a b:BitVec 64)(w:World):Calls Tryz.prog 55 #[U a,U b] w (Pure (B (dV a b)) w):=by
 have hl:=E8 a
 refine eH func55 rfl rfl fun hH=>SR<|va (v:=B false) rfl<|aa<|SR<|mU rfl<|Bt O hH (AI _ _) (aq call101 O)<|fun v3 w1 aW=> ?_
 refine V (run_assign bG) ?_
 refine aa<|ah<|SR<|va (v:=I 0) rfl<|aa<|aC<|bj (G:=Int) (fun k s' w'=>(Fr (4::(6::(rg 9 13 []))) _ s')/\(Hp w w' _)/\(s' 6=I k)/\(0<=k)/\(k<=(gf a).length)/\(∀j:Int,0<=j->j<k->hasB b ((gf a).getD j.toNat 0)=true)) (fun k=>((gf a).length-k).toNat) (0) ⟨Fr.refl _ _,aW,rfl,J,J,fun j a b=>absurd b J⟩<| ?_
 rintro k sg4 w4 ⟨B6,gE,EN,h0,hk,hf⟩
 obtain⟨zB,FR⟩:=B6.w2 1 5
 refine ah<|SR<|aE EN<|aE FR<|V (aA (gE.sl (i:=0) O) O bg O)<|V (aL O O)<|aa<|aF O (fun h6=> ?_) (fun h6=> ?_)
 .refine ak<|ah<|aC<|SR<|aE zB<|aE FR<|aE EN<|V (ag (gE.sl (i:=0) O) bg bz O O J)<|V (au bx O O ((gE.sl (i:=0) O).cell _ _ (dZ J)))<|aG O gE (sN _ _ _) (aJ call102 O O)<|fun w7 fq=>V (bO O)<|aa<|bY O (fun h11=> ?_) (fun h11=> ?_)
  .refine SR<|va (v:=B false) rfl<|aa<|aj<|oB O ?_ fq
   (exact(ale h0 aR aR).symm)
  refine ak<|ax<|aE EN<|V (ay O O J)<|aI rfl<|aa<| ?_
  refine⟨k+1,aZ,B6.u4.u4.u4.u1.u1,fq,(aK I aN),J,J,?_⟩
  exact fun j x y=>if e:j=k then e▸(by simpa using‹(!hasB b ((gf a).getD k.toNat 0))=false›)else hf j x J
 refine a7 (id:=0) rfl<|SR<|va (v:=B true) rfl<|aa<|aj<|oB O ?_ gE
 (exact(ae9 fun j x y=>hf j x J).symm)
theorem bP(r:Rl)(w:World):Calls Tryz.prog 149 #[.agg (dM r)] w (Pure (I (pts r)) w):=by
 refine eH func149 rfl rfl fun hH=>SR<|iu hH (v:= .agg _) rfl<|fun b3 w1 aW=>va (v:=I 0) rfl<|aa<|ah<|SR<|V (fA bQ 0 O bz O)<|lV bx aW 0 O O (fF _)<|V (aL O O)<|aa<|aF O (fun h5=> ?_) (fun h5=> ?_)
 .refine SR<|va (v:=I 0) rfl<|aa<|aj<|oI O ?_ aW
  (unfold pts;omega)
 refine ak<|ah<|SR<|V (fA bQ 0 O bz O)<|lV bx aW 0 O O (fF _)<|V (dz O O)<|aa<|aF O (fun h7=> ?_) (fun h7=> ?_)
 .refine SR<|va (v:=I 64) rfl<|aa<|aj<|oI O ?_ aW
  (unfold pts;omega)
 refine ak<|SR<|V (fA bQ 0 O bz O)<|lV bx aW 0 O O (fF _)<|aI rfl<|aa<|aj<|oI O ?_ aW
 (unfold pts;omega)
theorem kD(r:Rl)(w:World):Calls Tryz.prog 199 #[.agg (dM r)] w (Pure (I (pts r)) w):=by
 refine eH func199 rfl rfl fun hH=>SR<|iu hH (v:= .agg _) rfl<|fun b3 w1 aW=>va (v:=I 0) rfl<|aa<|SR<|V (fA bQ 0 O bz O)<|lV bx aW 0 O O (fF _)<|V (qk O O)<|V (Br O O)<|aI rfl<|aa<|aj<|oI O ?_ aW
 rfl
theorem bH(r:Rl)(i j:Int)(w:World):Calls Tryz.prog 150 #[.agg (dM r),I i,I j] w (Pure (B (bI r i j)) w):=by
 have hp:=dB r
 refine eH func150 rfl rfl fun hH=>SR<|iu hH (v:= .agg _) rfl<|fun b3 w1 aW=>va (v:=B false) rfl<|aa<|SR<|V (aO bQ O O O (aW.blk (i:=0) O))<|aG O aW (bP _ _) (aq ov O)<|fun w4 bU=>aI rfl<|aa<|SR<|mI rfl<|V (dA O O)<|mB rfl<|bN 12 O (fun h7=> ?_) (fun h7=> ?_)
 .refine mI rfl<|V (dA O O)<|mB rfl<|mB rfl<|bN 16 O (fun h9=> ?_) (fun h9=> ?_)
  .refine mI rfl<|mI rfl<|V (aL O O)<|mB rfl<|mB rfl<|bN 21 O (fun h11=> ?_) (fun h11=> ?_)
   .refine mI rfl<|mI rfl<|V (aL O O)<|mB rfl<|mB rfl<|bN 26 O (fun Vn=> ?_) (fun Vn=> ?_)
    .refine mI rfl<|V (fA bQ 1 O s6 O)<|V (bC rf c8 O O J)<|lV dW bU 0 O O (wj _ J)<|mI rfl<|V (jW bx Be O)<|V (E6 O O)<|V (KQ O (b:=2#64) O aD)<|V (js O (b:=1#64) O)<|mB rfl<|aB rfl<|aa<|aj<|oB O ?_ bU
     exact alh J J J J
    refine aE (v:=B false) rfl<|aB rfl<|aa<|aj<|oB O ?_ bU
    exact(Ju J).symm
   refine aE (v:=B false) rfl<|mB rfl<|cC O rfl<|aE (v:=B false) rfl<|aB rfl<|aa<|aj<|oB O ?_ bU
   exact(Ju J).symm
  refine aE (v:=B false) rfl<|mB rfl<|cC O rfl<|aE (v:=B false) rfl<|mB rfl<|cC O rfl<|aE (v:=B false) rfl<|aB rfl<|aa<|aj<|oB O ?_ bU
  exact(Ju J).symm
 refine aE (v:=B false) rfl<|mB rfl<|cC O rfl<|aE (v:=B false) rfl<|mB rfl<|cC O rfl<|aE (v:=B false) rfl<|mB rfl<|cC O rfl<|aE (v:=B false) rfl<|aB rfl<|aa<|aj<|oB O ?_ bU
 exact(Ju J).symm
theorem C8(v:Value)(l:List Int)(x:Int)(w:World)(hs:Sl w v 1 l.length (l.map I)):Calls Tryz.prog 110 #[v,I x] w (Pure (B (l.contains x)) w):=by
 have hm:=hs.small
 unfold maxLen at hm
 refine eH func110 rfl rfl fun hH=>SR<|va (v:=B false) rfl<|aa<|ah<|SR<|va (v:=I 0) rfl<|aa<|aC<|bj (G:=Int) (fun k s' w'=>(Fr (rg 4 14 []) _ s')/\(Hp w w' _)/\(s' 5=I k)/\(0<=k)/\(k<=l.length)/\(∀j:Int,0<=j->j<k->l.getD j.toNat 0≠x)) (fun k=>(l.length-k).toNat) (0) ⟨Fr.refl _ _,hH,rfl,J,J,fun j a b=>absurd b J⟩<| ?_
 rintro k sg1 w1 ⟨tR,iL,MJ,h0,hk,hf⟩
 obtain⟨lO,zy⟩:=tR.w2 0 1
 refine ah<|SR<|aE MJ<|aE lO<|V (aA (hs.hp iL) O bg O)<|V (aL O O)<|aa<|aF O (fun h3=> ?_) (fun h3=> ?_)
 .refine ak<|ah<|aC<|SR<|aE lO<|aE MJ<|V (ag (hs.hp iL) bg bz O O J)<|V (au bx O O ((hs.hp iL).cell _ _ (dZ J)))<|aE zy<|V (bX O O)<|aa<|aF O (fun h5=> ?_) (fun h5=> ?_)
  .refine SR<|va (v:=B true) rfl<|aa<|aj<|oB O ?_ iL
   (exact(aqU h0 aR aR).symm)
  refine ak<|ax<|aE MJ<|V (ay O O J)<|aI rfl<|aa<| ?_
  refine⟨k+1,aZ,tR.u4.u4.u4.u1,iL,(aK I aN),J,J,?_⟩
  exact fun j a b=>if e:j=k then e▸‹¬l.getD k.toNat 0=x›else hf j a J
 refine a7 (id:=0) rfl<|SR<|va (v:=B false) rfl<|aa<|aj<|oB O ?_ iL
 (exact(av1 fun j a b=>hf j a J).symm)
theorem zC(r:Rl)(i:Int)(hi:0<=i/\i<64)(w:World):Calls Tryz.prog 200 #[.agg (dM r),I i] w (Pure (U (uF r i)) w):=by
 refine eH func200 rfl rfl fun hH=>SR<|iu hH (v:= .agg _) rfl<|fun b3 w1 aW=>va (v:=U 0#64) rfl<|aa<|ah<|eF aM aW<|fun w4 bU=>have Of:=bU;AQ 0 O Of (mV (I _) O)<|AQ 1 O Of (fA bQ 1 O s6 O)<|AQ 2 O Of (bC rf c8 O O J)<|tV 3 O Of dW 0 O O (wj _ J)<|AT 4 O Of (fun w hS=>aO bQ O O O (hS.blk (i:=0) O))<|A1 5<|cJ O aH O bU sR (kD _ _) (aq GI O)<|fun w6 eD=>A1 6<|cJ O aH O eD sR (n7 _ _) (aq GG O)<|fun w8 iB=>AQ 7 O iB (mq O O)<|AQ 8 O iB (aV (U _) O)<|AD<|aj<|oU O ?_ iB
 rfl
theorem qC(r:Rl)(w:World):Calls Tryz.prog 165 #[.agg (dM r)] w (Pure (.agg (dM (ew r))) w):=by
 have hp:=dB r
 refine eH func165 rfl rfl fun hH=>SR<|iu hH (v:= .agg _) rfl<|fun b3 w1 aW=>oY aW (bf qA)<|fun b6 w4 bU=>aa<|SR<|V (aO bQ O O O (bU.blk (i:=1) O))<|aG O bU (kD _ _) (aq GI O)<|fun w7 fq=>V (dO (vs:=[(0,I _)]) O (ye _))<|oY fq (bf qA)<|fun b11 w9 bW=>bu bW (i:=0) O (nX O O O (bW.blk (i:=0) O))<|fun B7 cm=>aa<|ah<|SR<|V (fA bQ 0 O bz O)<|lV bx cm 0 O O (fF _)<|aE (v:=I 0) rfl<|aa<|aC<|have hz:(⟨pts r,fun _=>0#64⟩:Rl).n=pts r:=rfl;bj (G:=Int×Rl) (fun⟨k,r1⟩ s' w'=>(Fr (4::(rg 10 10 [])) _ s')/\(Hp w w' (.blk b11 (.cells (dM r1) 86 (0,0))::_))/\(s' 10=I k)/\(0<=k)/\(k<=pts r)/\(r1=Dn (pts r) (fun i=>uF r i) k)) (fun⟨k,r1⟩=>(pts r-k).toNat) ((0,⟨pts r,fun _=>0#64⟩)) ⟨Fr.refl _ _,cm,rfl,J,J,G3 _ _⟩<| ?_
 rintro⟨k,r1⟩ YQ PO ⟨l6,cF,MK,h0,hk,hr⟩
 obtain⟨ML,Ak,j8,Al⟩:=l6.w4 1 2 3 9
 have hn:r1.n=pts r:=by rw[hr];rfl
 refine SR<|V (aL MK Al)<|aa<|ah<|aF O (fun yj=> ?_) (fun yj=> ?_)
 .refine ak<|ah<|aC<|SR<|aE MK<|aI rfl<|aa<|ax<|mI rfl<|V (aO bQ O O ML (cF.blk (i:=2) O))<|mI rfl<|aG O cF (zC _ _ J _) (aJ call200 O O)<|fun Sa dS=>V (fA bQ 1 O s6 j8)<|V (bC rf c8 O O J)<|bu dS (i:=0) O (bL O O (v:=U _) O O O (dS.blk (i:=0) O) GN)<|fun Vo cL=> ?_
  rw[xN]at cL
  refine aa<|ax<|V (ay MK O J)<|mI rfl<|aa<| ?_
  refine⟨(k+1,_),aZ,l6.u4.u4.u1.u1.u1,cL,(aK I aN),J,J,?_⟩
  rw[hr];exact K5 h0 (by rw[fN h0])
 refine a7 (id:=0) rfl<|SR<|V (aO bQ O O j8 (cF.blk (i:=0) O))<|bu cF (i:=1) O (nX O Ak O (cF.blk (i:=1) O))<|fun Og dm=>aa<|aj<|afl O Ak dm (i:=1) O bQ O O ⟨?_,dm.below⟩
 (rw[hr,show k=pts r by omega];rfl)
theorem Ca(r:Rl)(s:BitVec 64)(w:World)(hT:oh w):Calls Tryz.prog 209 #[.agg (dM r),U s] w (Pure (U (upR r s)) w):=by
 have hp:=dB r
 refine eH func209 rfl rfl fun hH=>SR<|iu hH (v:= .agg _) rfl<|fun b3 w1 aW=>va (v:=U 0#64) rfl<|aa<|SR<|va (v:=U 0#64) rfl<|aa<|ah<|SR<|mU rfl<|V (aO bQ O O O (aW.blk (i:=0) O))<|aG O aW (kD _ _) (aq GI O)<|fun w4 bU=>aG O bU (n7 _ _) (aq GG O)<|fun w6 eD=>V (mq O O)<|Bt O eD (B8 _ _ (hT.hp eD)) (aq call233 O)<|fun v10 w8 iB=>V (aA (iB.sl (i:=0) O) O bg O)<|aE (v:=I 0) rfl<|aa<|aC<|have hl:=E8 (s&&&below (pts r));bj (G:=Int) (fun k s' w'=>(Fr (5::(7::(rg 15 10 []))) _ s')/\(Hp w w' _)/\(s' 5=U (wh (uF r) ((gf (s&&&below (pts r))).take k.toNat)))/\(s' 15=I k)/\(0<=k)/\(k<=(gf (s&&&below (pts r))).length)) (fun k=>((gf (s&&&below (pts r))).length-k).toNat) (0) ⟨Fr.refl _ _,iB,(aK U (by simp[wh])),rfl,J,J⟩<| ?_
 rintro k aEQ ID ⟨aiN,dF,apl,YR,h0,hk⟩
 obtain⟨axz,asL,asM⟩:=aiN.w3 2 13 14
 refine SR<|V (aL YR asM)<|aa<|ah<|aF O (fun Vn=> ?_) (fun Vn=> ?_)
 .refine ak<|ah<|aC<|SR<|V (ag (dF.sl (i:=0) O) bg bz asL YR J)<|V (au bx O O ((dF.sl (i:=0) O).cell _ _ (dZ J)))<|aI rfl<|aa<|ax<|aE apl<|V (aO bQ O O axz (dF.blk (i:=1) O))<|mI rfl<|aG O dF (zC _ _ (by exact OF m6 m6) _) (aJ call200 O O)<|fun PO iX=>V (jC O O)<|aU rfl<|aa<|ax<|V (ay YR O J)<|mI rfl<|aa<| ?_
  refine⟨k+1,aZ,aiN.u4.u4.u4,iX,(aK U (K6 h0 aR)),(aK I aN),J,J⟩
 refine a7 (id:=0) rfl<|SR<|aE apl<|aU rfl<|aa<|aj<|oU O ?_ dF
 (rw[K4 aR];rfl)
theorem xp(r:Rl)(s:BitVec 64)(w:World):Calls Tryz.prog 211 #[.agg (dM r),U s] w (Pure (U (Dp r s)) w):=by
 have hp:=dB r
 refine eH func211 rfl rfl fun hH=>SR<|iu hH (v:= .agg _) rfl<|fun b3 w1 aW=>va (v:=U 0#64) rfl<|aa<|SR<|va (v:=U 0#64) rfl<|aa<|ah<|SR<|V (aO bQ O O O (aW.blk (i:=0) O))<|aG O aW (kD _ _) (aq GI O)<|fun w4 bU=>aE (v:=I 0) rfl<|aa<|aC<|bj (G:=Int) (fun k s' w'=>(Fr (5::6::(rg 9 13 [])) _ s')/\(Hp w w' _)/\(s' 5=U (xj r s k))/\(s' 9=I k)/\(0<=k)/\(k<=pts r)) (fun k=>(pts r-k).toNat) (0) ⟨Fr.refl _ _,bU,(aK U (by simp[xj,m8])),rfl,J,J⟩<| ?_
 rintro k sg6 w6 ⟨MH,gT,asN,ano,h0,hk⟩
 obtain⟨Ob,aiO,aER⟩:=MH.w3 1 2 8
 refine SR<|V (aL ano aER)<|aa<|ah<|aF O (fun h8=> ?_) (fun h8=> ?_)
 .refine ak<|ah<|aC<|SR<|aE ano<|aI rfl<|aa<|SR<|V (aO bQ O O aiO (gT.blk (i:=0) O))<|mI rfl<|aG O gT (zC _ _ J _) (aJ call200 O O)<|fun w9 bW=>aE Ob<|V (mq O O)<|V (uB O (b:=0#64) O)<|aa<|aF O (fun h12=> ?_) (fun h12=> ?_)
  .refine ax<|aE asN<|mI rfl<|aG O bW (B5 _ _ _) (aJ call231 O O)<|fun C7 cF=>aU rfl<|aa<|ax<|V (ay ano O J)<|mI rfl<|aa<| ?_
   refine⟨k+1,aZ,MH.u4.u4.u4.u1.u1.u1,cF,(aK U (by exact afg h0 J aR)),(aK I aN),J,J⟩
  refine ak<|ax<|V (ay ano O J)<|mI rfl<|aa<| ?_
  refine⟨k+1,aZ,MH.u4.u4.u1.u1.u1,bW,(jA asN (aK U (by exact afh h0 aR))),(aK I aN),J,J⟩
 refine a7 (id:=0) rfl<|SR<|aE asN<|aU rfl<|aa<|aj<|oU O ?_ gT
 (rw[show k=pts r by omega];rfl)
theorem qD(r:Rl)(w:World):Calls Tryz.prog 242 #[.agg (dM r)] w (Pure (.agg (dM (ew r))) w):=by
 have hp:=dB r
 refine eH func242 rfl rfl fun hH=>SR<|iu hH (v:= .agg _) rfl<|fun b3 w1 aW=>oY aW (bf qA)<|fun b6 w4 bU=>aa<|SR<|V (aO bQ O O O (bU.blk (i:=1) O))<|aG O bU (bP _ _) (aq ov O)<|fun w7 fq=>V (dO (vs:=[(0,I _)]) O (ye _))<|oY fq (bf qA)<|fun b11 w9 bW=>bu bW (i:=0) O (nX O O O (bW.blk (i:=0) O))<|fun B7 cm=>aa<|ah<|SR<|va (v:=I 0) rfl<|aa<|aC<|have hz:(⟨pts r,fun _=>0#64⟩:Rl).n=pts r:=rfl;bj (G:=Int×Rl) (fun⟨k,r1⟩ s' w'=>(Fr (rg 4 3 (rg 10 25 [])) _ s')/\(Hp w w' (.blk b11 (.cells (dM r1) 86 (0,0))::_))/\(s' 4=I k)/\(0<=k)/\(k<=pts r)/\(r1=Dn (pts r) (fun i=>uF r i) k)) (fun⟨k,r1⟩=>(pts r-k).toNat) ((0,⟨pts r,fun _=>0#64⟩)) ⟨Fr.refl _ _,cm,rfl,J,J,G3 _ _⟩<| ?_
 rintro⟨k,r1⟩ YQ PO ⟨l6,cF,DB,h0,hk,hr⟩
 obtain⟨ML,Ak,j8⟩:=l6.w3 1 2 3
 have hn:r1.n=pts r:=by rw[hr];rfl
 refine ah<|SR<|aE DB<|V (fA bQ 0 O bz j8)<|lV bx cF 0 O O (fF _)<|V (aL O O)<|aa<|aF O (fun yj=> ?_) (fun yj=> ?_)
 .refine ak<|ah<|aC<|SR<|va (v:= .slice none 0 0) rfl<|have dU:=cF.fD 3 1;aa<|ah<|SR<|va (v:=I 0) rfl<|aa<|aC<|bj (G:=Int×(List Int)×Value) (fun⟨j,l,v5⟩ s' w'=>(Fr (5::6::(rg 16 14 [])) _ s')/\(Hp w w' (.row v5 3 1 (l.length) (l.map I)::_))/\(s' 5=v5)/\(s' 6=I j)/\(0<=j)/\(j<=pts r)/\(l=qo r k j)) (fun⟨j,l,v5⟩=>(pts r-j).toNat) ((0,[],(.slice none 0 0:Value))) ⟨Fr.refl _ _,dU,rfl,rfl,J,J,rfl⟩<| ?_
  rintro⟨j,l,v5⟩ asO PR ⟨xq,dS,aiP,Vp,j0,j1,hl⟩
  obtain⟨aa7,MM,MO⟩:=xq.t3 1 ML 3 j8 4 DB
  refine ah<|SR<|aE Vp<|V (fA bQ 0 O bz MM)<|lV bx dS 1 O O (fF _)<|V (aL O O)<|aa<|aF O (fun NY=> ?_) (fun NY=> ?_)
  .refine ak<|ah<|aC<|SR<|V (aO bQ O O aa7 (dS.blk (i:=3) O))<|aE MO<|aE Vp<|aG O dS (bH _ _ _ _) (bB jS O O O)<|fun Og dm=>aa<|bY O (fun Aj=> ?_) (fun Aj=> ?_)
   .refine ax<|aE aiP<|aE Vp<|yd 1 1 dm (ct bg O O (sz:=1) (vs:=[I _]) O O aD aD O O)<|fun b27 w25 kB=> ?_
    (try simp only[oX]at kB)
    refine jX O kB (i:=1) O (kB.dQ (i:=0) (n:=1) (sz:=1) O O aD) O O bg O O (size:=1) (bytes:=8) O O O aD kq (by have:= @OE r k j;rw[<-hl]at this;omega) (by have:= @OE r k j;rw[<-hl]at this;simp only[maxLen];omega)<|fun v28 w29 jx=> ?_
    refine V (run_assign bG) ?_
    refine aa<|ax<|aE Vp<|V (ay O O J)<|aI rfl<|aa<| ?_
    refine⟨(j+1,l++[j],v28),aZ,xq.u4.u4.u4.u4,(Hp.conv (jx.sub (sQ sR)) az),rfl,(aK I aN),J,J,?_⟩
    (rw[hl];exact abI j0 aR)
   refine ak<|ax<|aE Vp<|V (ay O O J)<|aI rfl<|aa<| ?_
   refine⟨(j+1,l,v5),aZ,xq.u4.u4.u1.u1.u1,(Hp.conv dm aN),aiP,(aK I aN),J,J,?_⟩
   (rw[hl];exact abJ j0 aR)
  refine a7 (id:=2) rfl<|ax<|aE MO<|aE aiP<|aG O dS (ir _ _ _ (dS.sl (i:=0) O)) (aq GH O)<|fun w31 iV=>V (fA bQ 1 O s6 MM)<|V (bC rf c8 O O J)<|bu iV (i:=1) O (bL O O (v:=U _) O O O (iV.blk (i:=1) O) GN)<|fun w33 mS=> ?_
  rw[xN]at mS
  refine aa<|ax<|aE MO<|V (ay O O J)<|aI rfl<|aa<| ?_
  refine⟨(k+1,_),aZ,(((l6.u4.u1.u1).t xq O)).u4.u4.u4,(mS.sub (sQ sR)),(aK I aN),J,J,?_⟩
  rw[hr];exact K5 h0 (by rw[fN h0,hl,show j=pts r by omega];exact abK ⟨h0,J⟩)
 refine a7 (id:=0) rfl<|SR<|V (aO bQ O O j8 (cF.blk (i:=0) O))<|bu cF (i:=1) O (nX O Ak O (cF.blk (i:=1) O))<|fun w35 nO=>aa<|aj<|afl O Ak nO (i:=1) O bQ O O ⟨?_,nO.below⟩
 (rw[hr,show k=pts r by omega];rfl)
theorem HL(r:Rl)(w:World):Calls Tryz.prog 201 #[.agg (dM r)] w (Pure (.agg (dM (iQ r))) w):=by
 have hp:=dB r
 have hn0:(ew r).n=pts r:=rfl
 refine eH func201 rfl rfl fun hH=>SR<|iu hH (v:= .agg _) rfl<|fun b3 w1 aW=>oY aW (bf qA)<|fun b6 w4 bU=>aa<|SR<|V (aO bQ O O O (bU.blk (i:=1) O))<|aG O bU (qC _ _) (aq call165 O)<|fun w7 fq=>oY fq (bf qA)<|fun b11 w9 bW=>bu bW (i:=0) O (nX O O O (bW.blk (i:=0) O))<|fun B7 cm=>aa<|ah<|SR<|V (fA bQ 0 O bz O)<|lV bx cm 0 O O (fF _)<|aE (v:=I 0) rfl<|aa<|aC<|bj (G:=Int×Rl) (fun⟨k,r1⟩ s' w'=>(Fr (4::(rg 11 13 [])) _ s')/\(Hp w w' (.blk b11 (.cells (dM r1) 86 (0,0))::_))/\(s' 11=I k)/\(0<=k)/\(k<=pts r)/\(r1=⟨pts r,pq (ew r).up k⟩)) (fun⟨k,r1⟩=>(pts r-k).toNat) ((0,ew r)) ⟨Fr.refl _ _,cm,rfl,J,J,abL _ _⟩<| ?_
 rintro⟨k,r1⟩ YQ PO ⟨l6,cF,MP,h0,hk,hr⟩
 obtain⟨Ak,j8,MK⟩:=l6.w3 2 3 10
 have hn:r1.n=pts r:=by rw[hr]
 refine SR<|V (aL MP MK)<|aa<|ah<|aF O (fun yj=> ?_) (fun yj=> ?_)
 .refine ak<|ah<|aC<|SR<|aE MP<|aI rfl<|aa<|ax<|mI rfl<|mI rfl<|V (fA bQ 1 O s6 j8)<|V (bC rf c8 O O J)<|lV dW cF 0 O O (wj _ J)<|mI rfl<|aG O cF (B5 _ _ _) (aJ call231 O O)<|fun Sa dS=>V (fA bQ 1 O s6 j8)<|V (bC rf c8 O O J)<|bu dS (i:=0) O (bL O O (v:=U _) O O O (dS.blk (i:=0) O) GN)<|fun Vo cL=> ?_
  rw[xN]at cL
  refine aa<|ax<|V (ay MP O J)<|mI rfl<|aa<| ?_
  refine⟨(k+1,_),aZ,l6.u4.u4.u4.u1.u1,cL,(aK I aN),J,J,?_⟩
  rw[hr];exact afi h0
 refine a7 (id:=0) rfl<|ah<|SR<|V (fA bQ 0 O bz j8)<|lV bx cF 0 O O (fF _)<|aE (v:=I 0) rfl<|aa<|aC<|bj (G:=Int×Rl) (fun⟨m,r2⟩ s' w'=>(Fr (5::6::(rg 26 27 [])) _ s')/\(Hp w w' (.blk b11 (.cells (dM r2) 86 (0,0))::_))/\(s' 26=I m)/\(0<=m)/\(m<=pts r)/\(r2=⟨pts r,wall (pts r) (pq (ew r).up (pts r)) m.toNat⟩)) (fun⟨m,r2⟩=>(pts r-m).toNat) ((0,r1)) ⟨Fr.refl _ _,cF,rfl,J,J,(by rw[hr,show k=pts r by omega];rfl)⟩<| ?_
 rintro⟨m,r2⟩ aES Og ⟨adk,fp,YS,m0,m1,hr2⟩
 have asQ:=adk.w1 25
 obtain⟨apn,MQ⟩:=adk.t2 2 Ak 3 j8
 have Pd:r2.n=pts r:=by rw[hr2]
 refine SR<|V (aL YS asQ)<|aa<|ah<|aF O (fun FT=> ?_) (fun FT=> ?_)
 .refine ak<|ah<|aC<|SR<|aE YS<|aI rfl<|aa<|SR<|V (fA bQ 0 O bz MQ)<|lV bx fp 0 O O (fF _)<|aE (v:=I 0) rfl<|aa<|aC<|bj (G:=Int×Rl) (fun⟨i,r3⟩ s' w'=>(Fr (6::(rg 31 21 [])) _ s')/\(Hp w w' (.blk b11 (.cells (dM r3) 86 (0,0))::_))/\(s' 31=I i)/\(0<=i)/\(i<=pts r)/\(r3=⟨pts r,jD m.toNat i r2.up⟩)) (fun⟨i,r3⟩=>(pts r-i).toNat) ((0,r2)) ⟨Fr.refl _ _,fp,rfl,J,J,(by rw[hr2];exact abM _ _ _)⟩<| ?_
  rintro⟨i,r3⟩ aPo w24 ⟨adl,oF,MR,i0,i1,hr3⟩
  obtain⟨apo,asR⟩:=adl.w2 5 30
  obtain⟨aa8,asS⟩:=adl.t2 3 MQ 26 YS
  have hn3:r3.n=pts r:=by rw[hr3]
  refine SR<|V (aL MR asR)<|aa<|ah<|aF O (fun h26=> ?_) (fun h26=> ?_)
  .refine ak<|ah<|aC<|SR<|aE MR<|aI rfl<|aa<|SR<|mI rfl<|V (fA bQ 1 O s6 aa8)<|V (bC rf c8 O O J)<|lV dW oF 0 O O (wj _ J)<|aE apo<|aG O oF (YO _ _ _) (aJ call232 O O)<|fun w27 jL=>aa<|bY O (fun Vq=> ?_) (fun Vq=> ?_)
   .refine gY aM jL (sQ sR)<|fun w31 iV=>have MS:=iV.sub (sQ sR);AQ 0 O MS (mV (I _) O)<|AQ 1 O MS (fA bQ 1 O s6 aa8)<|AQ 2 O MS (bC rf c8 O O J)<|AQ 4 O MS (run_move apo)<|AQ 5 O MS (fA bQ 1 O s6 aa8)<|AQ 6 O MS (bC rf c8 O O J)<|AQ 9 O MS (fA bQ 1 O s6 aa8)<|iy 3 7 aM ?_ ?_
    .refine cf O aH O iV (sQ sR) (au dW O O (iV.cell (i:=0) O (wj _ J)))<|A1 7<|cf O aH O iV (sQ sR) (au dW O O (iV.cell (i:=0) O (wj _ J)))<|AQ 8 O MS (jC O O)<|AQ 10 O MS (bC rf c8 O O J)<|A1 11<|ec O aH iV (j:=0) O (sQ sR) (bL O O (v:=U _) O O O (iV.blk (i:=0) O) GN)<|fun w39 n8=> ?_
     rw[xN]at n8
     refine AD<|ax<|V (ay MR O J)<|mI rfl<|aa<| ?_
     refine⟨(i+1,_),aZ,adl.u4.u4.u4.u4.u4.u1.u1,n8,(aK I aN),J,J,?_⟩
     (rw[hr3]at*;exact To m0 i0 aR)
    refine cf O aH O iV (sQ sR) (au dW O O (iV.cell (i:=0) O (wj _ J)))<|A1 3<|cf O aH O iV (sQ sR) (au dW O O (iV.cell (i:=0) O (wj _ J)))<|AQ 8 O MS (jC O O)<|AQ 10 O MS (bC rf c8 O O J)<|A1 11<|ec O aH iV (j:=0) O (sQ sR) (bL O O (v:=U _) O O O (iV.blk (i:=0) O) GN)<|fun w47 mW=> ?_
    rw[xN]at mW
    refine AD<|ax<|V (ay MR O J)<|mI rfl<|aa<| ?_
    refine⟨(i+1,_),aZ,adl.u4.u4.u4.u4.u4.u1.u1,mW,(aK I aN),J,J,?_⟩
    (rw[hr3]at*;exact To m0 i0 aR)
   refine ak<|ax<|V (ay MR O J)<|mI rfl<|aa<| ?_
   refine⟨(i+1,_),aZ,adl.u4.u4.u1.u1.u1,jL,(aK I aN),J,J,?_⟩
   (rw[hr3]at*;exact afk ⟨m0,J⟩ i0 aR)
  refine a7 (id:=4) rfl<|ax<|V (ay asS O J)<|mI rfl<|aa<| ?_
  refine⟨(m+1,_),aZ,(((adk.u4.u1.u1).t adl O)).u1.u1.u1,oF,(aK I aN),J,J,?_⟩
  rw[hr3,hr2,show i=pts r by omega];exact abN m0
 refine a7 (id:=2) rfl<|SR<|V (aO bQ O O MQ (fp.blk (i:=0) O))<|bu fp (i:=1) O (nX O apn O (fp.blk (i:=1) O))<|fun w49 eS=>aa<|aj<|afl O apn eS (i:=1) O bQ O O ⟨?_,eS.below⟩
 (rw[hr2,show m=pts r by omega];rfl)
theorem zD(r:Rl)(i:Int)(w:World):Calls Tryz.prog 215 #[.agg (dM r),I i] w (rV 3 1 (xk r i).length ((xk r i).map I) w):=by
 have hp:=dB r
 refine eH func215 rfl rfl fun hH=>SR<|iu hH (v:= .agg _) rfl<|fun b3 w1 aW=>va (v:= .slice none 0 0) rfl<|have gE:=aW.fD 3 1;aa<|ah<|SR<|mI rfl<|V (aL O O)<|mB rfl<|bN 10 O (fun h6=> ?_) (fun h6=> ?_)
 .refine aE (v:=B true) rfl<|aa<|cB rfl<|SR<|va (v:= .slice none 0 0) rfl<|have eD:=gE.fD 3 1;aa<|aj<|N1 O O eD (i:=0) O QV QV
 refine mI rfl<|V (aO bQ O O O (gE.blk (i:=1) O))<|aG O gE (bP _ _) (aq ov O)<|fun w8 iB=>V (dA O O)<|mB rfl<|aa<|aF O (fun h11=> ?_) (fun h11=> ?_)
 .refine SR<|va (v:= .slice none 0 0) rfl<|have cK:=iB.fD 3 1;aa<|aj<|N1 O O cK (i:=0) O QV QV
 refine ak<|SR<|mI rfl<|yd 1 1 iB (ct bg O O (sz:=1) (vs:=[I _]) O O aD aD O O)<|fun b15 C7 cF=> ?_
 (try simp only[oX]at cF)
 have cG:=cF.Ei 1 1 O aD
 refine V (run_assign bG) ?_
 refine aa<|ah<|SR<|va (v:=I 0) rfl<|aa<|aC<|bj (G:=Int×(List Int)×Value) (fun⟨a,l,v5⟩ s' w'=>(Fr (rg 5 3 (rg 18 29 [])) _ s')/\(Hp w w' (.row v5 3 1 (l.length) (l.map I)::_))/\(s' 5=v5)/\(s' 6=I a)/\(0<=a)/\(a<=l.length)/\(Tq r l)/\(Wa r (65-a.toNat) a.toNat l=xk r i)) (fun⟨a,l,v5⟩=>((65:Int)-a).toNat) ((0,[i],(.slice (some ⟨b15,0,none⟩) 1 1:Value))) ⟨Fr.refl _ _,cG,rfl,rfl,J,az,Tq.one J,(by rw[xk,aQ (qm.2 J)];rfl)⟩<| ?_
 rintro⟨a,l,v5⟩ aET Sa ⟨aiS,dU,MT,apr,a0,a1,hok,hl⟩
 obtain⟨axB,aLg⟩:=aiS.w2 2 4
 refine ah<|SR<|aE apr<|aE MT<|V (aA (dU.sl (i:=0) O) O bg O)<|V (aL O O)<|aa<|aF O (fun MU=> ?_) (fun MU=> ?_)
 .refine ak<|ah<|aC<|SR<|va (v:=I 0) rfl<|aa<|aC<|bj (G:=Int×(List Int)×Value) (fun⟨b,l2,v5⟩ s' w'=>(Fr (5::(7::(rg 24 23 []))) _ s')/\(Hp w w' (.row v5 3 1 (l2.length) (l2.map I)::_))/\(s' 5=v5)/\(s' 7=I b)/\(0<=b)/\(b<=pts r)/\(l2=scan r (l.getD a.toNat 0) l b.toNat)/\(Tq r l2)/\(l.length<=l2.length)/\(l2.getD a.toNat 0=l.getD a.toNat 0)) (fun⟨b,l2,v5⟩=>(pts r-b).toNat) ((0,l,(v5:Value))) ⟨Fr.refl _ _,dU,MT,rfl,J,J,rfl,hok,eG _,rfl⟩<| ?_
  rintro⟨b,l2,v5⟩ aPp w20 ⟨aiT,cL,PS,MV,b0,b1,h2,Vr,hle,Ts⟩
  obtain⟨aps,apt⟩:=aiT.t2 2 axB 6 apr
  refine ah<|SR<|aE MV<|V (aO bQ O O aps (cL.blk (i:=2) O))<|aG O cL (bP _ _) (aq ov O)<|fun Og dm=>V (aL O O)<|aa<|aF O (fun Aj=> ?_) (fun Aj=> ?_)
  .refine ak<|ah<|aC<|ah<|eF aM dm<|fun w25 kB=>have I8:=kB;AT 0 O I8 (fun w hS=>aO bQ O O aps (hS.blk (i:=2) O))<|AQ 1 O I8 (run_move PS)<|AQ 2 O I8 (run_move apt)<|AT 3 O I8 (fun w hS=>ag (hS.sl (i:=0) O) bg bz O O J)<|AT 4 O I8 (fun w hS=>au bx O O ((hS.sl (i:=0) O).cell _ _ (dZ J)))<|AQ 5 O I8 (run_move MV)<|A1 6<|cJ O aH O kB sR (bH r (l2.getD a.toNat 0) b _) (bB jS O O O)<|fun w27 jL=>have YT:=jL;AQ 7 O YT (mV (B _) O)<|KY (dj:=37) O (fun Vq=> ?_) (fun Vq=> ?_)
   .refine BQ 8 O O (bR (c:=true) Vq) jL (run_move PS)<|BQ 9 O O (bR (c:=true) Vq) jL (run_move MV)<|A1 10<|cJ O (Bv O (bR (c:=true) Vq)) O jL sR (C8 _ _ _ _ (jL.sl (i:=0) O)) (aJ call110 O O)<|fun w31 iV=>BQ 11 O O (bR (c:=true) Vq) iV (bO O)<|AQ 12 O iV (gI (bR (c:=true) Vq) (v:=B _) O)<|AD<|bY O (fun C9=> ?_) (fun C9=> ?_)
    .refine ax<|aE PS<|aE MV<|yd 1 1 iV (ct bg O O (sz:=1) (vs:=[I _]) O O aD aD O O)<|fun b38 w36 vP=> ?_
     (try simp only[oX]at vP)
     refine jX O vP (i:=1) O (vP.dQ (i:=0) (n:=1) (sz:=1) O O aD) O O bg O O (size:=1) (bytes:=8) O O O aD kq (by have:=Vr.len;omega) (by have:=Vr.len;simp only[maxLen];omega)<|fun v39 w40 jM=> ?_
     refine V (run_assign bG) ?_
     refine aa<|ax<|aE MV<|V (ay O O J)<|aI rfl<|aa<| ?_
     refine⟨(b+1,l2++[b],v39),aZ,aiT.u4.u4.u4.u4.u4.u4.u1,(Hp.conv (jM.sub (sQ sR)) az),rfl,(aK I aN),J,J,?_,?_,KJ,?_⟩
     .rw[Ts]at*;((rw[h2]at*;exact afo b0 aR (nt aR)))
     .exact Vr.add ⟨b0,aR⟩ (nt aR)
     (rw[<-Ts,eE,eE,wP J])
    refine ak<|ax<|aE MV<|V (ay O O J)<|aI rfl<|aa<| ?_
    refine⟨(b+1,l2,v5),aZ,aiT.u4.u4.u4.u4.u4,(Hp.conv iV aN),PS,(aK I aN),J,J,?_,?_,?_,?_⟩
    .rw[Ts]at*;((rw[h2]at*;exact afq b0 (nf aR)))
    .exact Vr
    .exact hle
    exact Ts
   refine AK 8 O O (bR (c:=false) Vq) jL<|AK 9 O O (bR (c:=false) Vq) jL<|AK 10 O O (bR (c:=false) Vq) jL<|AK 11 O O (bR (c:=false) Vq) jL<|AQ 12 O YT (dX (bR (c:=false) Vq) (v:=B false) O)<|AD<|dh rfl<|ak<|ax<|aE MV<|V (ay O O J)<|aI rfl<|aa<| ?_
   refine⟨(b+1,l2,v5),aZ,aiT.u4.u4.u4.u4.u4,(Hp.conv jL aN),PS,(aK I aN),J,J,?_,?_,?_,?_⟩
   .rw[Ts]at*;((rw[h2]at*;exact afp b0 aR))
   .exact Vr
   .exact hle
   exact Ts
  refine a7 (id:=2) rfl<|ax<|aE apt<|V (ay O O (by have:=hok.len;omega))<|aI rfl<|aa<| ?_
  refine⟨(a+1,l2,v5),?_,(((aiS.u4.u1).t aiT O)).u4.u1.u1.u1,(Hp.conv dm aN),PS,(aK I aN),J,J,?_,?_⟩
  .have:=hok.len;(try dsimp only);omega
  .exact Vr
  (rw[h2,show b=pts r by omega,<-afn a0 aR hok.len];exact hl)
 refine a7 (id:=0) rfl<|SR<|aE MT<| ?_
 refine V (run_assign bG) ?_
 refine aa<|aj<|N1 O O dU (i:=0) O (by rw[<-hl,ZN a0 aR]) (by rw[<-hl,ZN a0 aR])
theorem xu(r:Rl)(w:World):Calls Tryz.prog 183 #[.agg (dM r)] w (Pure (.agg (dM (iQ r))) w):=by
 have hp:=dB r
 refine eH func183 rfl rfl fun hH=>SR<|iu hH (v:= .agg _) rfl<|fun b3 w1 aW=>oY aW (bf qA)<|fun b6 w4 bU=>aa<|SR<|V (aO bQ O O O (bU.blk (i:=1) O))<|aG O bU (bP _ _) (aq ov O)<|fun w7 fq=>V (dO (vs:=[(0,I _)]) O (ye _))<|oY fq (bf qA)<|fun b11 w9 bW=>bu bW (i:=0) O (nX O O O (bW.blk (i:=0) O))<|fun B7 cm=>aa<|ah<|SR<|va (v:=I 0) rfl<|aa<|aC<|have hz:(⟨pts r,fun _=>0#64⟩:Rl).n=pts r:=rfl;bj (G:=Int×Rl) (fun⟨k,r1⟩ s' w'=>(Fr (4::(rg 8 13 [])) _ s')/\(Hp w w' (.blk b11 (.cells (dM r1) 86 (0,0))::_))/\(s' 4=I k)/\(0<=k)/\(k<=pts r)/\(r1=Dn (pts r) (fun i=>kH (xk r i)) k)) (fun⟨k,r1⟩=>(pts r-k).toNat) ((0,⟨pts r,fun _=>0#64⟩)) ⟨Fr.refl _ _,cm,rfl,J,J,G3 _ _⟩<| ?_
 rintro⟨k,r1⟩ YQ PO ⟨l6,cF,DB,h0,hk,hr⟩
 obtain⟨ML,Ak,j8⟩:=l6.w3 1 2 3
 have hn:r1.n=pts r:=by rw[hr];rfl
 refine ah<|SR<|aE DB<|V (fA bQ 0 O bz j8)<|lV bx cF 0 O O (fF _)<|V (aL O O)<|aa<|aF O (fun yj=> ?_) (fun yj=> ?_)
 .refine ak<|ah<|aC<|ax<|aE DB<|V (aO bQ O O ML (cF.blk (i:=2) O))<|aE DB<|Bt O cF (zD _ _ _) (aJ call215 O O)<|fun v19 Sa dS=>aG O dS (ir _ _ _ (dS.sl (i:=0) O)) (aq GH O)<|fun w20 fp=>V (fA bQ 1 O s6 j8)<|V (bC rf c8 O O J)<|bu fp (i:=1) O (bL O O (v:=U _) O O O (fp.blk (i:=1) O) GN)<|fun S5 eN=> ?_
  rw[xN]at eN
  refine aa<|ax<|aE DB<|V (ay O O J)<|aI rfl<|aa<| ?_
  refine⟨(k+1,_),aZ,l6.u4.u4.u4.u1.u1,(eN.sub (sQ sR)),(aK I aN),J,J,?_⟩
  rw[hr];exact K5 h0 (by rw[fN h0])
 refine a7 (id:=0) rfl<|SR<|V (aO bQ O O j8 (cF.blk (i:=0) O))<|bu cF (i:=1) O (nX O Ak O (cF.blk (i:=1) O))<|fun w24 oG=>aa<|aj<|afl O Ak oG (i:=1) O bQ O O ⟨?_,oG.below⟩
 (rw[hr,show k=pts r by omega,alj])
theorem DC(a b:Rl)(w:World):Calls Tryz.prog 136 #[.agg (dM a),.agg (dM b)] w (Pure (B (decide ((ew a).eq (ew b)))) w):=by
 refine eH func136 rfl rfl fun hH=>SR<|iu hH (v:= .agg _) rfl<|fun b3 w1 aW=>iu aW (v:= .agg _) rfl<|fun b6 w4 bU=>va (v:=B false) rfl<|aa<|ah<|eF aM bU<|fun w7 fq=>AT 0 O fq (fun w hS=>aO bQ O O O (hS.blk (i:=1) O))<|AT 2 O fq (fun w hS=>aO bQ O O O (hS.blk (i:=0) O))<|A1 1<|cJ O aH O fq sR (qC _ _) (aq call165 O)<|fun w9 bW=>A1 3<|cJ O aH O bW sR (qC _ _) (aq call165 O)<|fun ID cK=>AQ 4 O cK (Ej HK O O)<|AQ 5 O cK (aV (B _) O)<|AD<|aj<|oB O ?_ cK
 rfl
theorem AM(a b:Rl)(w:World):Calls Tryz.prog 214 #[.agg (dM a),.agg (dM b)] w (Pure (B (decide ((ew a).eq (ew b)))) w):=by
 refine eH func214 rfl rfl fun hH=>SR<|iu hH (v:= .agg _) rfl<|fun b3 w1 aW=>iu aW (v:= .agg _) rfl<|fun b6 w4 bU=>va (v:=B false) rfl<|aa<|ah<|eF aM bU<|fun w7 fq=>AT 0 O fq (fun w hS=>aO bQ O O O (hS.blk (i:=1) O))<|AT 2 O fq (fun w hS=>aO bQ O O O (hS.blk (i:=0) O))<|A1 1<|cJ O aH O fq sR (qD _ _) (aq call242 O)<|fun w9 bW=>A1 3<|cJ O aH O bW sR (qD _ _) (aq call242 O)<|fun ID cK=>AQ 4 O cK (Ej HK O O)<|AQ 5 O cK (aV (B _) O)<|AD<|aj<|oB O ?_ cK
 rfl
theorem Am(r:Rl)(w:World):Calls Tryz.prog 166 #[.agg (dM r)] w (Pure (B (decide ((ew r).eq (iQ r)))) w):=by
 refine eH func166 rfl rfl fun hH=>SR<|iu hH (v:= .agg _) rfl<|fun b3 w1 aW=>va (v:=B false) rfl<|aa<|ah<|eF aM aW<|fun w4 bU=>AT 0 O bU (fun w hS=>aO bQ O O O (hS.blk (i:=0) O))<|AT 2 O bU (fun w hS=>aO bQ O O O (hS.blk (i:=0) O))<|A1 1<|cJ O aH O bU sR (qC _ _) (aq call165 O)<|fun w6 eD=>A1 3<|cJ O aH O eD sR (HL _ _) (aq call201 O)<|fun w8 iB=>AQ 4 O iB (Ej HK O O)<|AQ 5 O iB (aV (B _) O)<|AD<|aj<|oB O ?_ iB
 rfl
theorem pQ(r:Rl)(w:World):Calls Tryz.prog 182 #[.agg (dM r)] w (Pure (B (decide ((ew r).eq (iQ r)))) w):=by
 refine eH func182 rfl rfl fun hH=>SR<|iu hH (v:= .agg _) rfl<|fun b3 w1 aW=>va (v:=B false) rfl<|aa<|ah<|eF aM aW<|fun w4 bU=>AT 0 O bU (fun w hS=>aO bQ O O O (hS.blk (i:=0) O))<|AT 1 O bU (fun w hS=>aO bQ O O O (hS.blk (i:=0) O))<|A1 2<|cJ O aH O bU sR (xu _ _) (aq call183 O)<|fun w6 eD=>A1 3<|cJ O aH O eD sR (AM _ _ _) (aJ call214 O O)<|fun w8 iB=>AQ 4 O iB (aV (B _) O)<|AD<|aj<|oB O ?_ iB
 rw[abR]
theorem zE(n:Int)(w:World):Calls Tryz.prog 208 #[I n] w (Pure (.agg (dM (afr n))) w):=by
 refine eH func208 rfl rfl fun hH=>SR<|oY hH (bf qA)<|fun b3 w1 aW=>aa<|SR<|mI rfl<|V (dO (vs:=[(0,I _)]) O (ye _))<|aG O aW (kD _ _) (aq GI O)<|fun w4 bU=>V (dO (vs:=[(0,I _)]) O (ye _))<|bu bU (i:=0) O (nX O O O (bU.blk (i:=0) O))<|fun w6 eD=>aa<|aj<|afl O O eD (i:=0) O bQ O O ⟨?_,eD.below⟩
 rfl
theorem I9(r:Rl)(i:Int)(w:World)(hT:oh w):Calls Tryz.prog 202 #[.agg (dM r),I i] w (Pure (U (CH r i)) w):=by
 refine eH func202 rfl rfl fun hH=>SR<|iu hH (v:= .agg _) rfl<|fun b3 w1 aW=>va (v:=U 0#64) rfl<|aa<|SR<|mI rfl<|yd 1 1 aW (ct bg O O (sz:=1) (vs:=[I _]) O O aD aD O O)<|fun b6 w4 bU=> ?_
 (try simp only[oX]at bU)
 refine aG O bU (yg _ [i] _ (bU.dQ (i:=0) (n:=1) (sz:=1) O O aD)) (aq call203 O)<|fun w7 fq=>aU rfl<|aa<|ah<|eF aM fq<|fun w9 bW=>have kU:=bW;AT 0 O kU (fun w hS=>aO bQ O O O (hS.blk (i:=1) O))<|AQ 1 O kU (mV (U _) O)<|AT 3 O kU (fun w hS=>aO bQ O O O (hS.blk (i:=1) O))<|AQ 4 O kU (mV (U _) O)<|A1 2<|cJ O aH O bW sR (Ca _ _ _ (hT.hp bW)) (aJ call209 O O)<|fun ID cK=>A1 5<|cJ O aH O cK sR (xp _ _ _) (aJ call211 O O)<|fun C7 cF=>AQ 6 O cF (mq O O)<|AQ 7 O cF (aV (U _) O)<|AD<|aj<|oU O ?_ cF
 rfl
theorem MW(r:Rl)(w:World)(hT:oh w):Calls Tryz.prog 167 #[.agg (dM r)] w (Pure (B (fT r)) w):=by
 have hp:=dB r
 refine eH func167 rfl rfl fun hH=>SR<|iu hH (v:= .agg _) rfl<|fun b3 w1 aW=>va (v:=B false) rfl<|aa<|ah<|SR<|V (aO bQ O O O (aW.blk (i:=0) O))<|aG O aW (Am _ _) (aq call166 O)<|fun w4 bU=>V (uC O)<|aa<|aF O (fun h9=> ?_) (fun h9=> ?_)
 .refine SR<|va (v:=B false) rfl<|aa<|aj<|oB O ?_ bU
  exact(abT aR).symm
 refine ak<|ah<|SR<|V (aO bQ O O O (bU.blk (i:=0) O))<|aG O bU (kD _ _) (aq GI O)<|fun Gk dF=>aE (v:=I 0) rfl<|aa<|aC<|have hc:=Gr ‹¬¬(ew r).eq (iQ r)›;bj (G:=Int) (fun k s' w'=>(Fr (2::3::(rg 9 11 [])) _ s')/\(Hp w w' _)/\(s' 9=I k)/\(0<=k)/\(k<=pts r)/\(∀j:Int,0<=j->j<k->CH r j=kH [j])) (fun k=>(pts r-k).toNat) (0) ⟨Fr.refl _ _,dF,rfl,J,J,fun j a b=>absurd b J⟩<| ?_
 rintro k aiU B7 ⟨pB,cK,aiV,h0,hk,hf⟩
 obtain⟨vc,MX⟩:=pB.w2 1 8
 refine SR<|V (aL aiV MX)<|aa<|ah<|aF O (fun JY=> ?_) (fun JY=> ?_)
 .refine ak<|ah<|aC<|SR<|aE aiV<|aI rfl<|aa<|SR<|V (aO bQ O O vc (cK.blk (i:=0) O))<|mI rfl<|aG O cK (I9 _ _ _ (hT.hp cK)) (aJ call202 O O)<|fun Wg cG=>mI rfl<|yd 1 1 cG (ct bg O O (sz:=1) (vs:=[I _]) O O aD aD O O)<|fun YU Sa dS=> ?_
  (try simp only[oX]at dS)
  refine aG O dS (yg _ [k] _ (dS.dQ (i:=0) (n:=1) (sz:=1) O O aD)) (aq call203 O)<|fun w20 fp=>V (uB O O)<|aa<|aF O (fun FT=> ?_) (fun FT=> ?_)
  .refine SR<|va (v:=B false) rfl<|aa<|aj<|oB O ?_ fp
   exact(afu hc ⟨h0,J⟩ aR).symm
  refine ak<|ax<|V (ay aiV O J)<|mI rfl<|aa<| ?_
  refine⟨k+1,aZ,pB.u4.u4.u4,(fp.sub (sQ sR)),(aK I aN),J,J,?_⟩
  exact fun j a b=>if e:j=k then e▸Gr ‹_›else hf j a J
 refine a7 (id:=0) rfl<|SR<|va (v:=B true) rfl<|aa<|aj<|oB O ?_ cK
 exact(abU hc fun j a b=>hf j a J).symm
theorem zF(r:Rl)(w:World):Calls Tryz.prog 148 #[.agg (dM r)] w (Pure (B (fT r)) w):=by
 have hp:=dB r
 refine eH func148 rfl rfl fun hH=>SR<|iu hH (v:= .agg _) rfl<|fun b3 w1 aW=>va (v:=B false) rfl<|aa<|ah<|SR<|va (v:=I 0) rfl<|aa<|aC<|bj (G:=Int) (fun k s' w'=>(Fr (rg 2 24 []) _ s')/\(Hp w w' _)/\(s' 3=I k)/\(0<=k)/\(k<=pts r)/\(∀i j:Int,0<=j->j<i->i<k->(bI r i j&&bI r j i)=false)) (fun k=>(pts r-k).toNat) (0) ⟨Fr.refl _ _,aW,rfl,J,J,fun i j a b c=>absurd c J⟩<| ?_
 rintro k sg4 w4 ⟨B6,gE,yh,k0,k1,hf⟩
 have zB:=B6.w1 1
 refine ah<|SR<|aE yh<|V (aO bQ O O zB (gE.blk (i:=0) O))<|aG O gE (bP _ _) (aq ov O)<|fun w5 gT=>V (aL O O)<|aa<|aF O (fun h8=> ?_) (fun h8=> ?_)
 .refine ak<|ah<|aC<|SR<|va (v:=I 0) rfl<|aa<|aC<|bj (G:=Int) (fun j s' w'=>(Fr (2::(4::(rg 11 15 []))) _ s')/\(Hp w w' _)/\(s' 4=I j)/\(0<=j)/\(j<=k)/\(∀x:Int,0<=x->x<j->(bI r k x&&bI r x k)=false)) (fun j=>(k-j).toNat) (0) ⟨Fr.refl _ _,gT,rfl,J,J,fun x a b=>absurd b J⟩<| ?_
  rintro j sg9 w9 ⟨fr9,iB,Oh,j0,j1,hg⟩
  obtain⟨YV,YW⟩:=fr9.t2 1 zB 3 yh
  refine ah<|SR<|aE Oh<|aE YW<|V (aL O O)<|aa<|aF O (fun h11=> ?_) (fun h11=> ?_)
  .refine ak<|ah<|aC<|SR<|V (aO bQ O O YV (iB.blk (i:=0) O))<|aE YW<|aE Oh<|aG O iB (bH _ _ _ _) (bB jS O O O)<|fun B7 cm=>mB rfl<|gm 20 O (fun Ja=> ?_) (fun Ja=> ?_)
   .refine V (aO bQ O O YV (cm.blk (i:=0) O))<|aE Oh<|aE YW<|aG O cm (bH _ _ _ _) (bB jS O O O)<|fun JZ dU=>mB rfl<|aa<|bY O (fun MU=> ?_) (fun MU=> ?_)
    .refine SR<|va (v:=B false) rfl<|aa<|aj<|oB O ?_ dU
     exact(Ty ‹bI r k j=true› ‹bI r j k=true› aR).symm
    refine ak<|ax<|aE Oh<|V (ay O O J)<|aI rfl<|aa<| ?_
    refine⟨j+1,aZ,fr9.u4.u4.u4.u4,dU,(aK I aN),J,J,?_⟩
    exact fun x u v=>if e:x=j then e▸(by rw[‹bI r j k=false›];simp)else hg x u J
   refine aE (v:=B false) rfl<|aa<|dh rfl<|ak<|ax<|aE Oh<|V (ay O O J)<|aI rfl<|aa<| ?_
   refine⟨j+1,aZ,fr9.u4.u4.u4.u4,cm,(aK I aN),J,J,?_⟩
   exact fun x u v=>if e:x=j then e▸(by rw[‹bI r k j=false›];rfl)else hg x u J
  refine a7 (id:=2) rfl<|ax<|aE YW<|V (ay O O J)<|aI rfl<|aa<| ?_
  refine⟨k+1,aZ,(((B6.u4.u1).t fr9 O)).u4.u1.u1,iB,(aK I aN),J,J,?_⟩
  exact fun i x u v y=>if e:i=k then e▸hg x u (by omega)else hf i x u v J
 refine a7 (id:=0) rfl<|SR<|V (aO bQ O O zB (gT.blk (i:=0) O))<|aG O gT (pQ _ _) (aq call182 O)<|fun w20 fp=>aB rfl<|aa<|aj<|oB O ?_ fp
 exact(abV aR hf).symm
theorem YX(r:Rl)(i:Int)(w:World):Calls Tryz.prog 210 #[.agg (dM r),I i] w (Pure (B (Ar r i)) w):=by
 have hp:=dB r
 have hnn:(afr r.n).n=pts r:=rfl
 refine eH func210 rfl rfl fun hH=>SR<|iu hH (v:= .agg _) rfl<|fun b3 w1 aW=>va (v:=B false) rfl<|aa<|SR<|mI rfl<|V (dA O O)<|mB rfl<|bN 7 O (fun h5=> ?_) (fun h5=> ?_)
 .refine mI rfl<|V (fA bQ 0 O bz O)<|lV bx aW 0 O O (fF _)<|aG O aW (zE _ _) (aq call208 O)<|fun w6 eD=>V (GX bQ O isAgg3 O (fF _))<|V (aL O O)<|mB rfl<|aB rfl<|aa<|aj<|oB O ?_ eD
  (rw[Ar,gG];simp only[ep,rZ,yG];omega)
 refine aE (v:=B false) rfl<|aB rfl<|aa<|aj<|oB O ?_ aW
 (rw[Ar,gG];simp only[ep,rZ,yG];omega)
theorem DD(r:Rl)(i:Int)(w:World)(hT:oh w):Calls Tryz.prog 176 #[.agg (dM r),I i] w (Pure (U (iz r i)) w):=by
 refine eH func176 rfl rfl fun hH=>SR<|iu hH (v:= .agg _) rfl<|fun b3 w1 aW=>va (v:=U 0#64) rfl<|aa<|ah<|eF aM aW<|fun w4 bU=>AT 0 O bU (fun w hS=>aO bQ O O O (hS.blk (i:=0) O))<|AQ 1 O bU (mV (I _) O)<|A1 2<|cY O aH O bU sR (f:=fun b=> .slice (some ⟨b,0,none⟩) 1 1) (ct bg O O (sz:=1) (vs:=[I _]) O O aD aD O O)<|fun b8 w6 eD=> ?_
 (try simp only[oX]at eD)
 refine A1 3<|cJ O aH O eD (sQ sR) (yg _ [i] _ (eD.dQ (i:=0) (n:=1) (sz:=1) O O aD)) (aq call203 O)<|fun w9 bW=>A1 4<|cJ O aH O bW (sQ sR) (Ca _ _ _ (hT.hp bW)) (aJ call209 O O)<|fun ID cK=>AQ 5 O (cK.sub (sQ sR)) (aV (U _) O)<|AD<|aj<|oU O ?_ cK
 rfl
theorem DE(r:Rl)(i:Int)(w:World)(hT:oh w):Calls Tryz.prog 177 #[.agg (dM r),I i] w (Pure (U (bS r i)) w):=by
 refine eH func177 rfl rfl fun hH=>SR<|iu hH (v:= .agg _) rfl<|fun b3 w1 aW=>va (v:=U 0#64) rfl<|aa<|ah<|SR<|V (aO bQ O O O (aW.blk (i:=0) O))<|mI rfl<|aG O aW (YX _ _ _) (aJ call210 O O)<|fun w4 bU=>V (bO O)<|aa<|bY O (fun h8=> ?_) (fun h8=> ?_)
 .refine SR<|va (v:=U 0#64) rfl<|aa<|aj<|oU O ?_ bU
  rw[bS,aP (by simpa using‹(!Ar r i)=true›)]
 refine ak<|ah<|eF aM bU<|fun w9 bW=>AT 0 O bW (fun w hS=>aO bQ O O O (hS.blk (i:=0) O))<|AQ 1 O bW (mV (I _) O)<|A1 2<|cY O aH O bW sR (f:=fun b=> .slice (some ⟨b,0,none⟩) 1 1) (ct bg O O (sz:=1) (vs:=[I _]) O O aD aD O O)<|fun MY ID cK=> ?_
 (try simp only[oX]at cK)
 refine A1 3<|cJ O aH O cK (sQ sR) (yg _ [i] _ (cK.dQ (i:=0) (n:=1) (sz:=1) O O aD)) (aq call203 O)<|fun PO iX=>A1 4<|cJ O aH O iX (sQ sR) (xp _ _ _) (aJ call211 O O)<|fun JZ dU=>AQ 5 O (dU.sub (sQ sR)) (aV (U _) O)<|AD<|aj<|oU O ?_ dU
 rw[bS,aQ (by simpa using‹(!Ar r i)=false›)]
theorem An(r:Rl)(i j:Int)(f:FuncId)(gg:Int->BitVec 64)(w:World)(hf:∀args w,(callFunc f args).run Tryz.prog w= .ok (.enter f args) w)(go:∀i w,oh w->Calls Tryz.prog f #[.agg (dM r),I i] w (Pure (U (gg i)) w))(hn:∀u,hasB (gg i&&&gg j) u=true->u<pts r)(hT:oh w):Calls Tryz.prog 204 #[.agg (dM r),I i,I j,.func (.func f) #[] #[]] w (Pure (.tuple #[I (z7 gg (pts r) i j).1,B (z7 gg (pts r) i j).2]) w):=by
 have hl:=E8 (gg i&&&gg j)
 refine eH func204 rfl rfl fun hH=>SR<|iu hH (v:= .agg _) rfl<|fun b3 w1 aW=>va (v:=I 0) rfl<|va (v:=B false) rfl<|aa<|ah<|eF aM aW<|fun w4 bU=>have Of:=bU;AQ 0 O Of (mV (.func _ _ _) rfl)<|AT 1 rfl Of (fun w hS=>aO bQ O O O (hS.blk (i:=0) O))<|AQ 2 O Of (mV (I _) O)<|AQ 4 O Of (mV (.func _ _ _) O)<|AT 5 O Of (fun w hS=>aO bQ O O O (hS.blk (i:=0) O))<|AQ 6 O Of (mV (I _) O)<|A1 3<|cJ O aH O bU sR (go _ _ (hT.hp bU)) (iH hf (cs:=[]) O O O)<|fun w6 eD=>A1 7<|cJ O aH O eD sR (go _ _ (hT.hp eD)) (iH hf (cs:=[]) O O O)<|fun w8 iB=>AQ 8 O iB (mq O O)<|AQ 9 O iB (aV (U _) O)<|AD<|ah<|SR<|mU rfl<|Bt O iB (B8 _ _ (hT.hp iB)) (aq call233 O)<|fun v12 Gk dF=>V (aA (dF.sl (i:=0) O) O bg O)<|aE (v:=I 0) rfl<|aa<|aC<|bj (G:=Int) (fun a s' w'=>(Fr (8::9::(12::(rg 25 12 []))) _ s')/\(Hp w w' _)/\(s' 25=I a)/\(0<=a)/\(a<=(gf (gg i&&&gg j)).length)/\(∀b:Int,0<=b->b<a->dV (gg i&&&gg j) (gg ((gf (gg i&&&gg j)).getD b.toNat 0))=false)) (fun a=>((gf (gg i&&&gg j)).length-a).toNat) (0) ⟨Fr.refl _ _,dF,rfl,J,J,fun b x y=>absurd y J⟩<| ?_
 rintro a ado C7 ⟨tw,cm,MZ,a0,a1,hg⟩
 have Ao:=tw.vv 3 (a:= .func _ _ _) rfl rfl
 obtain⟨FU,asV,YY,M0⟩:=tw.w4 4 10 23 24
 refine SR<|V (aL MZ M0)<|aa<|ah<|aF O (fun Ja=> ?_) (fun Ja=> ?_)
 .refine ak<|ah<|aC<|SR<|V (ag (cm.sl (i:=0) O) bg bz YY MZ J)<|V (au bx O O ((cm.sl (i:=0) O).cell _ _ (dZ J)))<|aI rfl<|aa<|SR<|aE asV<|aE Ao<|V (aO bQ O O FU (cm.blk (i:=1) O))<|mI rfl<|aG O cm (go _ _ (hT.hp cm)) (iH hf (cs:=[]) O O O)<|fun JZ dU=>aG O dU (EM _ _ _) (aJ call140 O O)<|fun PR jy=>aa<|bY O (fun Sb=> ?_) (fun Sb=> ?_)
  .refine SR<|mI rfl<|aI rfl<|va (v:=B true) rfl<|aa<|aj<| ?_
   refine kG O (aK I ?_) (aK B ?_) jy.below<;>rw[afD hn a0 aR aR hg]
  refine ak<|ax<|V (ay MZ O J)<|mI rfl<|aa<| ?_
  refine⟨a+1,aZ,tw.u4.u4.u4,jy,(aK I aN),J,J,?_⟩
  exact fun b x y=>if e:b=a then e▸‹_›else hg b x J
 refine a7 (id:=0) rfl<|SR<|va (v:=I 0) rfl<|va (v:=B false) rfl<|aa<|aj<| ?_
 refine kG O (aK I ?_) (aK B ?_) cm.below<;>rw[alo aR hg]
theorem zG(r:Rl)(i j:Int)(w:World)(hT:oh w):Calls Tryz.prog 168 #[.agg (dM r),I i,I j] w (Pure (.tuple #[I (iO r i j).1,B (iO r i j).2]) w):=by
 refine eH func168 rfl rfl fun hH=>SR<|iu hH (v:= .agg _) rfl<|fun b3 w1 aW=>va (v:=I 0) rfl<|va (v:=B false) rfl<|aa<|SR<|V (aO bQ O O O (aW.blk (i:=0) O))<|mI rfl<|mI rfl<|aG O aW (An r i j 176 (iz r) _ call176 (fun i w h=>DD r i w h) (fun u h=>afE h) (hT.hp aW)) (jb call204 O O O O)<|fun w4 bU=>V (bA O (v:=I _) O)<|V (bA O (v:=B _) O)<|aI rfl<|aB rfl<|aa<|aj<|kG O (aK I ?_) (aK B ?_) bU.below
 all_goals rfl
theorem Sd(r:Rl)(i j:Int)(w:World)(hT:oh w):Calls Tryz.prog 169 #[.agg (dM r),I i,I j] w (Pure (.tuple #[I (qh r i j).1,B (qh r i j).2]) w):=by
 refine eH func169 rfl rfl fun hH=>SR<|iu hH (v:= .agg _) rfl<|fun b3 w1 aW=>va (v:=I 0) rfl<|va (v:=B false) rfl<|aa<|SR<|V (aO bQ O O O (aW.blk (i:=0) O))<|mI rfl<|mI rfl<|aG O aW (An r i j 177 (bS r) _ call177 (fun i w h=>DE r i w h) (fun u h=>abX h) (hT.hp aW)) (jb call204 O O O O)<|fun w4 bU=>V (bA O (v:=I _) O)<|V (bA O (v:=B _) O)<|aI rfl<|aB rfl<|aa<|aj<|kG O (aK I ?_) (aK B ?_) bU.below
 all_goals rfl
theorem n9(r:Rl)(i:Int)(w:World)(hT:oh w):Calls Tryz.prog 144 #[.agg (dM r),I i] w (Pure (U (bS r i)) w):=by
 refine eH func144 rfl rfl fun hH=>SR<|iu hH (v:= .agg _) rfl<|fun b3 w1 aW=>va (v:=U 0#64) rfl<|aa<|SR<|V (aO bQ O O O (aW.blk (i:=0) O))<|mI rfl<|aG O aW (DE _ _ _ (hT.hp aW)) (aJ call177 O O)<|fun w4 bU=>aU rfl<|aa<|aj<|oU O ?_ bU
 rfl
theorem xw(r:Rl)(s:BitVec 64)(w:World)(hT:oh w):Calls Tryz.prog 181 #[.agg (dM r),U s] w (Pure (.tuple #[I (eL r s).1,B (eL r s).2]) w):=by
 have hp:=dB r
 have hnn:(afr r.n).n=pts r:=rfl
 refine eH func181 rfl rfl fun hH=>SR<|iu hH (v:= .agg _) rfl<|fun b3 w1 aW=>va (v:=I 0) rfl<|va (v:=B false) rfl<|aa<|ah<|SR<|V (fA bQ 0 O bz O)<|lV bx aW 0 O O (fF _)<|aG O aW (zE _ _) (aq call208 O)<|fun w4 bU=>V (GX bQ O isAgg3 O (fF _))<|aE (v:=I 0) rfl<|aa<|aC<|bj (G:=Int) (fun k s' w'=>(Fr (rg 4 3 (rg 11 10 [])) _ s')/\(Hp w w' _)/\(s' 11=I k)/\(0<=k)/\(k<=pts r)/\(∀j:Int,0<=j->j<k->bS r j≠s)) (fun k=>(pts r-k).toNat) (0) ⟨Fr.refl _ _,bU,rfl,J,J,fun j x y=>absurd y J⟩<| ?_
 rintro k sg6 w6 ⟨MH,gT,MI,h0,hk,hg⟩
 obtain⟨Ob,aiO,aiL⟩:=MH.w3 1 2 10
 refine SR<|V (aL MI aiL)<|aa<|ah<|aF O (fun h8=> ?_) (fun h8=> ?_)
 .refine ak<|ah<|aC<|SR<|aE MI<|aI rfl<|aa<|SR<|V (aO bQ O O aiO (gT.blk (i:=0) O))<|mI rfl<|aG O gT (n9 _ _ _ (hT.hp gT)) (aJ GJ O O)<|fun w9 bW=>aE Ob<|V (js O O)<|aa<|aF O (fun h12=> ?_) (fun h12=> ?_)
  .refine SR<|mI rfl<|aI rfl<|va (v:=B true) rfl<|aa<|aj<| ?_
   refine kG O (aK I ?_) (aK B ?_) bW.below<;>rw[CI h0 J aR hg]
  refine ak<|ax<|V (ay MI O J)<|mI rfl<|aa<| ?_
  refine⟨k+1,aZ,MH.u4.u4.u1.u1,bW,(aK I aN),J,J,?_⟩
  exact fun j x y=>if e:j=k then e▸‹¬bS r k=s›else hg j x J
 refine a7 (id:=0) rfl<|SR<|va (v:=I 0) rfl<|va (v:=B false) rfl<|aa<|aj<| ?_
 refine kG O (aK I ?_) (aK B ?_) gT.below<;>rw[Fg J hg]
theorem Oi(r:Rl)(a b:BitVec 64)(w:World)(hT:oh w):Calls Tryz.prog 205 #[.agg (dM r),U a,U b] w (Pure (U (jE r a b)) w):=by
 refine eH func205 rfl rfl fun hH=>SR<|iu hH (v:= .agg _) rfl<|fun b3 w1 aW=>va (v:=U 0#64) rfl<|aa<|ah<|SR<|V (aO bQ O O O (aW.blk (i:=0) O))<|mU rfl<|aG O aW (xw _ _ _ (hT.hp aW)) (aJ call181 O O)<|fun w4 bU=> ?_
 refine V (run_move bG) ?_
 refine V (bA O (v:=I _) O)<|V (bA O (v:=B _) O)<|aI rfl<|aB rfl<|aa<|SR<|mB rfl<|aa<|bY O (fun h7=> ?_) (fun h7=> ?_)
 .refine SR<|V (aO bQ O O O (bU.blk (i:=0) O))<|mU rfl<|aG O bU (xw _ _ _ (hT.hp bU)) (aJ call181 O O)<|fun w8 iB=> ?_
  refine V (run_move bG) ?_
  refine V (bA O (v:=I _) O)<|V (bA O (v:=B _) O)<|aI rfl<|aB rfl<|aa<|SR<|mB rfl<|aa<|bY O (fun h11=> ?_) (fun h11=> ?_)
  .refine SR<|V (aO bQ O O O (iB.blk (i:=0) O))<|mI rfl<|mI rfl<|aG O iB (zG _ _ _ _ (hT.hp iB)) (bB call168 O O O)<|fun B7 cm=> ?_
   refine V (run_move bG) ?_
   refine V (bA O (v:=I _) O)<|V (bA O (v:=B _) O)<|aI rfl<|aB rfl<|aa<|SR<|mB rfl<|aa<|bY O (fun Ja=> ?_) (fun Ja=> ?_)
   .refine SR<|V (aO bQ O O O (cm.blk (i:=0) O))<|mI rfl<|aG O cm (n9 _ _ _ (hT.hp cm)) (aJ GJ O O)<|fun JZ dU=>aU rfl<|aa<|aj<|oU O ?_ dU
    rw[OH aR aR aR]
   refine ak<|SR<|mU rfl<|mU rfl<|V (jC O O)<|aU rfl<|aa<|aj<|oU O ?_ cm
   rw[abY aR]
  refine ak<|SR<|mU rfl<|mU rfl<|V (jC O O)<|aU rfl<|aa<|aj<|oU O ?_ iB
  rw[OJ aR]
 refine ak<|SR<|mU rfl<|mU rfl<|V (jC O O)<|aU rfl<|aa<|aj<|oU O ?_ bU
 rw[OI aR]
theorem Vs(r:Rl)(f:FuncId)(gg:Int->BitVec 64)(w:World)(hf:∀args w,(callFunc f args).run Tryz.prog w= .ok (.enter f args) w)(go:∀i w,oh w->Calls Tryz.prog f #[.agg (dM r),I i] w (Pure (U (gg i)) w))(hT:oh w):Calls Tryz.prog 175 #[.agg (dM r),.func (.func f) #[] #[]] w (Pure (.tuple #[I (Eo r gg).1,B (Eo r gg).2]) w):=by
 have hp:=dB r
 have hnn:(afr r.n).n=pts r:=rfl
 refine eH func175 rfl rfl fun hH=>SR<|iu hH (v:= .agg _) rfl<|fun b3 w1 aW=>va (v:=I 0) rfl<|va (v:=B false) rfl<|aa<|SR<|V (fA bQ 0 O bz O)<|lV bx aW 0 O O (fF _)<|aG O aW (zE _ _) (aq call208 O)<|fun w4 bU=>V (GX bQ O isAgg3 O (fF _))<|aI rfl<|aa<|ah<|SR<|mI rfl<|aE (v:=I 0) rfl<|aa<|aC<|bj (G:=Int) (fun k s' w'=>(Fr (4::5::(7::(rg 13 12 []))) _ s')/\(Hp w w' _)/\(s' 13=I k)/\(0<=k)/\(k<=pts r)/\(∀j:Int,0<=j->j<k->gg j≠below (pts r))) (fun k=>(pts r-k).toNat) (0) ⟨Fr.refl _ _,bU,rfl,J,J,fun j x y=>absurd y J⟩<| ?_
 rintro k sg6 w6 ⟨MH,gT,aiW,h0,hk,hg⟩
 have Ob:=MH.vv 1 (a:= .func _ _ _) rfl rfl
 obtain⟨aiO,aEU,axD⟩:=MH.w3 2 6 12
 refine SR<|V (aL aiW axD)<|aa<|ah<|aF O (fun h8=> ?_) (fun h8=> ?_)
 .refine ak<|ah<|aC<|SR<|aE aiW<|aI rfl<|aa<|SR<|aE Ob<|V (aO bQ O O aiO (gT.blk (i:=0) O))<|mI rfl<|aG O gT (go _ _ (hT.hp gT)) (iH hf (cs:=[]) O O O)<|fun w9 bW=>aE aEU<|aG O bW (n7 _ _) (aq GG O)<|fun ID cK=>V (js O O)<|aa<|aF O (fun JY=> ?_) (fun JY=> ?_)
  .refine SR<|mI rfl<|aI rfl<|va (v:=B true) rfl<|aa<|aj<| ?_
   refine kG O (aK I ?_) (aK B ?_) cK.below<;>rw[alr h0 J aR hg]
  refine ak<|ax<|V (ay aiW O J)<|mI rfl<|aa<| ?_
  refine⟨k+1,aZ,MH.u4.u4.u4,cK,(aK I aN),J,J,?_⟩
  exact fun j x y=>if e:j=k then e▸‹¬gg k=below _›else hg j x J
 refine a7 (id:=0) rfl<|SR<|va (v:=I 0) rfl<|va (v:=B false) rfl<|aa<|aj<| ?_
 refine kG O (aK I ?_) (aK B ?_) gT.below<;>rw[aqY J hg]
theorem M1(r:Rl)(w:World)(hT:oh w):Calls Tryz.prog 143 #[.agg (dM r)] w (Pure (.tuple #[I (Eo r (iz r)).1,B (Eo r (iz r)).2]) w):=by
 refine eH func143 rfl rfl fun hH=>SR<|iu hH (v:= .agg _) rfl<|fun b3 w1 aW=>va (v:=I 0) rfl<|va (v:=B false) rfl<|aa<|SR<|V (aO bQ O O O (aW.blk (i:=0) O))<|aG O aW (Vs r 176 (iz r) _ call176 (fun i w h=>DD r i w h) (hT.hp aW)) (aJ call175 O O)<|fun w4 bU=>V (bA O (v:=I _) O)<|V (bA O (v:=B _) O)<|aI rfl<|aB rfl<|aa<|aj<|kG O (aK I ?_) (aK B ?_) bU.below
 all_goals rfl
theorem Jb(r:Rl)(w:World)(hT:oh w):Calls Tryz.prog 138 #[.agg (dM r)] w (Pure (B (sr r)) w):=by
 have hp:=dB r
 refine eH func138 rfl rfl fun hH=>SR<|iu hH (v:= .agg _) rfl<|fun b3 w1 aW=>va (v:=B false) rfl<|aa<|ah<|SR<|V (fA bQ 0 O bz O)<|lV bx aW 0 O O (fF _)<|V (aL O O)<|mB rfl<|bN 12 O (fun h5=> ?_) (fun h5=> ?_)
 .refine aE (v:=B true) rfl<|mB rfl<|cC O rfl<|aE (v:=B true) rfl<|aa<|cB rfl<|SR<|va (v:=B false) rfl<|aa<|aj<|oB O ?_ aW
  exact(JA J).symm
 refine V (fA bQ 0 O bz O)<|lV bx aW 0 O O (fF _)<|V (dz O O)<|mB rfl<|mB rfl<|bN 17 O (fun h7=> ?_) (fun h7=> ?_)
 .refine aE (v:=B true) rfl<|aa<|cB rfl<|SR<|va (v:=B false) rfl<|aa<|aj<|oB O ?_ aW
  exact(JA J).symm
 refine V (aO bQ O O O (aW.blk (i:=0) O))<|aG O aW (MW _ _ (hT.hp aW)) (aq call167 O)<|fun w8 iB=>V (bO O)<|mB rfl<|aa<|bY O (fun h12=> ?_) (fun h12=> ?_)
 .refine SR<|va (v:=B false) rfl<|aa<|aj<|oB O ?_ iB
  exact(ZS (nt aR)).symm
 refine ak<|ah<|SR<|V (fA bQ 0 O bz O)<|lV bx iB 0 O O (fF _)<|aE (v:=I 0) rfl<|aa<|aC<|have hn:1<=r.n/\r.n<=64:=J;have ho:fT r=true:=nf aR;bj (G:=Int) (fun i s' w'=>(Fr (rg 2 7 (rg 24 29 [])) _ s')/\(Hp w w' _)/\(s' 24=I i)/\(0<=i)/\(i<=r.n)/\(∀a b:Int,0<=b->b<a->a<i->tM r a b=true)) (fun i=>(r.n-i).toNat) (0) ⟨Fr.refl _ _,iB,rfl,J,J,fun a b x y z=>absurd z J⟩<| ?_
 rintro i ado C7 ⟨tw,cm,M0,i0,i1,hg⟩
 obtain⟨FV,YY⟩:=tw.w2 1 23
 refine SR<|V (aL M0 YY)<|aa<|ah<|aF O (fun Ja=> ?_) (fun Ja=> ?_)
 .refine ak<|ah<|aC<|SR<|aE M0<|aI rfl<|aa<|SR<|mI rfl<|aE (v:=I 0) rfl<|aa<|aC<|bj (G:=Int) (fun j s' w'=>(Fr (2::(rg 4 5 (rg 28 24 []))) _ s')/\(Hp w w' _)/\(s' 28=I j)/\(0<=j)/\(j<=i)/\(∀b:Int,0<=b->b<j->tM r i b=true)) (fun j=>(i-j).toNat) (0) ⟨Fr.refl _ _,cm,rfl,J,J,fun b x y=>absurd y J⟩<| ?_
  rintro j adp JZ ⟨oZ,cG,YZ,j0,j1,hh⟩
  obtain⟨qF,asW⟩:=oZ.w2 3 27
  obtain⟨wH,asX⟩:=oZ.t2 1 FV 24 M0
  refine SR<|V (aL YZ asW)<|aa<|ah<|aF O (fun pW=> ?_) (fun pW=> ?_)
  .refine ak<|ah<|aC<|SR<|aE YZ<|aI rfl<|aa<|SR<|V (aO bQ O O wH (cG.blk (i:=0) O))<|aE qF<|mI rfl<|aG O cG (zG _ _ _ _ (hT.hp cG)) (bB call168 O O O)<|fun Vo cL=> ?_
   refine V (run_move bG) ?_
   refine V (bA O (v:=I _) O)<|V (bA O (v:=B _) O)<|aI rfl<|aB rfl<|aa<|SR<|V (aO bQ O O wH (cL.blk (i:=0) O))<|aE qF<|mI rfl<|aG O cL (Sd _ _ _ _ (hT.hp cL)) (bB call169 O O O)<|fun S5 eN=> ?_
   refine V (run_move bG) ?_
   refine V (bA O (v:=I _) O)<|V (bA O (v:=B _) O)<|aI rfl<|aB rfl<|aa<|SR<|mB rfl<|V (bO O)<|mB rfl<|gm 47 O (fun h26=> ?_) (fun h26=> ?_)
   .refine aE (v:=B true) rfl<|aa<|cB rfl<|SR<|va (v:=B false) rfl<|aa<|aj<|oB O ?_ eN
    exact(JC ‹i<r.n› j0 ‹j<i› aeC).symm
   refine mB rfl<|V (bO O)<|mB rfl<|aa<|bY O (fun h28=> ?_) (fun h28=> ?_)
   .refine SR<|va (v:=B false) rfl<|aa<|aj<|oB O ?_ eN
    exact(JC ‹i<r.n› j0 ‹j<i› aey).symm
   refine ak<|ax<|V (ay YZ O J)<|mI rfl<|aa<| ?_
   refine⟨j+1,aZ,oZ.u4.u4.u4.u4.u4.u4.u4.u1,eN,(aK I aN),J,J,?_⟩
   exact fun b x y=>if e:b=j then e▸(by rw[tM,cH];exact⟨nf ‹(!(iO r i j).2)=false›,nf ‹(!(qh r i j).2)=false›⟩)else hh b x J
  refine a7 (id:=2) rfl<|ax<|V (ay asX O J)<|mI rfl<|aa<| ?_
  refine⟨i+1,aZ,(((tw.u4.u1).t oZ O)).u1.u1.u1,cG,(aK I aN),J,J,?_⟩
  exact fun a b x y z=>if e:a=i then e▸hh b x (by omega)else hg a b x y J
 refine a7 (id:=0) rfl<|SR<|va (v:=B true) rfl<|aa<|aj<|oB O ?_ cm
 exact(ZT hn ho aR hg).symm
theorem AP(r:Rl)(i j:Int)(w:World):Calls Tryz.prog 121 #[.agg (dM r),I i,I j] w (Pure (.tuple #[I (iO r i j).1,B (iO r i j).2]) w):=by
 have hp:=dB r
 refine eH func121 rfl rfl fun hH=>SR<|iu hH (v:= .agg _) rfl<|fun b3 w1 aW=>va (v:=I 0) rfl<|va (v:=B false) rfl<|aa<|ah<|SR<|va (v:=I 0) rfl<|aa<|aC<|bj (G:=Int) (fun u s' w'=>(Fr (rg 6 46 []) _ s')/\(Hp w w' _)/\(s' 8=I u)/\(0<=u)/\(u<=pts r)/\(∀x:Int,0<=x->x<u->nc (iz r) i j x=false)) (fun u=>(pts r-u).toNat) (0) ⟨Fr.refl _ _,aW,rfl,J,J,fun x a b=>absurd b J⟩<| ?_
 rintro u sg4 w4 ⟨B6,gE,HM,u0,u1,hg⟩
 obtain⟨zB,Jc,yh⟩:=B6.w3 1 2 3
 refine ah<|SR<|aE HM<|V (aO bQ O O yh (gE.blk (i:=0) O))<|aG O gE (bP _ _) (aq ov O)<|fun w5 gT=>V (aL O O)<|aa<|aF O (fun h8=> ?_) (fun h8=> ?_)
 .refine ak<|ah<|aC<|SR<|V (aO bQ O O yh (gT.blk (i:=0) O))<|aE zB<|aE HM<|aG O gT (bH _ _ _ _) (bB jS O O O)<|fun w9 bW=>mB rfl<|gm 21 O (fun h12=> ?_) (fun h12=> ?_)
  .refine V (aO bQ O O yh (bW.blk (i:=0) O))<|aE Jc<|aE HM<|aG O bW (bH _ _ _ _) (bB jS O O O)<|fun C7 cF=>mB rfl<|aB rfl<|aa<|ah<|SR<|va (v:=I 0) rfl<|aa<|aC<|bj (G:=Int) (fun v s' w'=>(Fr (9::10::(rg 27 23 [])) _ s')/\(Hp w w' _)/\(s' 9=B (Dq r i j u v))/\(s' 10=I v)/\(0<=v)/\(v<=pts r)) (fun v=>(pts r-v).toNat) (0) ⟨Fr.refl _ _,cF,(aK B (by simp[Dq,upto, *])),rfl,J,J⟩<| ?_
   rintro v adp JZ ⟨oZ,cG,FW,nP,v0,v1⟩
   obtain⟨wH,Vt,qF,M3⟩:=oZ.t4 1 zB 2 Jc 3 yh 8 HM
   refine ah<|SR<|aE nP<|V (aO bQ O O qF (cG.blk (i:=0) O))<|aG O cG (bP _ _) (aq ov O)<|fun PR jy=>V (aL O O)<|aa<|aF O (fun Sb=> ?_) (fun Sb=> ?_)
   .refine ak<|ah<|aC<|SR<|V (aO bQ O O qF (jy.blk (i:=0) O))<|aE wH<|aE nP<|aG O jy (bH _ _ _ _) (bB jS O O O)<|fun S5 eN=>mB rfl<|gm 37 O (fun HN=> ?_) (fun HN=> ?_)
    .refine V (aO bQ O O qF (eN.blk (i:=0) O))<|aE Vt<|aE nP<|aG O eN (bH _ _ _ _) (bB jS O O O)<|fun Vv dD=>mB rfl<|mB rfl<|gm 43 O (fun qQ=> ?_) (fun qQ=> ?_)
     .refine V (aO bQ O O qF (dD.blk (i:=0) O))<|aE M3<|aE nP<|aG O dD (bH _ _ _ _) (bB jS O O O)<|fun w30 l7=>V (bO O)<|mB rfl<|aa<|bY O (fun h34=> ?_) (fun h34=> ?_)
      .refine ax<|va (v:=B false) rfl<|aa<|ax<|aE nP<|V (ay O O J)<|aI rfl<|aa<| ?_
       refine⟨v+1,aZ,oZ.u4.u4.u4.u4.u4.u4.u1,l7,(aK B Bn),(aK I aN),J,J⟩
      refine ak<|ax<|aE nP<|V (ay O O J)<|aI rfl<|aa<| ?_
      refine⟨v+1,aZ,oZ.u4.u4.u4.u4.u4.u4,l7,(jA FW (aK B Bn)),(aK I aN),J,J⟩
     refine aE (v:=B false) rfl<|aa<|dh rfl<|ak<|ax<|aE nP<|V (ay O O J)<|aI rfl<|aa<| ?_
     refine⟨v+1,aZ,oZ.u4.u4.u4.u4.u4.u4,dD,(jA FW (aK B Bn)),(aK I aN),J,J⟩
    refine aE (v:=B false) rfl<|mB rfl<|cC O rfl<|aE (v:=B false) rfl<|aa<|dh rfl<|ak<|ax<|aE nP<|V (ay O O J)<|aI rfl<|aa<| ?_
    refine⟨v+1,aZ,oZ.u4.u4.u4.u4.u4.u4,eN,(jA FW (aK B Bn)),(aK I aN),J,J⟩
   refine a7 (id:=2) rfl<|SR<|aE FW<|aa<|bY O (fun C9=> ?_) (fun C9=> ?_)
   .refine SR<|aE M3<|aI rfl<|va (v:=B true) rfl<|aa<|aj<| ?_
    (refine kG O (aK I ?_) (aK B ?_) jy.below<;>rw[TB u0 aR (show v=pts r by omega) aR hg])
   refine ak<|ax<|aE M3<|V (ay O O J)<|aI rfl<|aa<| ?_
   refine⟨u+1,aZ,(((B6.u4.u4.u4.u4).t oZ O)).u4.u4,jy,(aK I aN),J,J,?_⟩
   exact fun x a b=>if e:x=u then e▸(by rw[G9 r i j u (show v=pts r by omega)];assumption)else hg x a J
  refine aE (v:=B false) rfl<|aB rfl<|aa<|ah<|SR<|va (v:=I 0) rfl<|aa<|aC<|bj (G:=Int) (fun v s' w'=>(Fr (9::10::(rg 27 23 [])) _ s')/\(Hp w w' _)/\(s' 9=B (Dq r i j u v))/\(s' 10=I v)/\(0<=v)/\(v<=pts r)) (fun v=>(pts r-v).toNat) (0) ⟨Fr.refl _ _,bW,(aK B (by simp[Dq,upto, *])),rfl,J,J⟩<| ?_
  rintro v aEV w36 ⟨HO,nO,FY,nQ,v0,v1⟩
  obtain⟨aiY,aiZ,FZ,M4⟩:=HO.t4 1 zB 2 Jc 3 yh 8 HM
  refine ah<|SR<|aE nQ<|V (aO bQ O O FZ (nO.blk (i:=0) O))<|aG O nO (bP _ _) (aq ov O)<|fun w38 nR=>V (aL O O)<|aa<|aF O (fun h41=> ?_) (fun h41=> ?_)
  .refine ak<|ah<|aC<|SR<|V (aO bQ O O FZ (nR.blk (i:=0) O))<|aE aiY<|aE nQ<|aG O nR (bH _ _ _ _) (bB jS O O O)<|fun w42 mz=>mB rfl<|gm 37 O (fun h45=> ?_) (fun h45=> ?_)
   .refine V (aO bQ O O FZ (mz.blk (i:=0) O))<|aE aiZ<|aE nQ<|aG O mz (bH _ _ _ _) (bB jS O O O)<|fun w46 oa=>mB rfl<|mB rfl<|gm 43 O (fun h49=> ?_) (fun h49=> ?_)
    .refine V (aO bQ O O FZ (oa.blk (i:=0) O))<|aE M4<|aE nQ<|aG O oa (bH _ _ _ _) (bB jS O O O)<|fun w50 vR=>V (bO O)<|mB rfl<|aa<|bY O (fun h54=> ?_) (fun h54=> ?_)
     .refine ax<|va (v:=B false) rfl<|aa<|ax<|aE nQ<|V (ay O O J)<|aI rfl<|aa<| ?_
      refine⟨v+1,aZ,HO.u4.u4.u4.u4.u4.u4.u1,vR,(aK B Bn),(aK I aN),J,J⟩
     refine ak<|ax<|aE nQ<|V (ay O O J)<|aI rfl<|aa<| ?_
     refine⟨v+1,aZ,HO.u4.u4.u4.u4.u4.u4,vR,(jA FY (aK B Bn)),(aK I aN),J,J⟩
    refine aE (v:=B false) rfl<|aa<|dh rfl<|ak<|ax<|aE nQ<|V (ay O O J)<|aI rfl<|aa<| ?_
    refine⟨v+1,aZ,HO.u4.u4.u4.u4.u4.u4,oa,(jA FY (aK B Bn)),(aK I aN),J,J⟩
   refine aE (v:=B false) rfl<|mB rfl<|cC O rfl<|aE (v:=B false) rfl<|aa<|dh rfl<|ak<|ax<|aE nQ<|V (ay O O J)<|aI rfl<|aa<| ?_
   refine⟨v+1,aZ,HO.u4.u4.u4.u4.u4.u4,mz,(jA FY (aK B Bn)),(aK I aN),J,J⟩
  refine a7 (id:=2) rfl<|SR<|aE FY<|aa<|bY O (fun h55=> ?_) (fun h55=> ?_)
  .refine SR<|aE M4<|aI rfl<|va (v:=B true) rfl<|aa<|aj<| ?_
   (refine kG O (aK I ?_) (aK B ?_) nR.below<;>rw[TB u0 aR (show v=pts r by omega) aR hg])
  refine ak<|ax<|aE M4<|V (ay O O J)<|aI rfl<|aa<| ?_
  refine⟨u+1,aZ,(((B6.u4.u4.u4.u4).t HO O)).u4.u4,nR,(aK I aN),J,J,?_⟩
  exact fun x a b=>if e:x=u then e▸(by rw[G9 r i j u (show v=pts r by omega)];assumption)else hg x a J
 refine a7 (id:=0) rfl<|SR<|va (v:=I 0) rfl<|va (v:=B false) rfl<|aa<|aj<| ?_
 (refine kG O (aK I ?_) (aK B ?_) gT.below<;>rw[alp aR hg])
theorem AR(r:Rl)(i j:Int)(w:World):Calls Tryz.prog 184 #[.agg (dM r),I i,I j] w (Pure (.tuple #[I (qh r i j).1,B (qh r i j).2]) w):=by
 have hp:=dB r
 refine eH func184 rfl rfl fun hH=>SR<|iu hH (v:= .agg _) rfl<|fun b3 w1 aW=>va (v:=I 0) rfl<|va (v:=B false) rfl<|aa<|ah<|SR<|va (v:=I 0) rfl<|aa<|aC<|bj (G:=Int) (fun u s' w'=>(Fr (rg 6 46 []) _ s')/\(Hp w w' _)/\(s' 8=I u)/\(0<=u)/\(u<=pts r)/\(∀x:Int,0<=x->x<u->nc (bS r) i j x=false)) (fun u=>(pts r-u).toNat) (0) ⟨Fr.refl _ _,aW,rfl,J,J,fun x a b=>absurd b J⟩<| ?_
 rintro u sg4 w4 ⟨B6,gE,HM,u0,u1,hg⟩
 obtain⟨zB,Jc,yh⟩:=B6.w3 1 2 3
 refine ah<|SR<|aE HM<|V (aO bQ O O yh (gE.blk (i:=0) O))<|aG O gE (bP _ _) (aq ov O)<|fun w5 gT=>V (aL O O)<|aa<|aF O (fun h8=> ?_) (fun h8=> ?_)
 .refine ak<|ah<|aC<|SR<|V (aO bQ O O yh (gT.blk (i:=0) O))<|aE HM<|aE zB<|aG O gT (bH _ _ _ _) (bB jS O O O)<|fun w9 bW=>mB rfl<|gm 21 O (fun h12=> ?_) (fun h12=> ?_)
  .refine V (aO bQ O O yh (bW.blk (i:=0) O))<|aE HM<|aE Jc<|aG O bW (bH _ _ _ _) (bB jS O O O)<|fun C7 cF=>mB rfl<|aB rfl<|aa<|ah<|SR<|va (v:=I 0) rfl<|aa<|aC<|bj (G:=Int) (fun v s' w'=>(Fr (9::10::(rg 27 23 [])) _ s')/\(Hp w w' _)/\(s' 9=B (Dr r i j u v))/\(s' 10=I v)/\(0<=v)/\(v<=pts r)) (fun v=>(pts r-v).toNat) (0) ⟨Fr.refl _ _,cF,(aK B (by simp[Dr,upto, *])),rfl,J,J⟩<| ?_
   rintro v adp JZ ⟨oZ,cG,FW,nP,v0,v1⟩
   obtain⟨wH,Vt,qF,M3⟩:=oZ.t4 1 zB 2 Jc 3 yh 8 HM
   refine ah<|SR<|aE nP<|V (aO bQ O O qF (cG.blk (i:=0) O))<|aG O cG (bP _ _) (aq ov O)<|fun PR jy=>V (aL O O)<|aa<|aF O (fun Sb=> ?_) (fun Sb=> ?_)
   .refine ak<|ah<|aC<|SR<|V (aO bQ O O qF (jy.blk (i:=0) O))<|aE nP<|aE wH<|aG O jy (bH _ _ _ _) (bB jS O O O)<|fun S5 eN=>mB rfl<|gm 37 O (fun HN=> ?_) (fun HN=> ?_)
    .refine V (aO bQ O O qF (eN.blk (i:=0) O))<|aE nP<|aE Vt<|aG O eN (bH _ _ _ _) (bB jS O O O)<|fun Vv dD=>mB rfl<|mB rfl<|gm 43 O (fun qQ=> ?_) (fun qQ=> ?_)
     .refine V (aO bQ O O qF (dD.blk (i:=0) O))<|aE nP<|aE M3<|aG O dD (bH _ _ _ _) (bB jS O O O)<|fun w30 l7=>V (bO O)<|mB rfl<|aa<|bY O (fun h34=> ?_) (fun h34=> ?_)
      .refine ax<|va (v:=B false) rfl<|aa<|ax<|aE nP<|V (ay O O J)<|aI rfl<|aa<| ?_
       refine⟨v+1,aZ,oZ.u4.u4.u4.u4.u4.u4.u1,l7,(aK B Bo),(aK I aN),J,J⟩
      refine ak<|ax<|aE nP<|V (ay O O J)<|aI rfl<|aa<| ?_
      refine⟨v+1,aZ,oZ.u4.u4.u4.u4.u4.u4,l7,(jA FW (aK B Bo)),(aK I aN),J,J⟩
     refine aE (v:=B false) rfl<|aa<|dh rfl<|ak<|ax<|aE nP<|V (ay O O J)<|aI rfl<|aa<| ?_
     refine⟨v+1,aZ,oZ.u4.u4.u4.u4.u4.u4,dD,(jA FW (aK B Bo)),(aK I aN),J,J⟩
    refine aE (v:=B false) rfl<|mB rfl<|cC O rfl<|aE (v:=B false) rfl<|aa<|dh rfl<|ak<|ax<|aE nP<|V (ay O O J)<|aI rfl<|aa<| ?_
    refine⟨v+1,aZ,oZ.u4.u4.u4.u4.u4.u4,eN,(jA FW (aK B Bo)),(aK I aN),J,J⟩
   refine a7 (id:=2) rfl<|SR<|aE FW<|aa<|bY O (fun C9=> ?_) (fun C9=> ?_)
   .refine SR<|aE M3<|aI rfl<|va (v:=B true) rfl<|aa<|aj<| ?_
    (refine kG O (aK I ?_) (aK B ?_) jy.below<;>rw[TC u0 aR (show v=pts r by omega) aR hg])
   refine ak<|ax<|aE M3<|V (ay O O J)<|aI rfl<|aa<| ?_
   refine⟨u+1,aZ,(((B6.u4.u4.u4.u4).t oZ O)).u4.u4,jy,(aK I aN),J,J,?_⟩
   exact fun x a b=>if e:x=u then e▸(by rw[He r i j u (show v=pts r by omega)];assumption)else hg x a J
  refine aE (v:=B false) rfl<|aB rfl<|aa<|ah<|SR<|va (v:=I 0) rfl<|aa<|aC<|bj (G:=Int) (fun v s' w'=>(Fr (9::10::(rg 27 23 [])) _ s')/\(Hp w w' _)/\(s' 9=B (Dr r i j u v))/\(s' 10=I v)/\(0<=v)/\(v<=pts r)) (fun v=>(pts r-v).toNat) (0) ⟨Fr.refl _ _,bW,(aK B (by simp[Dr,upto, *])),rfl,J,J⟩<| ?_
  rintro v aEV w36 ⟨HO,nO,FY,nQ,v0,v1⟩
  obtain⟨aiY,aiZ,FZ,M4⟩:=HO.t4 1 zB 2 Jc 3 yh 8 HM
  refine ah<|SR<|aE nQ<|V (aO bQ O O FZ (nO.blk (i:=0) O))<|aG O nO (bP _ _) (aq ov O)<|fun w38 nR=>V (aL O O)<|aa<|aF O (fun h41=> ?_) (fun h41=> ?_)
  .refine ak<|ah<|aC<|SR<|V (aO bQ O O FZ (nR.blk (i:=0) O))<|aE nQ<|aE aiY<|aG O nR (bH _ _ _ _) (bB jS O O O)<|fun w42 mz=>mB rfl<|gm 37 O (fun h45=> ?_) (fun h45=> ?_)
   .refine V (aO bQ O O FZ (mz.blk (i:=0) O))<|aE nQ<|aE aiZ<|aG O mz (bH _ _ _ _) (bB jS O O O)<|fun w46 oa=>mB rfl<|mB rfl<|gm 43 O (fun h49=> ?_) (fun h49=> ?_)
    .refine V (aO bQ O O FZ (oa.blk (i:=0) O))<|aE nQ<|aE M4<|aG O oa (bH _ _ _ _) (bB jS O O O)<|fun w50 vR=>V (bO O)<|mB rfl<|aa<|bY O (fun h54=> ?_) (fun h54=> ?_)
     .refine ax<|va (v:=B false) rfl<|aa<|ax<|aE nQ<|V (ay O O J)<|aI rfl<|aa<| ?_
      refine⟨v+1,aZ,HO.u4.u4.u4.u4.u4.u4.u1,vR,(aK B Bo),(aK I aN),J,J⟩
     refine ak<|ax<|aE nQ<|V (ay O O J)<|aI rfl<|aa<| ?_
     refine⟨v+1,aZ,HO.u4.u4.u4.u4.u4.u4,vR,(jA FY (aK B Bo)),(aK I aN),J,J⟩
    refine aE (v:=B false) rfl<|aa<|dh rfl<|ak<|ax<|aE nQ<|V (ay O O J)<|aI rfl<|aa<| ?_
    refine⟨v+1,aZ,HO.u4.u4.u4.u4.u4.u4,oa,(jA FY (aK B Bo)),(aK I aN),J,J⟩
   refine aE (v:=B false) rfl<|mB rfl<|cC O rfl<|aE (v:=B false) rfl<|aa<|dh rfl<|ak<|ax<|aE nQ<|V (ay O O J)<|aI rfl<|aa<| ?_
   refine⟨v+1,aZ,HO.u4.u4.u4.u4.u4.u4,mz,(jA FY (aK B Bo)),(aK I aN),J,J⟩
  refine a7 (id:=2) rfl<|SR<|aE FY<|aa<|bY O (fun h55=> ?_) (fun h55=> ?_)
  .refine SR<|aE M4<|aI rfl<|va (v:=B true) rfl<|aa<|aj<| ?_
   (refine kG O (aK I ?_) (aK B ?_) nR.below<;>rw[TC u0 aR (show v=pts r by omega) aR hg])
  refine ak<|ax<|aE M4<|V (ay O O J)<|aI rfl<|aa<| ?_
  refine⟨u+1,aZ,(((B6.u4.u4.u4.u4).t HO O)).u4.u4,nR,(aK I aN),J,J,?_⟩
  exact fun x a b=>if e:x=u then e▸(by rw[He r i j u (show v=pts r by omega)];assumption)else hg x a J
 refine a7 (id:=0) rfl<|SR<|va (v:=I 0) rfl<|va (v:=B false) rfl<|aa<|aj<| ?_
 (refine kG O (aK I ?_) (aK B ?_) gT.below<;>rw[alq aR hg])
theorem xx(r:Rl)(w:World):Calls Tryz.prog 151 #[.agg (dM r)] w (Pure (B (sr r)) w):=by
 have hp:=dB r
 refine eH func151 rfl rfl fun hH=>SR<|iu hH (v:= .agg _) rfl<|fun b3 w1 aW=>va (v:=B false) rfl<|aa<|ah<|SR<|V (fA bQ 0 O bz O)<|lV bx aW 0 O O (fF _)<|V (aL O O)<|mB rfl<|bN 12 O (fun h5=> ?_) (fun h5=> ?_)
 .refine aE (v:=B true) rfl<|mB rfl<|cC O rfl<|aE (v:=B true) rfl<|aa<|cB rfl<|SR<|va (v:=B false) rfl<|aa<|aj<|oB O ?_ aW
  exact(JA J).symm
 refine V (fA bQ 0 O bz O)<|lV bx aW 0 O O (fF _)<|V (dz O O)<|mB rfl<|mB rfl<|bN 17 O (fun h7=> ?_) (fun h7=> ?_)
 .refine aE (v:=B true) rfl<|aa<|cB rfl<|SR<|va (v:=B false) rfl<|aa<|aj<|oB O ?_ aW
  exact(JA J).symm
 refine V (aO bQ O O O (aW.blk (i:=0) O))<|aG O aW (zF _ _) (aq call148 O)<|fun w8 iB=>V (bO O)<|mB rfl<|aa<|bY O (fun h12=> ?_) (fun h12=> ?_)
 .refine SR<|va (v:=B false) rfl<|aa<|aj<|oB O ?_ iB
  exact(ZS (nt aR)).symm
 refine ak<|ah<|SR<|va (v:=I 0) rfl<|aa<|aC<|have hn:1<=r.n/\r.n<=64:=J;have ho:fT r=true:=nf aR;bj (G:=Int) (fun i s' w'=>(Fr (rg 2 7 (rg 22 31 [])) _ s')/\(Hp w w' _)/\(s' 3=I i)/\(0<=i)/\(i<=r.n)/\(∀a b:Int,0<=b->b<a->a<i->tM r a b=true)) (fun i=>(r.n-i).toNat) (0) ⟨Fr.refl _ _,iB,rfl,J,J,fun a b x y z=>absurd z J⟩<| ?_
 rintro i ado C7 ⟨tw,cm,Ao,i0,i1,hg⟩
 have FV:=tw.w1 1
 refine ah<|SR<|aE Ao<|V (fA bQ 0 O bz FV)<|lV bx cm 0 O O (fF _)<|V (aL O O)<|aa<|aF O (fun Ja=> ?_) (fun Ja=> ?_)
 .refine ak<|ah<|aC<|SR<|va (v:=I 0) rfl<|aa<|aC<|bj (G:=Int) (fun j s' w'=>(Fr (2::(rg 4 5 (rg 28 25 []))) _ s')/\(Hp w w' _)/\(s' 4=I j)/\(0<=j)/\(j<=i)/\(∀b:Int,0<=b->b<j->tM r i b=true)) (fun j=>(i-j).toNat) (0) ⟨Fr.refl _ _,cm,rfl,J,J,fun b x y=>absurd y J⟩<| ?_
  rintro j adp JZ ⟨oZ,cG,M5,j0,j1,hh⟩
  obtain⟨wH,qF⟩:=oZ.t2 1 FV 3 Ao
  refine ah<|SR<|aE M5<|aE qF<|V (aL O O)<|aa<|aF O (fun pW=> ?_) (fun pW=> ?_)
  .refine ak<|ah<|aC<|SR<|V (aO bQ O O wH (cG.blk (i:=0) O))<|aE qF<|aE M5<|aG O cG (AP _ _ _ _) (bB call121 O O O)<|fun Vo cL=> ?_
   refine V (run_move bG) ?_
   refine V (bA O (v:=I _) O)<|V (bA O (v:=B _) O)<|aI rfl<|aB rfl<|aa<|SR<|V (aO bQ O O wH (cL.blk (i:=0) O))<|aE qF<|aE M5<|aG O cL (AR _ _ _ _) (bB call184 O O O)<|fun S5 eN=> ?_
   refine V (run_move bG) ?_
   refine V (bA O (v:=I _) O)<|V (bA O (v:=B _) O)<|aI rfl<|aB rfl<|aa<|SR<|mB rfl<|V (bO O)<|mB rfl<|gm 49 O (fun h26=> ?_) (fun h26=> ?_)
   .refine aE (v:=B true) rfl<|aa<|cB rfl<|SR<|va (v:=B false) rfl<|aa<|aj<|oB O ?_ eN
    exact(JC ‹i<r.n› j0 ‹j<i› aeC).symm
   refine mB rfl<|V (bO O)<|mB rfl<|aa<|bY O (fun h28=> ?_) (fun h28=> ?_)
   .refine SR<|va (v:=B false) rfl<|aa<|aj<|oB O ?_ eN
    exact(JC ‹i<r.n› j0 ‹j<i› aey).symm
   refine ak<|ax<|aE M5<|V (ay O O J)<|aI rfl<|aa<| ?_
   refine⟨j+1,aZ,oZ.u4.u4.u4.u4.u4.u4.u4.u1.u1,eN,(aK I aN),J,J,?_⟩
   exact fun b x y=>if e:b=j then e▸(by rw[tM,cH];exact⟨nf ‹(!(iO r i j).2)=false›,nf ‹(!(qh r i j).2)=false›⟩)else hh b x J
  refine a7 (id:=2) rfl<|ax<|aE qF<|V (ay O O J)<|aI rfl<|aa<| ?_
  refine⟨i+1,aZ,(((tw.u4.u1).t oZ O)).u4.u1.u1,cG,(aK I aN),J,J,?_⟩
  exact fun a b x y z=>if e:a=i then e▸hh b x (by omega)else hg a b x y J
 refine a7 (id:=0) rfl<|SR<|va (v:=B true) rfl<|aa<|aj<|oB O ?_ cm
 exact(ZT hn ho aR hg).symm
theorem AS(r:Rl)(i:Int)(w:World):Calls Tryz.prog 117 #[.agg (dM r),I i] w (Pure (U (bS r i)) w):=by
 have hp:=dB r
 refine eH func117 rfl rfl fun hH=>SR<|iu hH (v:= .agg _) rfl<|fun b3 w1 aW=>va (v:=U 0#64) rfl<|aa<|SR<|va (v:= .slice none 0 0) rfl<|have gE:=aW.fD 3 1;aa<|ah<|SR<|va (v:=I 0) rfl<|aa<|aC<|bj (G:=Int×(List Int)×Value) (fun⟨k,l,v5⟩ s' w'=>(Fr (rg 5 16 []) _ s')/\(Hp w w' (.row v5 3 1 (l.length) (l.map I)::_))/\(s' 5=v5)/\(s' 6=I k)/\(0<=k)/\(k<=pts r)/\(l=qp r i k)) (fun⟨k,l,v5⟩=>(pts r-k).toNat) ((0,[],(.slice none 0 0:Value))) ⟨Fr.refl _ _,gE,rfl,rfl,J,J,rfl⟩<| ?_
 rintro⟨k,l,v5⟩ sg5 w5 ⟨fr5,bU,adh,ai0,k0,k1,hl⟩
 obtain⟨asJ,as0⟩:=fr5.w2 1 2
 refine ah<|SR<|aE ai0<|V (aO bQ O O as0 (bU.blk (i:=1) O))<|aG O bU (bP _ _) (aq ov O)<|fun w6 eD=>V (aL O O)<|aa<|aF O (fun h9=> ?_) (fun h9=> ?_)
 .refine ak<|ah<|aC<|SR<|V (aO bQ O O as0 (eD.blk (i:=1) O))<|aE ai0<|aE asJ<|aG O eD (bH _ _ _ _) (bB jS O O O)<|fun Gk dF=>aa<|bY O (fun Vn=> ?_) (fun Vn=> ?_)
  .refine ax<|aE adh<|aE ai0<|yd 1 1 dF (ct bg O O (sz:=1) (vs:=[I _]) O O aD aD O O)<|fun b16 PO iX=> ?_
   (try simp only[oX]at iX)
   refine jX O iX (i:=1) O (iX.dQ (i:=0) (n:=1) (sz:=1) O O aD) O O bg O O (size:=1) (bytes:=8) O O O aD kq (by have:= @OK r i k;rw[<-hl]at this;omega) (by have:= @OK r i k;rw[<-hl]at this;simp only[maxLen];omega)<|fun v17 PR jy=> ?_
   refine V (run_assign bG) ?_
   refine aa<|ax<|aE ai0<|V (ay O O J)<|aI rfl<|aa<| ?_
   refine⟨(k+1,l++[k],v17),aZ,fr5.u4.u4.u4.u4,(Hp.conv (jy.sub (sQ sR)) az),rfl,(aK I aN),J,J,?_⟩
   (rw[hl];exact abZ k0 aR)
  refine ak<|ax<|aE ai0<|V (ay O O J)<|aI rfl<|aa<| ?_
  refine⟨(k+1,l,v5),aZ,fr5.u4.u4.u1.u1.u1,(Hp.conv dF aN),adh,(aK I aN),J,J,?_⟩
  (rw[hl];exact afF k0 aR)
 refine a7 (id:=0) rfl<|SR<|aE adh<|aG O eD (ir _ _ _ (eD.sl (i:=0) O)) (aq GH O)<|fun w20 fp=>aU rfl<|aa<|aj<|oU O ?_ fp
 (rw[hl];exact ab0 J)
theorem zH(r:Rl)(s:BitVec 64)(w:World):Calls Tryz.prog 120 #[.agg (dM r),U s] w (Pure (.tuple #[I (eL r s).1,B (eL r s).2]) w):=by
 have hp:=dB r
 refine eH func120 rfl rfl fun hH=>SR<|iu hH (v:= .agg _) rfl<|fun b3 w1 aW=>va (v:=I 0) rfl<|va (v:=B false) rfl<|aa<|ah<|SR<|va (v:=I 0) rfl<|aa<|aC<|bj (G:=Int) (fun k s' w'=>(Fr (rg 4 15 []) _ s')/\(Hp w w' _)/\(s' 6=I k)/\(0<=k)/\(k<=pts r)/\(∀j:Int,0<=j->j<k->bS r j≠s)) (fun k=>(pts r-k).toNat) (0) ⟨Fr.refl _ _,aW,rfl,J,J,fun j x y=>absurd y J⟩<| ?_
 rintro k sg4 w4 ⟨B6,gE,EN,h0,hk,hg⟩
 obtain⟨zB,Jc⟩:=B6.w2 1 2
 refine ah<|SR<|aE EN<|V (aO bQ O O Jc (gE.blk (i:=0) O))<|aG O gE (bP _ _) (aq ov O)<|fun w5 gT=>V (aL O O)<|aa<|aF O (fun h8=> ?_) (fun h8=> ?_)
 .refine ak<|ah<|aC<|SR<|V (aO bQ O O Jc (gT.blk (i:=0) O))<|aE EN<|aG O gT (AS _ _ _) (aJ call117 O O)<|fun w9 bW=>aE zB<|V (js O O)<|aa<|aF O (fun h12=> ?_) (fun h12=> ?_)
  .refine SR<|aE EN<|aI rfl<|va (v:=B true) rfl<|aa<|aj<| ?_
   refine kG O (aK I ?_) (aK B ?_) bW.below<;>rw[CI h0 aR aR hg]
  refine ak<|ax<|aE EN<|V (ay O O J)<|aI rfl<|aa<| ?_
  refine⟨k+1,aZ,B6.u4.u4.u4,bW,(aK I aN),J,J,?_⟩
  exact fun j x y=>if e:j=k then e▸‹¬bS r k=s›else hg j x J
 refine a7 (id:=0) rfl<|SR<|va (v:=I 0) rfl<|va (v:=B false) rfl<|aa<|aj<| ?_
 refine kG O (aK I ?_) (aK B ?_) gT.below<;>rw[Fg aR hg]
theorem zI(r:Rl)(w:World):Calls Tryz.prog 137 #[.agg (dM r)] w (Pure (B (di r)) w):=by
 refine eH func137 rfl rfl fun hH=>SR<|iu hH (v:= .agg _) rfl<|fun b3 w1 aW=>va (v:=B false) rfl<|aa<|SR<|V (fA bQ 0 O bz O)<|lV bx aW 0 O O (fF _)<|V (dA O O)<|mB rfl<|bN 6 O (fun h5=> ?_) (fun h5=> ?_)
 .refine V (fA bQ 0 O bz O)<|lV bx aW 0 O O (fF _)<|V (yM O O)<|mB rfl<|mB rfl<|bN 11 O (fun h7=> ?_) (fun h7=> ?_)
  .refine V (aO bQ O O O (aW.blk (i:=0) O))<|aG O aW (Am _ _) (aq call166 O)<|fun w8 iB=>mB rfl<|aB rfl<|aa<|aj<|oB O ?_ iB
   rw[di,gB (show 1<=r.n/\r.n<=8 by omega),lU]
  refine aE (v:=B false) rfl<|aB rfl<|aa<|aj<|oB O ?_ aW
  rw[di,gF (show¬(1<=r.n/\r.n<=8)by omega),p8]
 refine aE (v:=B false) rfl<|mB rfl<|cC O rfl<|aE (v:=B false) rfl<|aB rfl<|aa<|aj<|oB O ?_ aW
 rw[di,gF (show¬(1<=r.n/\r.n<=8)by omega),p8]
theorem Y0(r:Rl)(s:BitVec 64)(o:Int)(ho:0<=o/\o<8)(w:World):Calls Tryz.prog 241 #[.agg (dM r),U s,I o] w (Pure (U (Iq r s o)) w):=by
 refine eH func241 rfl rfl fun hH=>SR<|iu hH (v:= .agg _) rfl<|fun b3 w1 aW=>va (v:=U 0#64) rfl<|aa<|SR<|mU rfl<|mI rfl<|V (CA O O J)<|V (jW bx Be O)<|V (E6 O O)<|V (fA bQ 0 O bz O)<|lV bx aW 0 O O (fF _)<|aG O aW (n7 _ _) (aq GG O)<|fun w4 bU=>V (mq O O)<|aU rfl<|aa<|aj<|oU O ?_ bU
 rfl
theorem Vw(r:Rl)(f:FuncId)(cs:List Value)(ff:Int->BitVec 64)(hn:1<=r.n/\r.n<=8)(w:World)(hf:∀args w,(callFunc f args).run Tryz.prog w= .ok (.enter f args) w)(go:∀i w',Below w.heap.size w w'->0<=i->i<r.n->Calls Tryz.prog f (I i::cs).toArray w' (Pure (U (ff i)) w')):Calls Tryz.prog 239 #[.agg (dM r),.func (.func f) #[] cs.toArray] w (Pure (U (wo ff r.n)) w):=by
 refine eH func239 rfl rfl fun hH=>SR<|iu hH (v:= .agg _) rfl<|fun b3 w1 aW=>va (v:=U 0#64) rfl<|aa<|SR<|va (v:=U 0#64) rfl<|aa<|ah<|SR<|V (fA bQ 0 O bz O)<|lV bx aW 0 O O (fF _)<|aE (v:=I 0) rfl<|aa<|aC<|bj (G:=Int) (fun k s' w'=>(Fr (5::6::(rg 9 13 [])) _ s')/\(Hp w w' _)/\(s' 5=U (wo ff k))/\(s' 9=I k)/\(0<=k)/\(k<=r.n)) (fun k=>(r.n-k).toNat) (0) ⟨Fr.refl _ _,aW,rfl,rfl,J,J⟩<| ?_
 rintro k sg4 w4 ⟨B6,gE,FR,adq,h0,hk⟩
 have zB:=B6.vv 1 (a:= .func _ _ _) rfl rfl
 have HM:=B6.w1 8
 refine SR<|V (aL adq HM)<|aa<|ah<|aF O (fun h6=> ?_) (fun h6=> ?_)
 .refine ak<|ah<|aC<|SR<|aE adq<|aI rfl<|aa<|ax<|aE FR<|aE zB<|mI rfl<|aG O gE (go _ _ gE.below J J) (lX hf (cs:=cs) O O)<|fun w7 fq=>mI rfl<|V (CA O O J)<|V (jW bx Be O)<|V (E5 O O)<|V (jC O O)<|aU rfl<|aa<|ax<|V (ay adq O J)<|mI rfl<|aa<| ?_
  refine⟨k+1,aZ,B6.u4.u4.u4.u1.u1.u1,fq,(aK U (Hg h0)),(aK I aN),J,J⟩
 refine a7 (id:=0) rfl<|SR<|aE FR<|aU rfl<|aa<|aj<|oU O ?_ gE
 (rw[show k=r.n by omega])
theorem M6(b c:Nat)(r:Rl)(s:BitVec 64)(o:Int)(hr:di r=true)(w:World)(hb:w.heap[b]?=some (.cells (dM r) 86 (0,0)))(hc:w.heap[c]?=some (.cells #[U s] 35 (0,0)))(hT:oh w):Calls Tryz.prog 240 #[I o,.pointer (some ⟨b,0,none⟩),.pointer (some ⟨c,0,none⟩)] w (Pure (U (Hh r s o)) w):=by
 have hl:=E8 (upR r (kH [o]))
 refine eH func240 rfl rfl fun hH=>SR<|va (v:=U 0#64) rfl<|aa<|SR<|va (v:=U 0#64) rfl<|aa<|ah<|ah<|eF aM hH<|fun w1 aW=>have fK:=aW;AT 0 O fK (fun w hS=>aO bQ O O O (hS.ext hb))<|AQ 1 O fK (mV (I _) O)<|AQ 7 O fK (mV (I 0) O)<|A1 2<|cY O aH O aW sR (f:=fun b=> .slice (some ⟨b,0,none⟩) 1 1) (ct bg O O (sz:=1) (vs:=[I _]) O O aD aD O O)<|fun b5 w3 gE=> ?_
 (try simp only[oX]at gE)
 have gT:=gE.Ei 1 1 O aD
 refine A1 3<|cJ O aH O gT (sQ sR) (yg _ [o] _ (gT.sl (i:=0) O)) (aq call203 O)<|fun w7 fq=>A1 4<|cJ O aH O fq (sQ sR) (Ca _ _ _ (hT.hp fq)) (aJ call209 O O)<|fun w9 bW=>A1 5<|KX O aH O bW (sQ sR) (B8 _ _ (hT.hp bW)) (aq call233 O)<|fun v13 ID cK=>A1 6<|cf O aH O cK (sQ (sQ sR)) (aA (cK.sl (i:=0) O) O bg O)<|AD<|aC<|bj (G:=Int) (fun k s' w'=>(Fr (5::(7::(rg 15 13 []))) _ s')/\(Hp w w' _)/\(s' 5=U (wh (fun p=>Dp r (Iq r s p)) ((gf (upR r (kH [o]))).take k.toNat)))/\(s' 15=I k)/\(0<=k)/\(k<=(gf (upR r (kH [o]))).length)) (fun k=>((gf (upR r (kH [o]))).length-k).toNat) (0) ⟨Fr.refl _ _,cK,(aK U (by simp[wh])),rfl,J,J⟩<| ?_
 rintro k adp JZ ⟨oZ,cG,DF,Y1,h0,hk⟩
 obtain⟨wH,Vt,as1,as2⟩:=oZ.w4 1 2 13 14
 refine SR<|V (aL Y1 as2)<|aa<|ah<|aF O (fun pW=> ?_) (fun pW=> ?_)
 .refine ak<|ah<|aC<|SR<|V (ag (cG.sl (i:=0) O) bg bz as1 Y1 J)<|V (au bx O O ((cG.sl (i:=0) O).cell _ _ (dZ J)))<|aI rfl<|aa<|eF aM cG<|fun Vo cL=>have zJ:=cL;AQ 0 O zJ (run_move DF)<|AT 1 O zJ (fun w hS=>aO bQ O O wH (hS.ext hb))<|AT 2 O zJ (fun w hS=>aO bQ O O wH (hS.ext hb))<|AT 3 O zJ (fun w hS=>au dW O Vt (hS.ed hc (v:=U _) O))<|AQ 4 O zJ (mV (I _) O)<|A1 5<|cJ O aH O cL sR (Y0 _ _ _ (afK hr (XC h0 aR)) _) (bB call241 O O O)<|fun Og dm=>A1 6<|cJ O aH O dm sR (xp _ _ _) (aJ call211 O O)<|fun w23 oF=>AQ 7 O oF (jC O O)<|AQ 8 O oF (aV (U _) O)<|AD<|ax<|V (ay Y1 O J)<|mI rfl<|aa<| ?_
  refine⟨k+1,aZ,oZ.u4.u4.u4.u1.u1.u1,oF,(aK U (K6 (f:=fun p=>Dp r (Iq r s p)) h0 aR)),(aK I aN),J,J⟩
 refine a7 (id:=0) rfl<|SR<|aE DF<|aU rfl<|aa<|aj<|oU O ?_ cG
 (rw[K4 aR];rfl)
theorem Se(r:Rl)(s:BitVec 64)(w:World)(hT:oh w):Calls Tryz.prog 213 #[.agg (dM r),U s] w (Pure (U (fI r s)) w):=by
 refine eH func213 rfl rfl fun hH=>SR<|iu hH (v:= .agg _) rfl<|fun b3 w1 aW=>iu aW (v:=U _) rfl<|fun b6 w4 bU=>va (v:=U 0#64) rfl<|aa<|ah<|SR<|V (aO bQ O O O (bU.blk (i:=1) O))<|aG O bU (zI _ _) (aq call137 O)<|fun w7 fq=>V (bO O)<|aa<|bY O (fun h11=> ?_) (fun h11=> ?_)
 .refine SR<|va (v:=U 0#64) rfl<|aa<|aj<|oU O ?_ fq
  exact(TJ (nt aR)).symm
 refine ak<|SR<|V (aO bQ O O O (fq.blk (i:=1) O))<| ?_
 refine V (r6 bG bG) ?_
 refine aG O fq (Vw r 240 [.pointer (some ⟨b3,0,none⟩),.pointer (some ⟨b6,0,none⟩)] (Hh r s) (gC (nf ‹(!di r)=false›)).1 _ call240 (fun i w h _ _=>M6 b3 b6 r s i (nf ‹(!di r)=false›) w (keep h (fq.blk (i:=1) O)) (keep h (fq.blk (i:=0) O)) ((hT.hp fq).below h))) (aJ call239 O O)<|fun B7 cm=>aU rfl<|aa<|aj<|oU O ?_ cm
 exact ab3 (nf aR)
theorem Oj(r:Rl)(s:BitVec 64)(w:World)(hT:oh w):Calls Tryz.prog 180 #[.agg (dM r),U s] w (Pure (B (o5 r s)) w):=by
 refine eH func180 rfl rfl fun hH=>SR<|iu hH (v:= .agg _) rfl<|fun b3 w1 aW=>va (v:=B false) rfl<|aa<|SR<|V (aO bQ O O O (aW.blk (i:=0) O))<|aG O aW (zI _ _) (aq call137 O)<|fun w4 bU=>mB rfl<|gm 7 O (fun h7=> ?_) (fun h7=> ?_)
 .refine V (aO bQ O O O (bU.blk (i:=0) O))<|mU rfl<|aG O bU (Se _ _ _ (hT.hp bU)) (aJ call213 O O)<|fun w8 iB=>mU rfl<|V (js O O)<|mB rfl<|aB rfl<|aa<|aj<|oB O ?_ iB
  (rw[o5,‹di r=true›];rfl)
 refine aE (v:=B false) rfl<|aB rfl<|aa<|aj<|oB O ?_ bU
 (rw[o5,‹di r=false›];rfl)
theorem qG(r:Rl)(w:World):Calls Tryz.prog 146 #[.agg (dM r)] w (Pure (B (di r)) w):=by
 refine eH func146 rfl rfl fun hH=>SR<|iu hH (v:= .agg _) rfl<|fun b3 w1 aW=>va (v:=B false) rfl<|aa<|SR<|V (fA bQ 0 O bz O)<|lV bx aW 0 O O (fF _)<|V (dA O O)<|mB rfl<|bN 6 O (fun h5=> ?_) (fun h5=> ?_)
 .refine V (fA bQ 0 O bz O)<|lV bx aW 0 O O (fF _)<|V (yM O O)<|mB rfl<|mB rfl<|bN 11 O (fun h7=> ?_) (fun h7=> ?_)
  .refine V (aO bQ O O O (aW.blk (i:=0) O))<|aG O aW (pQ _ _) (aq call182 O)<|fun w8 iB=>mB rfl<|aB rfl<|aa<|aj<|oB O ?_ iB
   rw[di,gB (show 1<=r.n/\r.n<=8 by omega),lU]
  refine aE (v:=B false) rfl<|aB rfl<|aa<|aj<|oB O ?_ aW
  rw[di,gF (show¬(1<=r.n/\r.n<=8)by omega),p8]
 refine aE (v:=B false) rfl<|mB rfl<|cC O rfl<|aE (v:=B false) rfl<|aB rfl<|aa<|aj<|oB O ?_ aW
 rw[di,gF (show¬(1<=r.n/\r.n<=8)by omega),p8]
theorem Cb(r:Rl)(s:BitVec 64)(o x:Int)(hn:1<=r.n/\r.n<=8)(w:World):Calls Tryz.prog 216 #[.agg (dM r),U s,I o,I x] w (Pure (B (Fh r s o x)) w):=by
 refine eH func216 rfl rfl fun hH=>SR<|iu hH (v:= .agg _) rfl<|fun b3 w1 aW=>va (v:=B false) rfl<|aa<|SR<|mI rfl<|V (dA O O)<|mB rfl<|bN 11 O (fun h5=> ?_) (fun h5=> ?_)
 .refine mI rfl<|V (dA O O)<|mB rfl<|mB rfl<|bN 15 O (fun h7=> ?_) (fun h7=> ?_)
  .refine mI rfl<|V (fA bQ 0 O bz O)<|lV bx aW 0 O O (fF _)<|V (aL O O)<|mB rfl<|mB rfl<|bN 21 O (fun h9=> ?_) (fun h9=> ?_)
   .refine mI rfl<|V (fA bQ 0 O bz O)<|lV bx aW 0 O O (fF _)<|V (aL O O)<|mB rfl<|mB rfl<|bN 27 O (fun h11=> ?_) (fun h11=> ?_)
    .refine mU rfl<|mI rfl<|V (CA O O J)<|mI rfl<|V (ay O O J)<|aG O aW (sN _ _ _) (aJ call102 O O)<|fun B7 cm=>mB rfl<|aB rfl<|aa<|aj<|oB O ?_ cm
     rw[Fh,gB J,lU]
    refine aE (v:=B false) rfl<|aB rfl<|aa<|aj<|oB O ?_ aW
    rw[Fh,gF J,p8]
   refine aE (v:=B false) rfl<|mB rfl<|cC O rfl<|aE (v:=B false) rfl<|aB rfl<|aa<|aj<|oB O ?_ aW
   rw[Fh,gF J,p8]
  refine aE (v:=B false) rfl<|mB rfl<|cC O rfl<|aE (v:=B false) rfl<|mB rfl<|cC O rfl<|aE (v:=B false) rfl<|aB rfl<|aa<|aj<|oB O ?_ aW
  rw[Fh,gF J,p8]
 refine aE (v:=B false) rfl<|mB rfl<|cC O rfl<|aE (v:=B false) rfl<|mB rfl<|cC O rfl<|aE (v:=B false) rfl<|mB rfl<|cC O rfl<|aE (v:=B false) rfl<|aB rfl<|aa<|aj<|oB O ?_ aW
 rw[Fh,gF J,p8]
theorem xz(r:Rl)(s:BitVec 64)(o x:Int)(hn:1<=r.n/\r.n<=8)(w:World):Calls Tryz.prog 186 #[.agg (dM r),U s,I o,I x] w (Pure (B (Q9 r s o x)) w):=by
 refine eH func186 rfl rfl fun hH=>SR<|iu hH (v:= .agg _) rfl<|fun b3 w1 aW=>va (v:=B false) rfl<|aa<|ah<|SR<|va (v:=I 0) rfl<|aa<|aC<|bj (G:=Int) (fun p s' w'=>(Fr (rg 8 32 []) _ s')/\(Hp w w' _)/\(s' 9=I p)/\(0<=p)/\(p<=r.n)/\(∀q y:Int,0<=q->q<p->¬(Fh r s q y=true/\bI r o q=true/\bI r x y=true))) (fun p=>(r.n-p).toNat) (0) ⟨Fr.refl _ _,aW,rfl,J,J,fun q y a b=>absurd b J⟩<| ?_
 rintro p sg4 w4 ⟨B6,gE,adq,p0,p1,hf⟩
 obtain⟨zB,Jc,yh,Vk⟩:=B6.w4 1 2 3 4
 refine ah<|SR<|aE adq<|V (fA bQ 0 O bz Vk)<|lV bx gE 0 O O (fF _)<|V (aL O O)<|aa<|aF O (fun h6=> ?_) (fun h6=> ?_)
 .refine ak<|ah<|aC<|SR<|va (v:=I 0) rfl<|aa<|aC<|bj (G:=Int) (fun y s' w'=>(Fr (8::(10::(rg 17 23 []))) _ s')/\(Hp w w' _)/\(s' 10=I y)/\(0<=y)/\(y<=r.n)/\(∀z:Int,0<=z->z<y->¬(Fh r s p z=true/\bI r o p=true/\bI r x z=true))) (fun y=>(r.n-y).toNat) (0) ⟨Fr.refl _ _,gE,rfl,J,J,fun z a b=>absurd b J⟩<| ?_
  rintro y sg7 w7 ⟨E2,eD,PU,y0,y1,hg⟩
  obtain⟨adr,as3,ads,HP,Ol⟩:=E2.t5 1 zB 2 Jc 3 yh 4 Vk 9 adq
  refine ah<|SR<|aE PU<|V (fA bQ 0 O bz HP)<|lV bx eD 0 O O (fF _)<|V (aL O O)<|aa<|aF O (fun h9=> ?_) (fun h9=> ?_)
  .refine ak<|ah<|aC<|SR<|V (aO bQ O O HP (eD.blk (i:=0) O))<|aE adr<|aE Ol<|aE PU<|aG O eD (Cb _ _ _ _ m6 _) (jb call216 O O O O)<|fun Gk dF=>mB rfl<|gm 28 O (fun Vn=> ?_) (fun Vn=> ?_)
   .refine V (aO bQ O O HP (dF.blk (i:=0) O))<|aE as3<|aE Ol<|aG O dF (bH _ _ _ _) (bB jS O O O)<|fun PO iX=>mB rfl<|mB rfl<|gm 34 O (fun Om=> ?_) (fun Om=> ?_)
    .refine V (aO bQ O O HP (iX.blk (i:=0) O))<|aE ads<|aE PU<|aG O iX (bH _ _ _ _) (bB jS O O O)<|fun PR jy=>mB rfl<|aa<|bY O (fun Sb=> ?_) (fun Sb=> ?_)
     .refine SR<|va (v:=B true) rfl<|aa<|aj<|oB O ?_ jy
      exact(JG.2 ⟨p,y,aR,aR,aR⟩).symm
     refine ak<|ax<|aE PU<|V (ay O O J)<|aI rfl<|aa<| ?_
     refine⟨y+1,aZ,E2.u4.u4.u4.u4.u4.u4,jy,(aK I aN),J,J,?_⟩
     exact fun z a b h=>if e:z=y then(by subst e;simp_all)else hg z a J h
    refine aE (v:=B false) rfl<|aa<|dh rfl<|ak<|ax<|aE PU<|V (ay O O J)<|aI rfl<|aa<| ?_
    refine⟨y+1,aZ,E2.u4.u4.u4.u4.u4.u4,iX,(aK I aN),J,J,?_⟩
    exact fun z a b h=>if e:z=y then(by subst e;simp_all)else hg z a J h
   refine aE (v:=B false) rfl<|mB rfl<|cC O rfl<|aE (v:=B false) rfl<|aa<|dh rfl<|ak<|ax<|aE PU<|V (ay O O J)<|aI rfl<|aa<| ?_
   refine⟨y+1,aZ,E2.u4.u4.u4.u4.u4.u4,dF,(aK I aN),J,J,?_⟩
   exact fun z a b h=>if e:z=y then(by subst e;simp_all)else hg z a J h
  refine a7 (id:=2) rfl<|ax<|aE Ol<|V (ay O O J)<|aI rfl<|aa<| ?_
  refine⟨p+1,aZ,(((B6.u4.u1).t E2 O)).u4.u1.u1.u1,eD,(aK I aN),J,J,?_⟩
  exact fun q y a b h=>if e:q=p then hg y (CJ.1 h.1).1.2.1 (by have:=(CJ.1 h.1).1;omega) (e▸h)else hf q y a J h
 refine a7 (id:=0) rfl<|SR<|va (v:=B false) rfl<|aa<|aj<|oB O ?_ gE
 exact(afG aR hf).symm
theorem zK(r:Rl)(s:BitVec 64)(w:World):Calls Tryz.prog 153 #[.agg (dM r),U s] w (Pure (U (fI r s)) w):=by
 refine eH func153 rfl rfl fun hH=>SR<|iu hH (v:= .agg _) rfl<|fun b3 w1 aW=>va (v:=U 0#64) rfl<|aa<|SR<|va (v:= .slice none 0 0) rfl<|have gE:=aW.fD 3 1;aa<|ah<|SR<|V (aO bQ O O O (gE.blk (i:=1) O))<|aG O gE (qG _ _) (aq call146 O)<|fun w5 gT=>V (bO O)<|aa<|bY O (fun h9=> ?_) (fun h9=> ?_)
 .refine SR<|va (v:=U 0#64) rfl<|aa<|aj<|oU O ?_ gT
  exact(TJ (nt aR)).symm
 refine ak<|ah<|SR<|va (v:=I 0) rfl<|aa<|aC<|have hr:di r=true:=nf aR;have hs:=gC hr;bj (G:=Int×(List Int)×Value) (fun⟨o,l,v5⟩ s' w'=>(Fr (rg 5 3 (rg 11 24 [])) _ s')/\(Hp w w' (.row v5 3 1 (l.length) (l.map I)::_))/\(s' 5=v5)/\(s' 6=I o)/\(0<=o)/\(o<=r.n)/\(l=BA r s o)) (fun⟨o,l,v5⟩=>(r.n-o).toNat) ((0,[],(.slice none 0 0:Value))) ⟨Fr.refl _ _,gT,rfl,rfl,J,J,rfl⟩<| ?_
 rintro⟨o,l,v5⟩ Y2 Gk ⟨rS,bW,M7,F3,o0,o1,hl⟩
 obtain⟨ai1,F4,PV⟩:=rS.w3 1 2 4
 refine ah<|SR<|aE F3<|V (fA bQ 0 O bz F4)<|lV bx bW 1 O O (fF _)<|V (aL O O)<|aa<|aF O (fun h12=> ?_) (fun h12=> ?_)
 .refine ak<|ah<|aC<|SR<|va (v:=I 0) rfl<|aa<|aC<|bj (G:=Int×(List Int)×Value) (fun⟨x,l2,v5⟩ s' w'=>(Fr (5::(7::(rg 17 18 []))) _ s')/\(Hp w w' (.row v5 3 1 (l2.length) (l2.map I)::_))/\(s' 5=v5)/\(s' 7=I x)/\(0<=x)/\(x<=r.n)/\(l2=BA r s o++Er r s o x)) (fun⟨x,l2,v5⟩=>(r.n-x).toNat) ((0,l,(v5:Value))) ⟨Fr.refl _ _,bW,M7,rfl,J,J,(by rw[hl,Er];simp[upto])⟩<| ?_
  rintro⟨x,l2,v5⟩ ado C7 ⟨tw,cm,M8,Vx,x0,x1,h2⟩
  obtain⟨FV,apu,PW⟩:=tw.t3 1 ai1 2 F4 6 F3
  refine ah<|SR<|aE Vx<|V (fA bQ 0 O bz apu)<|lV bx cm 1 O O (fF _)<|V (aL O O)<|aa<|aF O (fun Ja=> ?_) (fun Ja=> ?_)
  .refine ak<|ah<|aC<|SR<|V (aO bQ O O apu (cm.blk (i:=1) O))<|aE FV<|aE PW<|aE Vx<|aG O cm (xz _ _ _ _ J _) (jb call186 O O O O)<|fun JZ dU=>aa<|bY O (fun MU=> ?_) (fun MU=> ?_)
   .refine ax<|aE M8<|aE PW<|V (CA O O J)<|aE Vx<|V (ay O O J)<|yd 1 1 dU (ct bg O O (sz:=1) (vs:=[I _]) O O aD aD O O)<|fun b22 w20 fp=> ?_
    (try simp only[oX]at fp)
    refine jX O fp (i:=1) O (fp.dQ (i:=0) (n:=1) (sz:=1) O O aD) O O bg O O (size:=1) (bytes:=8) O O O aD kq (by rw[h2];have:= @Lm r s o hs.1.2 J;have:= @Ll r s o x;simp;omega) (by rw[h2];have:= @Lm r s o hs.1.2 J;have:= @Ll r s o x;simp only[maxLen];simp;omega)<|fun v23 w24 oG=> ?_
    refine V (run_assign bG) ?_
    refine aa<|ax<|aE Vx<|V (ay O O J)<|aI rfl<|aa<| ?_
    refine⟨(x+1,l2++[8*o+x],v23),aZ,tw.u4.u4.u4.u4.u4,(Hp.conv (oG.sub (sQ sR)) az),rfl,(aK I aN),J,J,?_⟩
    (rw[h2];(rw[dg,afH x0 aR]))
   refine ak<|ax<|aE Vx<|V (ay O O J)<|aI rfl<|aa<| ?_
   refine⟨(x+1,l2,v5),aZ,tw.u4.u4.u4,(Hp.conv dU aN),M8,(aK I aN),J,J,?_⟩
   (rw[h2];(rw[aly x0 aR]))
  refine a7 (id:=2) rfl<|ax<|aE PW<|V (ay O O J)<|aI rfl<|aa<| ?_
  refine⟨(o+1,l2,v5),aZ,(((rS.u4.u1).t tw O)).u4.u1.u1.u1,(Hp.conv cm aN),M8,(aK I aN),J,J,?_⟩
  (rw[h2];exact TK o0 J)
 refine a7 (id:=0) rfl<|SR<|aE M7<|aG O bW (ir _ _ _ (bW.sl (i:=0) O)) (aq GH O)<|fun Vv dD=>aU rfl<|aa<|aj<|oU O ?_ dD
 (rw[hl];exact ab4 hr J)
theorem DG(c:Int)(w:World):Calls Tryz.prog 197 #[.int .u8 c] w (Pure (B (ja c)) w):=by
 refine eH func197 rfl rfl fun hH=>SR<|va (v:=B false) rfl<|aa<|SR<|aE (v:= .int _ _) rfl<|V (dA O O)<|mB rfl<|bN 5 O (fun h2=> ?_) (fun h2=> ?_)
 .refine aE (v:= .int _ _) rfl<|V (yM O O)<|mB rfl<|aB rfl<|aa<|aj<|oB O ?_ hH
  (rw[ja,gG];simp only[ep,rZ,yG];omega)
 refine aE (v:=B false) rfl<|aB rfl<|aa<|aj<|oB O ?_ hH
 (rw[ja,gG];simp only[ep,rZ,yG];omega)
theorem pR(c:Int)(w:World):Calls Tryz.prog 113 #[.int .u8 c] w (Pure (B (ja c)) w):=by
 refine eH func113 rfl rfl fun hH=>SR<|va (v:=B false) rfl<|aa<|SR<|aE (v:= .int _ _) rfl<|V (dA O O)<|mB rfl<|bN 5 O (fun h2=> ?_) (fun h2=> ?_)
 .refine aE (v:= .int _ _) rfl<|V (yM O O)<|mB rfl<|aB rfl<|aa<|aj<|oB O ?_ hH
  (rw[ja,gG];simp only[ep,rZ,yG];omega)
 refine aE (v:=B false) rfl<|aB rfl<|aa<|aj<|oB O ?_ hH
 (rw[ja,gG];simp only[ep,rZ,yG];omega)
theorem Vy(c:Int)(w:World):Calls Tryz.prog 198 #[.int .u8 c] w (Pure (B (tK c)) w):=by
 refine eH func198 rfl rfl fun hH=>SR<|va (v:=B false) rfl<|aa<|SR<|aE (v:= .int _ _) rfl<|aG O hH (DG _ _) (aq call197 O)<|fun w1 aW=>mB rfl<|gm 5 O (fun h4=> ?_) (fun h4=> ?_)
 .refine gX O O rfl<|gX O O rfl<|Bx<|aE (v:=B true) rfl<|mB rfl<|cC O rfl<|aE (v:=B true) rfl<|aB rfl<|aa<|aj<|oB O ?_ aW
  exact(BB aR).symm
 refine aE (v:= .int _ _) rfl<|V (dA O O)<|mB rfl<|bN 8 O (fun h6=> ?_) (fun h6=> ?_)
 .refine aE (v:= .int _ _) rfl<|V (yM O O)<|mB rfl<|mB rfl<|mB rfl<|bN 13 O (fun h8=> ?_) (fun h8=> ?_)
  .refine aE (v:=B true) rfl<|aB rfl<|aa<|aj<|oB O ?_ aW
   (have hlc:=‹ja c=false›;rw[ja,wg]at hlc;rw[tK,gG];simp only[ep,rZ,yG,true_iff];omega)
  refine aE (v:= .int _ _) rfl<|V (bX O O)<|mB rfl<|aB rfl<|aa<|aj<|oB O ?_ aW
  (have hlc:=‹ja c=false›;rw[ja,wg]at hlc;rw[tK,gG];simp only[ep,rZ,yG,true_iff];omega)
 refine aE (v:=B false) rfl<|mB rfl<|mB rfl<|cC O rfl<|aE (v:= .int _ _) rfl<|V (bX O O)<|mB rfl<|aB rfl<|aa<|aj<|oB O ?_ aW
 (have hlc:=‹ja c=false›;rw[ja,wg]at hlc;rw[tK,gG];simp only[ep,rZ,yG,true_iff];omega)
theorem Sf(s:Tx)(w:World):Calls Tryz.prog 164 #[S s] w (Pure (B (iw s)) w):=by
 have htx:= @aq1 s
 refine eH func164 rfl rfl fun hH=>SR<|va (v:=B false) rfl<|aa<|ah<|SR<|aE (v:= .string _) rfl<|V (Ls O O)<|mB rfl<|bN 6 O (fun h2=> ?_) (fun h2=> ?_)
 .refine aE (v:=B true) rfl<|mB rfl<|cC O rfl<|aE (v:=B true) rfl<|aa<|cB rfl<|SR<|va (v:=B false) rfl<|aa<|aj<|oB O ?_ hH
  exact(CK (by have:=htx.1 ‹s=pu›;omega)).symm
 refine aE (v:= .string _) rfl<|V (kR O gS O)<|V (dz O O)<|mB rfl<|mB rfl<|bN 11 O (fun h4=> ?_) (fun h4=> ?_)
 .refine aE (v:=B true) rfl<|aa<|cB rfl<|SR<|va (v:=B false) rfl<|aa<|aj<|oB O ?_ hH
  exact(CK J).symm
 refine aE (v:= .string _) rfl<|V (sw gS O O (by have:=mt htx.2 ‹¬s=pu›;omega))<|aG O hH (DG _ _) (aq call197 O)<|fun w5 gT=>V (bO O)<|mB rfl<|aa<|bY O (fun h9=> ?_) (fun h9=> ?_)
 .refine SR<|va (v:=B false) rfl<|aa<|aj<|oB O ?_ gT
  exact(ON (nt aR)).symm
 refine ak<|ah<|SR<|aE (v:= .string _) rfl<|V (kR O gS O)<|aE (v:=I 0) rfl<|aa<|aC<|have hsz:1<=s.size/\s.size<=16:=⟨by have:=mt htx.2 ‹¬s=pu›;omega,J⟩;bj (G:=Int) (fun k s' w'=>(Fr (2::3::(rg 19 9 [])) _ s')/\(Hp w w' _)/\(s' 19=I k)/\(0<=k)/\(k<=s.size)/\(∀j:Int,0<=j->j<k->tK (rp s j)=true)) (fun k=>(s.size-k).toNat) (0) ⟨Fr.refl _ _,gT,rfl,J,J,fun j a b=>absurd b J⟩<| ?_
 rintro k Y2 Gk ⟨rS,bW,Y3,h0,hk,hf⟩
 obtain⟨DH,as4⟩:=rS.w2 0 18
 refine SR<|V (aL Y3 as4)<|aa<|ah<|aF O (fun h12=> ?_) (fun h12=> ?_)
 .refine ak<|ah<|aC<|SR<|aE Y3<|aI rfl<|aa<|SR<|aE DH<|mI rfl<|V (sw gS O O J)<|aG O bW (Vy _ _) (aq call198 O)<|fun C7 cF=>V (bO O)<|aa<|bY O (fun Om=> ?_) (fun Om=> ?_)
  .refine SR<|va (v:=B false) rfl<|aa<|aj<|oB O ?_ cF
   exact(Hj h0 aR (nt aR)).symm
  refine ak<|ax<|V (ay Y3 O J)<|mI rfl<|aa<| ?_
  refine⟨k+1,aZ,rS.u4.u4.u1.u1,cF,(aK I aN),J,J,?_⟩
  exact fun j a b=>if e:j=k then e▸nf ‹_›else hf j a J
 refine a7 (id:=0) rfl<|SR<|va (v:=B true) rfl<|aa<|aj<|oB O ?_ bW
 exact(OO hsz (nf aR) aR hf).symm
theorem ij(s:Tx)(w:World):Calls Tryz.prog 74 #[S s] w (Pure (B (iw s)) w):=by
 refine eH func74 rfl rfl fun hH=>SR<|va (v:=B false) rfl<|aa<|ah<|SR<|aE (v:= .string _) rfl<|V (kR O gS O)<|V (aL O O)<|mB rfl<|bN 7 O (fun h2=> ?_) (fun h2=> ?_)
 .refine aE (v:=B true) rfl<|mB rfl<|cC O rfl<|aE (v:=B true) rfl<|aa<|cB rfl<|SR<|va (v:=B false) rfl<|aa<|aj<|oB O ?_ hH
  exact(CK J).symm
 refine aE (v:= .string _) rfl<|V (kR O gS O)<|V (dz O O)<|mB rfl<|mB rfl<|bN 12 O (fun h4=> ?_) (fun h4=> ?_)
 .refine aE (v:=B true) rfl<|aa<|cB rfl<|SR<|va (v:=B false) rfl<|aa<|aj<|oB O ?_ hH
  exact(CK J).symm
 refine aE (v:= .string _) rfl<|V (sw gS O O J)<|aG O hH (pR _ _) (aq call113 O)<|fun w5 gT=>V (bO O)<|mB rfl<|aa<|bY O (fun h9=> ?_) (fun h9=> ?_)
 .refine SR<|va (v:=B false) rfl<|aa<|aj<|oB O ?_ gT
  exact(ON (nt aR)).symm
 refine ak<|ah<|SR<|va (v:=I 1) rfl<|aa<|aC<|have hsz:1<=s.size/\s.size<=16:=J;have hlt:ja (rp s 0)=true:=nf aR;bj (G:=Int) (fun k s' w'=>(Fr (2::3::(rg 18 29 [])) _ s')/\(Hp w w' _)/\(s' 3=I k)/\(1<=k)/\(k<=s.size)/\(∀j:Int,0<=j->j<k->tK (rp s j)=true)) (fun k=>(s.size-k).toNat) (1) ⟨Fr.refl _ _,gT,rfl,J,J,fun j a b=>by rw[show j=0 by omega];exact BB hlt⟩<| ?_
 rintro k Y2 Gk ⟨rS,bW,o3,h0,hk,hf⟩
 have DH:=rS.w1 0
 refine ah<|SR<|aE o3<|aE DH<|V (kR O gS O)<|V (aL O O)<|aa<|aF O (fun h12=> ?_) (fun h12=> ?_)
 .refine ak<|ah<|aC<|SR<|aE DH<|aE o3<|V (sw gS O O J)<|aG O bW (pR _ _) (aq call113 O)<|fun C7 cF=>V (bO O)<|mB rfl<|gm 29 O (fun Om=> ?_) (fun Om=> ?_)
  .refine aE DH<|aE o3<|V (sw gS O O J)<|V (aL O O)<|mB rfl<|bN 34 O (fun MU=> ?_) (fun MU=> ?_)
   .refine aE (v:=B true) rfl<|mB rfl<|mB rfl<|cC O rfl<|aE DH<|aE o3<|V (sw gS O O J)<|V (jB O O)<|mB rfl<|aa<|aF O (fun Sb=> ?_) (fun Sb=> ?_)
    .refine SR<|va (v:=B false) rfl<|aa<|aj<|oB O ?_ cF
     exact(Hj (i:=k) J aR aeq).symm
    refine ak<|ax<|aE o3<|V (ay O O J)<|aI rfl<|aa<| ?_
    refine⟨k+1,aZ,rS.u4.u4.u4.u4.u4.u4.u4.u1.u1,cF,(aK I aN),J,J,?_⟩
    exact fun j a b=>if e:j=k then e▸(by rw[tK,ep];omega)else hf j a J
   refine aE DH<|aE o3<|V (sw gS O O J)<|V (dz O O)<|mB rfl<|mB rfl<|mB rfl<|bN 41 O (fun FT=> ?_) (fun FT=> ?_)
   .refine aE DH<|aE o3<|V (sw gS O O J)<|V (jB O O)<|mB rfl<|aa<|aF O (fun HN=> ?_) (fun HN=> ?_)
    .refine SR<|va (v:=B false) rfl<|aa<|aj<|oB O ?_ cF
     exact(Hj (i:=k) J aR aeq).symm
    refine ak<|ax<|aE o3<|V (ay O O J)<|aI rfl<|aa<| ?_
    refine⟨k+1,aZ,rS.u4.u4.u4.u4.u4.u4.u4.u1.u1,cF,(aK I aN),J,J,?_⟩
    exact fun j a b=>if e:j=k then e▸(by rw[tK,ep];omega)else hf j a J
   refine aE (v:=B false) rfl<|aa<|dh rfl<|ak<|ax<|aE o3<|V (ay O O J)<|aI rfl<|aa<| ?_
   refine⟨k+1,aZ,rS.u4.u4.u4.u4.u4.u4.u4.u1.u1,cF,(aK I aN),J,J,?_⟩
   exact fun j a b=>if e:j=k then e▸(by rw[tK,ep];omega)else hf j a J
  refine gX O O rfl<|gX O O rfl<|gX O O rfl<|gX O O rfl<|Bx<|aE (v:=B false) rfl<|mB rfl<|cC O rfl<|aE (v:=B false) rfl<|aa<|dh rfl<|ak<|ax<|aE o3<|V (ay O O J)<|aI rfl<|aa<| ?_
  refine⟨k+1,aZ,rS.u4.u4.u4.u4.u4.u4.u4.u1.u1,cF,(aK I aN),J,J,?_⟩
  exact fun j a b=>if e:j=k then e▸(by exact BB (nf aR))else hf j a J
 refine a7 (id:=0) rfl<|SR<|va (v:=B true) rfl<|aa<|aj<|oB O ?_ bW
 exact(OO hsz hlt aR hf).symm
theorem F5(n:Int)(f:FuncId)(cs:List Value)(P:Int->Bool)(hn:0<=n/\n<=9223372036854775807)(w:World)(hf:∀args w,(callFunc f args).run Tryz.prog w= .ok (.enter f args) w)(go:∀i w',Below w.heap.size w w'->0<=i->i<n->Calls Tryz.prog f (I i::cs).toArray w' (Pure (B (P i)) w')):Calls Tryz.prog 194 #[I 0,I n,.func (.func f) #[] cs.toArray] w (Pure (I (sv P n)) w):=by
 refine eH func194 rfl rfl fun hH=>SR<|va (v:=I 0) rfl<|aa<|ah<|SR<|mI rfl<|aI rfl<|aa<|aC<|bj (G:=Int) (fun k s' w'=>(Fr (6::7::(rg 9 9 [])) _ s')/\(Hp w w' _)/\(s' 7=I k)/\(0<=k)/\(k<=n)/\(∀j:Int,0<=j->j<k->P j=false)) (fun k=>(n-k).toNat) (0) ⟨Fr.refl _ _,hH,rfl,J,J,fun j a b=>absurd b J⟩<| ?_
 rintro k sg1 w1 ⟨tR,iL,Vj,h0,hk,hg⟩
 have zy:=tR.w1 1
 have aiM:=tR.vv 2 (a:= .func _ _ _) rfl rfl
 refine ah<|SR<|aE Vj<|aE zy<|V (aL O O)<|aa<|aF O (fun h3=> ?_) (fun h3=> ?_)
 .refine ak<|ah<|aC<|SR<|aE aiM<|aE Vj<|aG O iL (go _ _ iL.below J J) (lX hf (cs:=cs) O O)<|fun w4 bU=>aa<|bY O (fun h7=> ?_) (fun h7=> ?_)
  .refine SR<|aE Vj<|aI rfl<|aa<|aj<|oI O ?_ bU
   exact(uK h0 aR aR hg).symm
  refine ak<|ax<|aE Vj<|V (ay O O J)<|aI rfl<|aa<| ?_
  refine⟨k+1,aZ,tR.u4.u4.u1,bU,(aK I aN),J,J,?_⟩
  exact fun j a b=>if e:j=k then e▸‹P k=false›else hg j a J
 refine a7 (id:=0) rfl<|SR<|va (v:=I (-1)) rfl<|aa<|aj<|oI O ?_ iL
 exact(Fi fun j a b=>hg j a J).symm
theorem On(b c:Nat)(v:Value)(l:List Tx)(s:Tx)(i:Int)(hi:0<=i/\i<l.length)(w:World)(hs:Sl w v 1 l.length (Ir l))(hb:w.heap[b]?=some (.cells #[v] 83 (0,0)))(hc:w.heap[c]?=some (.cells #[S s] 9 (0,0))):Calls Tryz.prog 230 #[I i,.pointer (some ⟨b,0,none⟩),.pointer (some ⟨c,0,none⟩)] w (Pure (B (decide (l.getD i.toNat pu=s))) w):=by
 have hm:=hs.small
 unfold maxLen at hm
 refine eH func230 rfl rfl fun hH=>SR<|va (v:=B false) rfl<|aa<|ah<|eF aM hH<|fun w1 aW=>have fK:=aW;AT 0 O fK (fun w hS=>au dP O O (hS.ed hb O))<|AQ 1 O fK (mV (I _) O)<|AT 2 O fK (fun w hS=>ag (hs.hp hS) dP jT O O J)<|AT 3 O fK (fun w hS=>au gS O O ((hs.hp hS).cell _ _ (BC J)))<|AT 4 O fK (fun w hS=>au gS O O (hS.ed hc (v:= .string _) O))<|AQ 5 O fK (Ls O O)<|AQ 6 O fK (aV (B _) O)<|AD<|aj<|oB O ?_ aW
 rfl
theorem Vz(v:Value)(l:List Tx)(s:Tx)(w:World)(hs:Sl w v 1 l.length (Ir l)):Calls Tryz.prog 196 #[v,S s] w (Pure (I (qq l s)) w):=by
 have hm:=hs.small
 unfold maxLen at hm
 refine eH func196 rfl rfl fun hH=>SR<| ?_
 refine oY hH (Jr bG) ?_
 intro b3 w1 aW
 rw[(gN hs).2]at aW
 refine iu aW (v:= .string _) rfl<|fun b6 w4 bU=>va (v:=I 0) rfl<|aa<|SR<|lV dP bU 1 O O rfl<|V (aA (hs.hp bU) O dP O)<| ?_
 refine V (r6 bG bG) ?_
 refine aG O bU (F5 _ 230 [.pointer (some ⟨b3,0,none⟩),.pointer (some ⟨b6,0,none⟩)] (fun i=>decide (l.getD i.toNat pu=s)) J _ call230 (fun i w h h0 h1=>On b3 b6 v l s i ⟨h0,h1⟩ w ((hs.hp bU).below h) (keep h (bU.blk (i:=1) O)) (keep h (bU.blk (i:=0) O)))) (bB call194 (show _=I 0 from O) O O)<|fun w7 fq=>aI rfl<|aa<|aj<|oI O ?_ fq
 rfl
theorem M9(b:Nat)(v:Value)(l:List Tx)(i:Int)(hi:0<=i/\i<l.length)(w:World)(hs:Sl w v 1 l.length (Ir l))(hb:w.heap[b]?=some (.cells #[v] 83 (0,0))):Calls Tryz.prog 195 #[I i,.pointer (some ⟨b,0,none⟩)] w (Pure (B (decide (qq l (l.getD i.toNat pu)<i))) w):=by
 have hm:=hs.small
 unfold maxLen at hm
 refine eH func195 rfl rfl fun hH=>SR<|va (v:=B false) rfl<|aa<|ah<|eF aM hH<|fun w1 aW=>have fK:=aW;AT 0 O fK (fun w hS=>au dP O O (hS.ed hb O))<|AQ 1 O fK (mV (I _) O)<|AT 3 O fK (fun w hS=>au dP O O (hS.ed hb O))<|AQ 4 O fK (mV (I _) O)<|AT 5 O fK (fun w hS=>ag (hs.hp hS) dP jT O O J)<|AT 6 O fK (fun w hS=>au gS O O ((hs.hp hS).cell _ _ (BC J)))<|A1 2<|cf O aH O aW sR (tT (hs.hp aW) dP jT O O J)<|A1 7<|cJ O aH O aW sR (Vz _ _ _ _ ((hs.hp aW).aDx J)) (aJ call196 O O)<|fun w5 gT=>AQ 8 O gT (dA O O)<|AQ 9 O gT (aV (B _) O)<|AD<|aj<|oB O ?_ gT
 exact afM hi.1 hi.2
theorem Sg(v:Value)(l:List Tx)(w:World)(hs:Sl w v 1 l.length (Ir l)):Calls Tryz.prog 163 #[v] w (Pure (I (xQ l)) w):=by
 have hm:=hs.small
 unfold maxLen at hm
 refine eH func163 rfl rfl fun hH=>SR<| ?_
 refine oY hH (Jr bG) ?_
 intro b3 w1 aW
 rw[(gN hs).2]at aW
 refine va (v:=I 0) rfl<|aa<|SR<|lV dP aW 0 O O rfl<|V (aA (hs.hp aW) O dP O)<| ?_
 refine V (Bw bG) ?_
 refine aG O aW (F5 _ 195 [.pointer (some ⟨b3,0,none⟩)] (fun i=>decide (qq l (l.getD i.toNat pu)<i)) J _ call195 (fun i w h h0 h1=>M9 b3 v l i ⟨h0,h1⟩ w ((hs.hp aW).below h) (keep h (aW.blk (i:=0) O)))) (bB call194 (show _=I 0 from O) O O)<|fun w4 bU=>aI rfl<|aa<|aj<|oI O ?_ bU
 rfl
theorem AV(v:Value)(l:List Tx)(s:Tx)(w:World)(hs:Sl w v 1 l.length (Ir l)):Calls Tryz.prog 114 #[v,S s] w (Pure (I (qq l s)) w):=by
 have hm:=hs.small
 unfold maxLen at hm
 refine eH func114 rfl rfl fun hH=>SR<|va (v:=I 0) rfl<|aa<|ah<|SR<|va (v:=I 0) rfl<|aa<|aC<|bj (G:=Int) (fun k s' w'=>(Fr (rg 4 15 []) _ s')/\(Hp w w' _)/\(s' 5=I k)/\(0<=k)/\(k<=l.length)/\(∀j:Int,0<=j->j<k->decide (l.getD j.toNat pu=s)=false)) (fun k=>(l.length-k).toNat) (0) ⟨Fr.refl _ _,hH,rfl,J,J,fun j a b=>absurd b J⟩<| ?_
 rintro k sg1 w1 ⟨tR,iL,MJ,h0,hk,hg⟩
 obtain⟨lO,zy⟩:=tR.w2 0 1
 refine ah<|SR<|aE MJ<|aE lO<|V (aA (hs.hp iL) O dP O)<|V (aL O O)<|aa<|aF O (fun h3=> ?_) (fun h3=> ?_)
 .refine ak<|ah<|aC<|SR<|aE lO<|aE MJ<|V (ag (hs.hp iL) dP jT O O J)<|V (au gS O O ((hs.hp iL).cell _ _ (BC J)))<|aE zy<|V (Ls O O)<|aa<|aF O (fun h5=> ?_) (fun h5=> ?_)
  .refine SR<|aE MJ<|aI rfl<|aa<|aj<|oI O ?_ iL
   exact(uK h0 aR (gB aR) hg).symm
  refine ak<|ax<|aE MJ<|V (ay O O J)<|aI rfl<|aa<| ?_
  refine⟨k+1,aZ,tR.u4.u4.u4.u1,iL,(aK I aN),J,J,?_⟩
  exact fun j a b=>if e:j=k then e▸gF ‹_›else hg j a J
 refine a7 (id:=0) rfl<|SR<|va (v:=I (-1)) rfl<|aa<|aj<|oI O ?_ iL
 exact(Fi fun j a b=>hg j a J).symm
theorem jI(v:Value)(l:List Tx)(w:World)(hs:Sl w v 1 l.length (Ir l)):Calls Tryz.prog 75 #[v] w (Pure (I (xQ l)) w):=by
 have hm:=hs.small
 unfold maxLen at hm
 refine eH func75 rfl rfl fun hH=>SR<|va (v:=I 0) rfl<|aa<|ah<|SR<|va (v:=I 0) rfl<|aa<|aC<|bj (G:=Int) (fun k s' w'=>(Fr (rg 2 17 []) _ s')/\(Hp w w' _)/\(s' 3=I k)/\(0<=k)/\(k<=l.length)/\(∀j:Int,0<=j->j<k->decide (qq l (l.getD j.toNat pu)<j)=false)) (fun k=>(l.length-k).toNat) (0) ⟨Fr.refl _ _,hH,rfl,J,J,fun j a b=>absurd b J⟩<| ?_
 rintro k sg1 w1 ⟨tR,iL,rR,h0,hk,hg⟩
 have lO:=tR.w1 0
 refine ah<|SR<|aE rR<|aE lO<|V (aA (hs.hp iL) O dP O)<|V (aL O O)<|aa<|aF O (fun h3=> ?_) (fun h3=> ?_)
 .refine ak<|ah<|aC<|SR<|aE lO<|aE lO<|aE rR<|V (ag (hs.hp iL) dP jT O O J)<|V (au gS O O ((hs.hp iL).cell _ _ (BC J)))<|aG O iL (AV _ _ _ _ (hs.hp iL)) (aJ call114 O O)<|fun w4 bU=>aE rR<|V (aL O O)<|aa<|aF O (fun h7=> ?_) (fun h7=> ?_)
  .refine SR<|aE rR<|aI rfl<|aa<|aj<|oI O ?_ bU
   exact(uK h0 aR (gB aR) hg).symm
  refine ak<|ax<|aE rR<|V (ay O O J)<|aI rfl<|aa<| ?_
  refine⟨k+1,aZ,tR.u4.u4.u4.u1.u1.u1,bU,(aK I aN),J,J,?_⟩
  exact fun j a b=>if e:j=k then e▸gF ‹_›else hg j a J
 refine a7 (id:=0) rfl<|SR<|va (v:=I (-1)) rfl<|aa<|aj<|oI O ?_ iL
 exact(Fi fun j a b=>hg j a J).symm
theorem Oo(v:Value)(l:List Tx)(w:World)(hs:Sl w v 1 l.length (Ir l)):Calls Tryz.prog 135 #[v] w (Pure (B (gO l)) w):=by
 have hm:=hs.small
 unfold maxLen at hm
 refine eH func135 rfl rfl fun hH=>SR<|va (v:=B false) rfl<|aa<|ah<|SR<| ?_
 refine V (run_move bG) ?_
 refine V (aA (hs.hp hH) O dP O)<|V (aL O O)<|mB rfl<|bN 8 O (fun h2=> ?_) (fun h2=> ?_)
 .refine aE (v:=B true) rfl<|mB rfl<|cC O rfl<|aE (v:=B true) rfl<|aa<|cB rfl<|SR<|va (v:=B false) rfl<|aa<|aj<|oB O ?_ hH
  exact(CL J).symm
 refine V (run_move bG) ?_
 refine V (aA (hs.hp hH) O dP O)<|V (dz O O)<|mB rfl<|mB rfl<|bN 13 O (fun h4=> ?_) (fun h4=> ?_)
 .refine aE (v:=B true) rfl<|aa<|cB rfl<|SR<|va (v:=B false) rfl<|aa<|aj<|oB O ?_ hH
  exact(CL J).symm
 refine V (run_move bG) ?_
 refine aG O hH (Sg _ _ _ (hs.hp hH)) (aq call163 O)<|fun w5 gT=>V (dA O O)<|mB rfl<|aa<|aF O (fun h8=> ?_) (fun h8=> ?_)
 .refine SR<|va (v:=B false) rfl<|aa<|aj<|oB O ?_ gT
  exact(OQ J).symm
 refine ak<|ah<|SR<| ?_
 refine V (run_move bG) ?_
 refine V (aA (hs.hp gT) O dP O)<|aE (v:=I 0) rfl<|aa<|aC<|have hn1:1<=l.length/\l.length<=64:=J;have Pd:xQ l<0:=J;bj (G:=Int) (fun k s' w'=>(Fr (2::(4::(rg 20 8 []))) _ s')/\(Hp w w' _)/\(s' 20=I k)/\(0<=k)/\(k<=l.length)/\(∀j:Int,0<=j->j<k->iw (l.getD j.toNat pu)=true)) (fun k=>(l.length-k).toNat) (0) ⟨Fr.refl _ _,gT,rfl,J,J,fun j a b=>absurd b J⟩<| ?_
 rintro k sg9 w9 ⟨fr9,iB,ai2,h0,hk,hg⟩
 obtain⟨axI,axJ⟩:=fr9.w2 18 19
 refine SR<|V (aL ai2 axJ)<|aa<|ah<|aF O (fun h11=> ?_) (fun h11=> ?_)
 .refine ak<|ah<|aC<|SR<|V (ag (hs.hp iB) dP jT axI ai2 J)<|V (au gS O O ((hs.hp iB).cell _ _ (BC J)))<|va (v:= .string _) rfl<|aa<|SR<|aE (v:= .string _) rfl<|aG O iB (Sf _ _) (aq call164 O)<|fun B7 cm=>V (bO O)<|aa<|bY O (fun yj=> ?_) (fun yj=> ?_)
  .refine SR<|va (v:=B false) rfl<|aa<|aj<|oB O ?_ cm
   exact(OR h0 aR (nt aR)).symm
  refine ak<|ax<|V (ay ai2 O J)<|mI rfl<|aa<| ?_
  refine⟨k+1,aZ,fr9.u4.u4.u1,cm,(aK I aN),J,J,?_⟩
  exact fun j a b=>if e:j=k then e▸nf ‹_›else hg j a J
 refine a7 (id:=0) rfl<|SR<|va (v:=B true) rfl<|aa<|aj<|oB O ?_ iB
 exact(pI hn1 Pd aR hg).symm
theorem Cc(f:pU)(w:World)(hf:vH (Kw w) f)(hT:oh w):Calls Tryz.prog 93 #[.agg (tX f)] w (Pure (B (cT f.fc)) w):=by
 have hm:=hf.names.sl.small
 unfold maxLen at hm
 refine eH func93 rfl rfl fun hH=>SR<|iu hH (v:= .agg _) rfl<|fun b3 w1 aW=>va (v:=B false) rfl<|aa<|ah<|SR<|V (fA dI 1 O ph O)<|lV dP aW 0 O O rfl<|aG O aW (Oo _ _ _ (hf.names.sl.hp aW)) (aq call135 O)<|fun w4 bU=>V (bO O)<|aa<|bY O (fun h8=> ?_) (fun h8=> ?_)
 .refine SR<|va (v:=B false) rfl<|aa<|aj<|oB O ?_ bU
  exact(LD (f:=f.fc) (nt aR)).symm
 refine ak<|ah<|SR<|V (fA dI 0 O bz O)<|lI bx bU 0 O O rfl<|aa<|aC<|ah<|SR<|V (bX O O)<|aB rfl<|aa<|aF O (fun h10=> ?_) (fun h10=> ?_)
 .refine ak<|cB (bT h10)<|SR<|V (fA dI 2 O jR O)<|V (j3 bQ O O O (bU.blk (i:=0) O))<|V (dO (vs:=[]) O MG)<|aG O bU (DC _ _ _) (aJ call136 O O)<|fun ID cK=>aB rfl<|aa<|aj<|oB O ?_ cK
  exact(Z4 (f:=f.fc) (nf ‹(!gO f.names)=false›) (.inl aR)).symm
 refine ax<|V (bX O O)<|aB rfl<|aa<|aF O (fun yj=> ?_) (fun yj=> ?_)
 .refine SR<|V (fA dI 2 O jR O)<|V (j3 bQ O O O (bU.blk (i:=0) O))<|V (dO (vs:=[]) O MG)<|aG O bU (DC _ _ _) (aJ call136 O O)<|fun Sa dS=>aB rfl<|aa<|aj<|oB O ?_ dS
  exact(Z4 (f:=f.fc) (nf ‹(!gO f.names)=false›) (.inr aR)).symm
 refine SR<|V (bX O O)<|aB rfl<|aa<|aF O (fun h22=> ?_) (fun h22=> ?_)
 .refine SR<|V (fA dI 2 O jR O)<|V (fA bQ 0 O bz O)<|lI bx bU 0 O O rfl<|V (fA dI 1 O ph O)<|lV dP bU 0 O O rfl<|V (aA (hf.names.sl.hp bU) O dP O)<|V (bX O O)<|mB rfl<|bN 25 O (fun Aj=> ?_) (fun Aj=> ?_)
  .refine V (fA dI 2 O jR O)<|V (j3 bQ O O O (bU.blk (i:=0) O))<|aG O bU (zI _ _) (aq call137 O)<|fun w25 kB=>mB rfl<|aB rfl<|aa<|aj<|oB O ?_ kB
   exact(af3 (f:=f.fc) (nf ‹(!gO f.names)=false›) aR aR).symm
  refine aE (v:=B false) rfl<|aB rfl<|aa<|aj<|oB O ?_ bU
  exact(af1 (f:=f.fc) aR aR).symm
 refine SR<|V (bX O O)<|aB rfl<|aa<|aF O (fun qQ=> ?_) (fun qQ=> ?_)
 .refine SR<|V (fA dI 2 O jR O)<|V (fA bQ 0 O bz O)<|lI bx bU 0 O O rfl<|V (fA dI 1 O ph O)<|lV dP bU 0 O O rfl<|V (aA (hf.names.sl.hp bU) O dP O)<|V (bX O O)<|mB rfl<|bN 39 O (fun h31=> ?_) (fun h31=> ?_)
  .refine V (fA dI 2 O jR O)<|V (j3 bQ O O O (bU.blk (i:=0) O))<|aG O bU (Jb _ _ (hT.hp bU)) (aq call138 O)<|fun w32 jN=>mB rfl<|aB rfl<|aa<|aj<|oB O ?_ jN
   exact(af4 (f:=f.fc) (nf ‹(!gO f.names)=false›) aR aR).symm
  refine aE (v:=B false) rfl<|aB rfl<|aa<|aj<|oB O ?_ bU
  exact(af2 (f:=f.fc) aR aR).symm
 refine ak<|SR<|va (v:=B false) rfl<|aa<|aj<|oB O ?_ bU
 exact(aos (f:=f.fc) aR aR aR aR).symm
theorem xA(s:kX)(w:World)(hs:lB (Kw w) s)(hT:oh w):Calls Tryz.prog 50 #[.agg (rD s)] w (Pure (B (qY s.sh)) w):=by
 have hsl:=tg s
 have hm:=hs.aY.sl.small
 unfold maxLen at hm
 refine eH func50 rfl rfl fun hH=>SR<|iu hH (v:= .agg _) rfl<|fun b3 w1 aW=>va (v:=B false) rfl<|aa<|SR<|V (fA dL 1 O gV O)<|lV dG aW 0 O O rfl<|V (aA (hs.aY.sl.hp aW) O dG O)<|aI rfl<|aa<|ah<|SR<|mI rfl<|V (aL O O)<|mB rfl<|bN 11 O (fun h5=> ?_) (fun h5=> ?_)
 .refine aE (v:=B true) rfl<|mB rfl<|cC O rfl<|gX O O rfl<|gX O O rfl<|Bx<|aE (v:=B true) rfl<|aa<|cB rfl<|SR<|va (v:=B false) rfl<|aa<|aj<|oB O ?_ aW
  exact(JJ J).symm
 refine mI rfl<|V (dz O O)<|mB rfl<|mB rfl<|bN 15 O (fun h7=> ?_) (fun h7=> ?_)
 .refine gX O O rfl<|gX O O rfl<|Bx<|aE (v:=B true) rfl<|aa<|cB rfl<|SR<|va (v:=B false) rfl<|aa<|aj<|oB O ?_ aW
  exact(JJ J).symm
 refine V (fA dL 0 O mG O)<|V (au qb O O (aW.cell (i:=0) O (v:=B _) O))<|V (bO O)<|mB rfl<|gm 19 O (fun h10=> ?_) (fun h10=> ?_)
 .refine mI rfl<|V (jB O O)<|mB rfl<|mB rfl<|aa<|aF O (fun h12=> ?_) (fun h12=> ?_)
  .refine SR<|va (v:=B false) rfl<|aa<|aj<|oB O ?_ aW
   exact(ZX (by exact nt aR) J).symm
  refine ak<|ah<|SR<|V (fA dL 1 O gV O)<|lV dG aW 0 O O rfl<|V (aA (hs.aY.sl.hp aW) O dG O)<|aE (v:=I 0) rfl<|aa<|aC<|have hc2:s.sh.tuple=true\/s.sh.aY.length=1:=(by exact .inr J);have XX:1<=s.aY.length/\s.aY.length<=8:=J;bj (G:=Int) (fun k s' w'=>(Fr (2::(5::(rg 27 8 []))) _ s')/\(Hp w w' _)/\(s' 27=I k)/\(0<=k)/\(k<=s.aY.length)/\(∀j:Int,0<=j->j<k->cT (s.aY.getD j.toNat kF).fc=true)) (fun k=>(s.aY.length-k).toNat) (0) ⟨Fr.refl _ _,aW,rfl,J,J,fun j a b=>absurd b J⟩<| ?_
  rintro k ado C7 ⟨tw,cm,Y4,h0,hk,hg⟩
  obtain⟨MZ,as6⟩:=tw.w2 25 26
  refine SR<|V (aL Y4 as6)<|aa<|ah<|aF O (fun Ja=> ?_) (fun Ja=> ?_)
  .refine ak<|ah<|aC<|SR<|V (ag (hs.aY.sl.hp cm) dG s7 MZ Y4 J)<|V (dY (dv:=kF) fJ (hs.aY.sl.hp cm) dI O O O J)<|oY cm (bf vb)<|fun b18 JZ dU=>bu dU (i:=0) O (uh (hs.at J J) O O O (dU.blk (i:=0) O))<|fun Vo cL=>aa<|SR<|V (xS dI O O O (cL.blk (i:=0) O))<|aG O cL (Cc _ _ ((hs.at J J).mono cL.kw) (hT.hp cL)) (aq call93 O)<|fun Og dm=>V (bO O)<|aa<|bY O (fun HN=> ?_) (fun HN=> ?_)
   .refine SR<|va (v:=B false) rfl<|aa<|aj<|oB O ?_ dm
    exact(JK (k:=k) h0 J GL).symm
   refine ak<|ax<|V (ay Y4 O J)<|mI rfl<|aa<| ?_
   refine⟨k+1,aZ,tw.u4.u4.u1,(dm.sub (sQ sR)),(aK I aN),J,J,?_⟩
   exact fun j a b=>if e:j=k then e▸nf ‹_›else hg j a J
  refine a7 (id:=0) rfl<|SR<|va (v:=B true) rfl<|aa<|aj<|oB O ?_ cm
  exact(JL (k:=k) J hc2 J fun j a b=>by rw[mH];exact hg j a b).symm
 refine aE (v:=B false) rfl<|mB rfl<|aa<|dh rfl<|ak<|ah<|SR<|V (fA dL 1 O gV O)<|lV dG aW 0 O O rfl<|V (aA (hs.aY.sl.hp aW) O dG O)<|aE (v:=I 0) rfl<|aa<|aC<|have hc2:s.sh.tuple=true\/s.sh.aY.length=1:=(by exact .inl (nf ‹(!s.tuple)=false›));have XX:1<=s.aY.length/\s.aY.length<=8:=J;bj (G:=Int) (fun k s' w'=>(Fr (2::(5::(rg 27 8 []))) _ s')/\(Hp w w' _)/\(s' 27=I k)/\(0<=k)/\(k<=s.aY.length)/\(∀j:Int,0<=j->j<k->cT (s.aY.getD j.toNat kF).fc=true)) (fun k=>(s.aY.length-k).toNat) (0) ⟨Fr.refl _ _,aW,rfl,J,J,fun j a b=>absurd b J⟩<| ?_
 rintro k aEZ Vv ⟨ai3,kB,Y5,h0,hk,hg⟩
 obtain⟨as7,as8⟩:=ai3.w2 25 26
 refine SR<|V (aL Y5 as8)<|aa<|ah<|aF O (fun h28=> ?_) (fun h28=> ?_)
 .refine ak<|ah<|aC<|SR<|V (ag (hs.aY.sl.hp kB) dG s7 as7 Y5 J)<|V (dY (dv:=kF) fJ (hs.aY.sl.hp kB) dI O O O J)<|oY kB (bf vb)<|fun b31 w29 jx=>bu jx (i:=0) O (uh (hs.at J J) O O O (jx.blk (i:=0) O))<|fun w32 jN=>aa<|SR<|V (xS dI O O O (jN.blk (i:=0) O))<|aG O jN (Cc _ _ ((hs.at J J).mono jN.kw) (hT.hp jN)) (aq call93 O)<|fun w34 yl=>V (bO O)<|aa<|bY O (fun h38=> ?_) (fun h38=> ?_)
  .refine SR<|va (v:=B false) rfl<|aa<|aj<|oB O ?_ yl
   exact(JK (k:=k) h0 J GL).symm
  refine ak<|ax<|V (ay Y5 O J)<|mI rfl<|aa<| ?_
  refine⟨k+1,aZ,ai3.u4.u4.u1,(yl.sub (sQ sR)),(aK I aN),J,J,?_⟩
  exact fun j a b=>if e:j=k then e▸nf ‹_›else hg j a J
 refine a7 (id:=0) rfl<|SR<|va (v:=B true) rfl<|aa<|aj<|oB O ?_ kB
 exact(JL (k:=k) J hc2 J fun j a b=>by rw[mH];exact hg j a b).symm
theorem Si(f:pU)(s:BitVec 64)(w:World)(hf:vH (Kw w) f)(hT:oh w):Calls Tryz.prog 145 #[.agg (tX f),U s] w (Pure (B (jZ f.fc s)) w):=by
 have hm:=hf.names.sl.small
 unfold maxLen at hm
 refine eH func145 rfl rfl fun hH=>SR<|iu hH (v:= .agg _) rfl<|fun b3 w1 aW=>va (v:=B false) rfl<|aa<|ah<|SR<|V (fA dI 0 O bz O)<|lI bx aW 0 O O rfl<|aa<|aC<|SR<|V (bX O O)<|aB rfl<|aa<|aF O (fun h5=> ?_) (fun h5=> ?_)
 .refine SR<|V (fA dI 1 O ph O)<|lV dP aW 0 O O rfl<|V (aA (hf.names.sl.hp aW) O dP O)<|mU rfl<|aG O aW (R9 _ _ _) (aJ call178 O O)<|fun w6 eD=>aB rfl<|aa<|aj<|oB O ?_ eD
  exact(OT (f:=f.fc) aR s).symm
 refine SR<|V (bX O O)<|aB rfl<|aa<|aF O (fun h10=> ?_) (fun h10=> ?_)
 .refine SR<|mU rfl<|V (fA dI 1 O ph O)<|lV dP aW 0 O O rfl<|V (aA (hf.names.sl.hp aW) O dP O)<|aG O aW (n7 _ _) (aq GG O)<|fun ID cK=>aG O cK (EM _ _ _) (aJ call140 O O)<|fun C7 cF=>aB rfl<|aa<|aj<|oB O ?_ cF
  exact(OU (f:=f.fc) aR s).symm
 refine SR<|V (bX O O)<|aB rfl<|aa<|aF O (fun Om=> ?_) (fun Om=> ?_)
 .refine SR<|V (fA dI 2 O jR O)<|V (j3 bQ O O O (aW.blk (i:=0) O))<|mU rfl<|aG O aW (Oj _ _ _ (hT.hp aW)) (aJ call180 O O)<|fun PR jy=>aB rfl<|aa<|aj<|oB O ?_ jy
  exact(OV (f:=f.fc) aR s).symm
 refine ak<|SR<|V (fA dI 2 O jR O)<|V (j3 bQ O O O (aW.blk (i:=0) O))<|mU rfl<|aG O aW (xw _ _ _ (hT.hp aW)) (aJ call181 O O)<|fun Og dm=> ?_
 refine V (run_move bG) ?_
 refine V (bA O (v:=I _) O)<|V (bA O (v:=B _) O)<|aI rfl<|aB rfl<|aa<|SR<|mB rfl<|aB rfl<|aa<|aj<|oB O ?_ dm
 exact(aot (f:=f.fc) aR aR aR s).symm
theorem zL(s:kX)(e:El)(w:World)(hs:lB (Kw w) s)(hT:oh w):Calls Tryz.prog 105 #[.agg (rD s),.agg (jg e)] w (Pure (B (cz s.sh e)) w):=by
 have hsl:=tg s
 have hm:=hs.aY.sl.small
 unfold maxLen at hm
 refine eH func105 rfl rfl fun hH=>SR<|iu hH (v:= .agg _) rfl<|fun b3 w1 aW=>iu aW (v:= .agg _) rfl<|fun b6 w4 bU=>va (v:=B false) rfl<|aa<|ah<|SR<|V (cN (cs:=[B _,_]) dL O O O (bp (bU.blk (i:=1) O)))<|aG O bU (xA _ _ (hs.mono bU.kw) (hT.hp bU)) (aq call50 O)<|fun w7 fq=>V (bO O)<|aa<|bY O (fun h11=> ?_) (fun h11=> ?_)
 .refine SR<|va (v:=B false) rfl<|aa<|aj<|oB O ?_ fq
  exact(TM (nt aR)).symm
 refine ak<|ah<|SR<|V (dR cI O O O (fq.blk (i:=0) O))<|aE (v:=I 0) rfl<|aa<|aC<|have hr:qY s.sh=true:=nf aR;bj (G:=Int) (fun k s' w'=>(Fr (rg 4 3 (rg 11 20 [])) _ s')/\(Hp w w' _)/\(s' 11=I k)/\(0<=k)/\(k<=8)/\(Dt s.sh e k)) (fun k=>(8-k).toNat) (0) ⟨Fr.refl _ _,fq,rfl,J,J,Dt.none _ _⟩<| ?_
 rintro k aiU B7 ⟨pB,cK,Na,h0,hk,hf⟩
 obtain⟨DI,as9⟩:=pB.w2 2 10
 refine SR<|V (aL Na O)<|aa<|ah<|aF O (fun JY=> ?_) (fun JY=> ?_)
 .refine ak<|ah<|aC<|SR<|aE Na<|V (KT cI isAgg35 c8 as9 Na J (aq7 _ J))<|aI rfl<|aU rfl<|aa<|ah<|SR<|mI rfl<|V (fA dL 1 O gV DI)<|lV dG cK 1 O O rfl<|V (aA (hs.aY.sl.hp cK) O dG O)<|V (dA O O)<|aa<|aF O (fun yj=> ?_) (fun yj=> ?_)
  .refine ah<|SR<|mU rfl<|V (uB O (b:=0#64) O)<|aa<|aF O (fun pW=> ?_) (fun pW=> ?_)
   .refine SR<|va (v:=B false) rfl<|aa<|aj<|oB O ?_ cK
    exact(Lu h0 aR J aR).symm
   refine ak<|a7 (id:=1) rfl<|ax<|V (ay Na O J)<|mI rfl<|aa<| ?_
   refine⟨k+1,aZ,pB.u4.u4.u4.u1.u1,cK,(aK I aN),J,J,?_⟩
   exact hf.next (fun h=>by exfalso;omega) (fun h=>by exact Gr aR)
  refine ak<|SR<|V (fA dL 1 O gV DI)<|lV dG cK 1 O O rfl<|mI rfl<|V (ag (hs.aY.sl.hp cK) dG s7 O O J)<|V (dY (dv:=kF) fJ (hs.aY.sl.hp cK) dI O O O J)<|mU rfl<|aG O cK (Si _ _ _ ((hs.at J J).mono cK.kw) (hT.hp cK)) (aJ call145 O O)<|fun Vo cL=>V (bO O)<|aa<|bY O (fun FT=> ?_) (fun FT=> ?_)
  .refine SR<|va (v:=B false) rfl<|aa<|aj<|oB O ?_ cL
   exact(TN h0 aR J GL).symm
  refine ak<|ax<|V (ay Na O J)<|mI rfl<|aa<| ?_
  refine⟨k+1,aZ,pB.u4.u4.u4.u4.u4,cL,(aK I aN),J,J,?_⟩
  exact hf.next (fun h=>by rw[mH];exact nf aR) (fun h=>by exfalso;omega)
 refine a7 (id:=0) rfl<|SR<|va (v:=B true) rfl<|aa<|aj<|oB O ?_ cK
 exact(Lv hr aR hf).symm
end
section
open Go Go.RowKit Go.Proofs.YtlhjdflgjbkpmaaGreatDoor.E Go.Proofs.YtlhjdflgjbkpmaaGreatDoor.M
set_option maxRecDepth 100000
open Go.Proofs.Tryz
variable{fr:List a8}
theorem VA(a b:El)(w:World):Calls Tryz.prog 97 #[.agg (jg a),.agg (jg b)] w (Pure (B (cR a b)) w):=by
 refine eH func97 rfl rfl fun hH=>SR<|iu hH (v:= .agg _) rfl<|fun b3 w1 aW=>iu aW (v:= .agg _) rfl<|fun b6 w4 bU=>va (v:=B false) rfl<|aa<|ah<|SR<|aE (v:=I 0) rfl<|aa<|aC<|bj (G:=Int) (fun k s' w'=>(Fr (rg 4 14 []) _ s')/\(Hp w w' _)/\(s' 6=I k)/\(0<=k)/\(k<=8)/\(∀j:Int,0<=j->j<k->dV (a j.toNat) (b j.toNat)=true)) (fun k=>(8-k).toNat) (0) ⟨Fr.refl _ _,bU,rfl,J,J,fun j u v=>absurd v J⟩<| ?_
 rintro k sg7 w7 ⟨E2,eD,ai4,h0,hk,hf⟩
 obtain⟨as3,ads⟩:=E2.w2 2 3
 refine SR<|V (aL ai4 O)<|aa<|ah<|aF O (fun h9=> ?_) (fun h9=> ?_)
 .refine ak<|ah<|aC<|SR<|aE ai4<|aI rfl<|aa<|ah<|eF aM eD<|fun Gk dF=>have jm:=dF;AQ 0 O jm (mV (I _) O)<|AQ 1 O jm (bC cI c8 as3 O J)<|tV 2 O jm dW 1 O O (ng _ J)<|AQ 3 O jm (mV (I _) O)<|AQ 4 O jm (bC cI c8 ads O J)<|tV 5 O jm dW 0 O O (ng _ J)<|A1 6<|cJ O aH O dF sR (EM _ _ _) (aJ call140 O O)<|fun B7 cm=>AQ 7 O cm (bO O)<|AD<|bY O (fun yj=> ?_) (fun yj=> ?_)
  .refine SR<|va (v:=B false) rfl<|aa<|aj<|oB O ?_ cm
   exact(aq5 h0 aR (nt aR)).symm
  refine ak<|ax<|V (ay ai4 O J)<|mI rfl<|aa<| ?_
  refine⟨k+1,aZ,E2.u4.u4.u4.u1,cm,(aK I aN),J,J,?_⟩
  exact fun j u v=>if e:j=k then e▸nf ‹_›else hf j u J
 refine a7 (id:=0) rfl<|SR<|va (v:=B true) rfl<|aa<|aj<|oB O ?_ eD
 exact(alz aR hf).symm
theorem Sj(s:kX)(a b:El)(w:World)(hs:lB (Kw w) s)(hT:oh w):Calls Tryz.prog 170 #[.agg (rD s),.agg (jg a),.agg (jg b)] w (Pure (.agg (jg (fC s.sh a b))) w):=by
 have hsl:=tg s
 have hm:=hs.aY.sl.small
 unfold maxLen at hm
 refine eH func170 rfl rfl fun hH=>SR<|iu hH (v:= .agg _) rfl<|fun b3 w1 aW=>iu aW (v:= .agg _) rfl<|fun b6 w4 bU=>iu bU (v:= .agg _) rfl<|fun b9 w7 fq=>oY fq (bf jH)<|fun b12 Gk dF=>aa<|ah<|SR<|aE (v:=I 0) rfl<|aa<|aC<|bj (G:=Int×El) (fun⟨k,e1⟩ s' w'=>(Fr (rg 7 42 []) _ s')/\(Hp w w' (_::_:: .blk b6 (.cells (jg e1) 37 (0,0))::_))/\(s' 8=I k)/\(0<=k)/\(k<=8)/\(e1=sx (fC s.sh a b) a k)) (fun⟨k,e1⟩=>(8-k).toNat) ((0,a)) ⟨Fr.refl _ _,dF,rfl,J,J,(Fl _ _).symm⟩<| ?_
 rintro⟨k,e1⟩ ado C7 ⟨tw,cm,VB,h0,hk,hr⟩
 obtain⟨Ao,FU,M8,PW⟩:=tw.w4 3 4 5 6
 refine SR<|V (aL VB O)<|aa<|ah<|aF O (fun Ja=> ?_) (fun Ja=> ?_)
 .refine ak<|ah<|aC<|SR<|aE VB<|aI rfl<|aa<|ah<|SR<|mI rfl<|V (fA dL 1 O gV Ao)<|lV dG cm 3 O O rfl<|V (aA (hs.aY.sl.hp cm) O dG O)<|V (aL O O)<|mB rfl<|bN 16 O (fun Om=> ?_) (fun Om=> ?_)
  .refine V (fA dL 1 O gV Ao)<|lV dG cm 3 O O rfl<|mI rfl<|V (ag (hs.aY.sl.hp cm) dG s7 O O J)<|V (fA dI 0 O bz O)<|V (gp (dv:=kF) fJ (hs.aY.sl.hp cm) bx O O J O)<|V (bX O O)<|mB rfl<|aa<|aF O (fun MU=> ?_) (fun MU=> ?_)
   .refine ah<|gY aM cm (sP (sP (sQ sR)))<|fun w20 fp=>have nS:=fp.sub (sP (sP (sQ sR)));AQ 0 O nS (mV (I _) O)<|AQ 1 O nS (fA dL 1 O gV Ao)<|tV 2 O nS dG 2 O O rfl<|AQ 3 O nS (mV (I _) O)<|AT 4 O nS (fun w hS=>ag (hs.aY.sl.hp hS) dG s7 O O J)<|AQ 5 O nS (fA dI 2 O jR O)<|AT 6 O nS (fun w hS=>afS (hs.aY.sl.hp hS) bQ O O O J)<|AQ 7 O nS (mV (I _) O)<|AQ 8 O nS (bC cI c8 FU O J)<|AQ 10 O nS (mV (I _) O)<|AQ 11 O nS (bC cI c8 M8 O J)<|tV 12 O nS dW 1 O O (ng _ J)<|A1 9<|cf O aH O fp (sP (sP (sQ sR))) (au dW O O (fp.cell (i:=2) O (ng _ J)))<|A1 13<|cJ O aH O fp (sP (sP (sQ sR))) (Oi _ _ _ _ (hT.hp fp)) (bB call205 O O O)<|fun w24 oG=>AQ 14 O (oG.sub (sP (sP (sQ sR)))) (bC cI c8 FU O J)<|A1 15<|ec O aH oG (j:=2) O (sP (sP (sQ sR))) (bL O O (v:=U _) O O O (oG.blk (i:=2) O) Ed)<|fun w28 gx=> ?_
    rw[yW]at gx
    refine AD<|a7 (id:=1) rfl<|ax<|V (ay VB O J)<|mI rfl<|aa<| ?_
    refine⟨(k+1,_),aZ,tw.u4.u4.u4.u4.u4.u4.u4.u4.u1.u1,gx,(aK I aN),J,J,?_⟩
    exact acd hr h0 aR aR
   refine ak<|gY aM cm (sP (sP (sQ sR)))<|fun w30 l7=>have HQ:=l7.sub (sP (sP (sQ sR)));AQ 0 O HQ (mV (I _) O)<|AQ 1 O HQ (bC cI c8 FU O J)<|AQ 3 O HQ (mV (I _) O)<|AQ 4 O HQ (bC cI c8 M8 O J)<|tV 5 O HQ dW 1 O O (ng _ J)<|A1 2<|cf O aH O l7 (sP (sP (sQ sR))) (au dW O O (l7.cell (i:=2) O (ng _ J)))<|AQ 6 O HQ (jC O O)<|AQ 7 O HQ (bC cI c8 FU O J)<|A1 8<|ec O aH l7 (j:=2) O (sP (sP (sQ sR))) (bL O O (v:=U _) O O O (l7.blk (i:=2) O) Ed)<|fun w36 vP=> ?_
   rw[yW]at vP
   refine AD<|ax<|V (ay VB O J)<|mI rfl<|aa<| ?_
   refine⟨(k+1,_),aZ,tw.u4.u4.u4.u4.u4.u4.u1.u1.u1,vP,(aK I aN),J,J,?_⟩
   exact OY hr h0 (fun hc=>absurd hc.1 J)
  refine aE (v:=B false) rfl<|aa<|dh rfl<|ak<|gY aM cm (sP (sP (sQ sR)))<|fun w38 nR=>have Cd:=nR.sub (sP (sP (sQ sR)));AQ 0 O Cd (mV (I _) O)<|AQ 1 O Cd (bC cI c8 FU O J)<|AQ 3 O Cd (mV (I _) O)<|AQ 4 O Cd (bC cI c8 M8 O J)<|tV 5 O Cd dW 1 O O (ng _ J)<|A1 2<|cf O aH O nR (sP (sP (sQ sR))) (au dW O O (nR.cell (i:=2) O (ng _ J)))<|AQ 6 O Cd (jC O O)<|AQ 7 O Cd (bC cI c8 FU O J)<|A1 8<|ec O aH nR (j:=2) O (sP (sP (sQ sR))) (bL O O (v:=U _) O O O (nR.blk (i:=2) O) Ed)<|fun w44 qR=> ?_
  rw[yW]at qR
  refine AD<|ax<|V (ay VB O J)<|mI rfl<|aa<| ?_
  refine⟨(k+1,_),aZ,tw.u4.u4.u4.u4.u4.u4.u1.u1.u1,qR,(aK I aN),J,J,?_⟩
  exact OY hr h0 (fun hc=>absurd hc.1 J)
 refine a7 (id:=0) rfl<|SR<|V (dR cI O O FU (cm.blk (i:=2) O))<|bu cm (i:=0) O (ey O PW O (cm.blk (i:=0) O))<|fun w46 oa=>aa<|aj<|wu O PW oa (i:=0) O cI O m5 ⟨?_,oa.below⟩
 (exact aK Value.agg (rB Xj))
theorem Sk(a b:El)(w:World):Calls Tryz.prog 171 #[.agg (jg a),.agg (jg b)] w (Pure (.agg (jg (qZ a b))) w):=by
 refine eH func171 rfl rfl fun hH=>SR<|iu hH (v:= .agg _) rfl<|fun b3 w1 aW=>iu aW (v:= .agg _) rfl<|fun b6 w4 bU=>oY bU (bf jH)<|fun b9 w7 fq=>aa<|ah<|SR<|aE (v:=I 0) rfl<|aa<|aC<|bj (G:=Int×El) (fun⟨k,e1⟩ s' w'=>(Fr (rg 5 13 []) _ s')/\(Hp w w' (_::_:: .blk b3 (.cells (jg e1) 37 (0,0))::_))/\(s' 6=I k)/\(0<=k)/\(k<=8)/\(e1=sx (qZ a b) a k)) (fun⟨k,e1⟩=>(8-k).toNat) ((0,a)) ⟨Fr.refl _ _,fq,rfl,J,J,(Fl _ _).symm⟩<| ?_
 rintro⟨k,e1⟩ Y2 Gk ⟨rS,bW,F3,h0,hk,hr⟩
 obtain⟨F4,o3,PV⟩:=rS.w3 2 3 4
 refine SR<|V (aL F3 O)<|aa<|ah<|aF O (fun h12=> ?_) (fun h12=> ?_)
 .refine ak<|ah<|aC<|SR<|aE F3<|aI rfl<|aa<|gY aM bW (sP (sP (sQ sR)))<|fun C7 cF=>have xB:=cF.sub (sP (sP (sQ sR)));AQ 0 O xB (mV (I _) O)<|AQ 1 O xB (bC cI c8 F4 O J)<|AQ 3 O xB (mV (I _) O)<|AQ 4 O xB (bC cI c8 o3 O J)<|tV 5 O xB dW 1 O O (ng _ J)<|A1 2<|cf O aH O cF (sP (sP (sQ sR))) (au dW O O (cF.cell (i:=2) O (ng _ J)))<|AQ 6 O xB (mq O O)<|AQ 7 O xB (bC cI c8 F4 O J)<|A1 8<|ec O aH cF (j:=2) O (sP (sP (sQ sR))) (bL O O (v:=U _) O O O (cF.blk (i:=2) O) Ed)<|fun Vo cL=> ?_
  rw[yW]at cL
  refine AD<|ax<|V (ay F3 O J)<|mI rfl<|aa<| ?_
  refine⟨(k+1,_),aZ,rS.u4.u4.u4.u1,cL,(aK I aN),J,J,?_⟩
  exact af7 hr h0
 refine a7 (id:=0) rfl<|SR<|V (dR cI O O F4 (bW.blk (i:=2) O))<|bu bW (i:=0) O (ey O PV O (bW.blk (i:=0) O))<|fun Og dm=>aa<|aj<|wu O PV dm (i:=0) O cI O m5 ⟨?_,dm.below⟩
 (exact aK Value.agg (rB Xj))
theorem Sm(s:kX)(fi:FuncId)(gg:Fc->BitVec 64)(w:World)(hs:lB (Kw w) s)(hf:∀args w,(callFunc fi args).run Tryz.prog w= .ok (.enter fi args) w)(go:∀f w',vH (Kw w') f->oh w'->Calls Tryz.prog fi #[.agg (tX f)] w' (Pure (U (gg f.fc)) w'))(hT:oh w):Calls Tryz.prog 99 #[.agg (rD s),.func (.func fi) #[] #[]] w (Pure (.agg (jg (gZ s.sh gg))) w):=by
 have hsl:=tg s
 have hm:=hs.aY.sl.small
 unfold maxLen at hm
 refine eH func99 rfl rfl fun hH=>SR<|iu hH (v:= .agg _) rfl<|fun b3 w1 aW=>oY aW (bf jH)<|fun b6 w4 bU=>aa<|SR<|oY bU (bf jH)<|fun b9 w7 fq=>aa<|ah<|SR<|V (cN (cs:=[B _,_]) dL O O O (bp (fq.blk (i:=2) O)))<|aG O fq (xA _ _ (hs.mono fq.kw) (hT.hp fq)) (aq call50 O)<|fun Gk dF=>aa<|bY O (fun Vn=> ?_) (fun Vn=> ?_)
 .refine SR<|V (fA dL 1 O gV O)<|lV dG dF 2 O O rfl<|V (aA (hs.aY.sl.hp dF) O dG O)<|aE (v:=I 0) rfl<|aa<|aC<|have hln:=(yV ‹qY s.sh=true›).1;bj (G:=Int×El) (fun⟨k,e1⟩ s' w'=>(Fr (6::7::(rg 13 11 [])) _ s')/\(Hp w w' (.blk b9 (.cells (jg e1) 37 (0,0))::_))/\(s' 13=I k)/\(0<=k)/\(k<=s.aY.length)/\(e1=sx (gZ s.sh gg) dy k)) (fun⟨k,e1⟩=>(s.aY.length-k).toNat) ((0,dy)) ⟨Fr.refl _ _,dF,rfl,J,J,(Fl _ _).symm⟩<| ?_
  rintro⟨k,e1⟩ YQ PO ⟨l6,cF,Sn,h0,hk,hr⟩
  have ML:=l6.vv 1 (a:= .func _ _ _) rfl rfl
  obtain⟨DB,wI,MP,ata⟩:=l6.w4 4 5 11 12
  refine SR<|V (aL Sn ata)<|aa<|ah<|aF O (fun yj=> ?_) (fun yj=> ?_)
  .refine ak<|ah<|aC<|SR<|aE Sn<|V (ag (hs.aY.sl.hp cF) dG s7 MP Sn J)<|V (dY (dv:=kF) fJ (hs.aY.sl.hp cF) dI O O O J)<|oY cF (bf vb)<|fun YU Sa dS=>aI rfl<|bu dS (i:=0) O (uh (hs.at J J) O O O (dS.blk (i:=0) O))<|fun w20 fp=>aa<|ax<|mI rfl<|aE ML<|V (xS dI O O O (fp.blk (i:=0) O))<|aG O fp (go _ _ ((hs.at J J).mono fp.kw) (hT.hp fp)) (lX hf (cs:=[]) O O)<|fun S5 eN=>V (bC cI c8 wI O J)<|bu eN (i:=1) O (bL O O (v:=U _) O O O (eN.blk (i:=1) O) Ed)<|fun w24 oG=> ?_
   rw[yW]at oG
   refine aa<|ax<|V (ay Sn O J)<|mI rfl<|aa<| ?_
   refine⟨(k+1,_),aZ,l6.u4.u4.u4.u1,(oG.sub (sQ sR)),(aK I aN),J,J,?_⟩
   (have hp:=af6 ‹qY s.sh=true› hr h0 (show k<s.sh.aY.length by omega);rw[mH]at hp;exact hp)
  refine a7 (id:=0) rfl<|SR<|V (dR cI O O wI (cF.blk (i:=0) O))<|bu cF (i:=1) O (ey O DB O (cF.blk (i:=1) O))<|fun Vv dD=>aa<|aj<|wu O DB dD (i:=1) O cI O m5 ⟨?_,dD.below⟩
  exact aK Value.agg (rB (by rw[hr];exact af5 J))
 refine ak<|SR<|V (dR cI O O O (dF.blk (i:=0) O))<|bu dF (i:=1) O (ey O O O (dF.blk (i:=1) O))<|fun w28 gx=>aa<|aj<|wu O O gx (i:=1) O cI O m5 ⟨?_,gx.below⟩
 exact aK Value.agg (rB (alF aR))
theorem Oq(f:pU)(w:World)(hf:vH (Kw w) f)(hT:oh w):Calls Tryz.prog 100 #[.agg (tX f)] w (Pure (U (eU f.fc)) w):=by
 refine eH func100 rfl rfl fun hH=>SR<|iu hH (v:= .agg _) rfl<|fun b3 w1 aW=>va (v:=U 0#64) rfl<|aa<|ah<|SR<|V (fA dI 0 O bz O)<|lI bx aW 0 O O rfl<|V (jB O O)<|aa<|aF O (fun h5=> ?_) (fun h5=> ?_)
 .refine SR<|va (v:=U 0#64) rfl<|aa<|aj<|oU O ?_ aW
  exact(aQ (show f.fc.kind≠4 from aR)).symm
 refine ak<|SR<|V (fA dI 2 O jR O)<|V (j3 bQ O O O (aW.blk (i:=0) O))<|aG O aW (M1 _ _ (hT.hp aW)) (aq call143 O)<|fun w6 eD=> ?_
 refine V (run_move bG) ?_
 refine V (bA O (v:=I _) O)<|V (bA O (v:=B _) O)<|aI rfl<|aB rfl<|aa<|SR<|V (fA dI 2 O jR O)<|V (j3 bQ O O O (eD.blk (i:=0) O))<|mI rfl<|aG O eD (n9 _ _ _ (hT.hp eD)) (aJ GJ O O)<|fun w9 bW=>aU rfl<|aa<|aj<|oU O ?_ bW
 exact(aP (show¬f.fc.kind≠4 from aR)).symm
theorem ve(s:kX)(w:World)(hs:lB (Kw w) s)(hT:oh w):Calls Tryz.prog 53 #[.agg (rD s)] w (Pure (.agg (jg (gZ s.sh eU))) w):=by
 refine eH func53 rfl rfl fun hH=>SR<|iu hH (v:= .agg _) rfl<|fun b3 w1 aW=>oY aW (bf jH)<|fun b6 w4 bU=>aa<|SR<|V (cN (cs:=[B _,_]) dL O O O (bp (bU.blk (i:=1) O)))<|aG O bU (Sm s 100 eU _ (hs.mono bU.kw) call100 (fun f w h ht=>Oq f w h ht) (hT.hp bU)) (aJ call99 O O)<|fun w7 fq=>bu fq (i:=0) O (ey O O O (fq.blk (i:=0) O))<|fun w9 bW=>aa<|aj<|wu O O bW (i:=0) O cI O m5 ⟨?_,bW.below⟩
 rfl
theorem pS(f:pU)(w:World)(hf:vH (Kw w) f):Calls Tryz.prog 112 #[.agg (tX f)] w (Pure (B (cT f.fc)) w):=by
 have hm:=hf.names.sl.small
 unfold maxLen at hm
 refine eH func112 rfl rfl fun hH=>SR<|iu hH (v:= .agg _) rfl<|fun b3 w1 aW=>va (v:=B false) rfl<|aa<|SR<|V (fA dI 1 O ph O)<|lV dP aW 0 O O rfl<|V (aA (hf.names.sl.hp aW) O dP O)<|aI rfl<|aa<|ah<|SR<|mI rfl<|V (aL O O)<|mB rfl<|bN 10 O (fun h5=> ?_) (fun h5=> ?_)
 .refine aE (v:=B true) rfl<|mB rfl<|cC O rfl<|aE (v:=B true) rfl<|aa<|cB rfl<|SR<|va (v:=B false) rfl<|aa<|aj<|oB O ?_ aW
  exact(LD (f:=f.fc) (CL aeu)).symm
 refine mI rfl<|V (dz O O)<|mB rfl<|mB rfl<|bN 14 O (fun h7=> ?_) (fun h7=> ?_)
 .refine aE (v:=B true) rfl<|aa<|cB rfl<|SR<|va (v:=B false) rfl<|aa<|aj<|oB O ?_ aW
  exact(LD (f:=f.fc) (CL aeu)).symm
 refine V (fA dI 1 O ph O)<|lV dP aW 0 O O rfl<|aG O aW (jI _ _ _ (hf.names.sl.hp aW)) (aq call75 O)<|fun w8 iB=>V (dA O O)<|mB rfl<|aa<|aF O (fun h11=> ?_) (fun h11=> ?_)
 .refine SR<|va (v:=B false) rfl<|aa<|aj<|oB O ?_ iB
  exact(LD (f:=f.fc) (OQ (by show¬xQ f.names<0;omega))).symm
 refine ak<|ah<|SR<|va (v:=I 0) rfl<|aa<|aC<|have hn1:1<=f.names.length/\f.names.length<=64:=J;have Pd:xQ f.names<0:=J;bj (G:=Int) (fun k s' w'=>(Fr (2::(4::(rg 20 12 []))) _ s')/\(Hp w w' _)/\(s' 4=I k)/\(0<=k)/\(k<=f.names.length)/\(∀j:Int,0<=j->j<k->iw (f.names.getD j.toNat pu)=true)) (fun k=>(f.names.length-k).toNat) (0) ⟨Fr.refl _ _,iB,rfl,J,J,fun j a b=>absurd b J⟩<| ?_
 rintro k aiU B7 ⟨pB,cK,Nb,h0,hk,hg⟩
 obtain⟨vc,F6⟩:=pB.w2 1 3
 refine ah<|SR<|aE Nb<|aE F6<|V (aL O O)<|aa<|aF O (fun JY=> ?_) (fun JY=> ?_)
 .refine ak<|ah<|aC<|SR<|V (fA dI 1 O ph vc)<|lV dP cK 0 O O rfl<|aE Nb<|V (ag (hf.names.sl.hp cK) dP jT O O J)<|V (au gS O O ((hf.names.sl.hp cK).cell _ _ (BC J)))<|aG O cK (ij _ _) (aq call74 O)<|fun Wg cG=>V (bO O)<|aa<|bY O (fun MU=> ?_) (fun MU=> ?_)
  .refine SR<|va (v:=B false) rfl<|aa<|aj<|oB O ?_ cG
   exact(LD (f:=f.fc) (OR h0 aR (nt aR))).symm
  refine ak<|ax<|aE Nb<|V (ay O O J)<|aI rfl<|aa<| ?_
  refine⟨k+1,aZ,pB.u4.u4.u4.u1,cG,(aK I aN),J,J,?_⟩
  exact fun j a b=>if e:j=k then e▸nf ‹_›else hg j a J
 refine a7 (id:=0) rfl<|ah<|SR<|V (fA dI 0 O bz vc)<|lI bx cK 0 O O rfl<|V (bX O O)<|mB rfl<|bN 35 O (fun Sb=> ?_) (fun Sb=> ?_)
 .refine aE (v:=B true) rfl<|aa<|cB rfl<|SR<|V (fA dI 2 O jR vc)<|V (j3 bQ O O O (cK.blk (i:=0) O))<|aG O cK (bP _ _) (aq ov O)<|fun S5 eN=>V (bX O O)<|aB rfl<|aa<|aj<|oB O ?_ eN
  (have hny:gO f.names=true:=pI hn1 Pd ‹¬k<_› hg;exact(XR (f:=f.fc) hny (.inl aR)).symm)
 refine V (fA dI 0 O bz vc)<|lI bx cK 0 O O rfl<|V (bX O O)<|mB rfl<|aa<|aF O (fun h26=> ?_) (fun h26=> ?_)
 .refine SR<|V (fA dI 2 O jR vc)<|V (j3 bQ O O O (cK.blk (i:=0) O))<|aG O cK (bP _ _) (aq ov O)<|fun w27 jL=>V (bX O O)<|aB rfl<|aa<|aj<|oB O ?_ jL
  (have hny:gO f.names=true:=pI hn1 Pd ‹¬k<_› hg;exact(XR (f:=f.fc) hny (.inr aR)).symm)
 refine ak<|ah<|SR<|V (fA dI 0 O bz vc)<|lI bx cK 0 O O rfl<|V (bX O O)<|aa<|aF O (fun h31=> ?_) (fun h31=> ?_)
 .refine SR<|V (fA dI 2 O jR vc)<|V (fA bQ 0 O bz O)<|lI bx cK 0 O O rfl<|aE F6<|V (bX O O)<|mB rfl<|bN 52 O (fun h33=> ?_) (fun h33=> ?_)
  .refine V (fA dI 2 O jR vc)<|V (j3 bQ O O O (cK.blk (i:=0) O))<|aG O cK (qG _ _) (aq call146 O)<|fun w34 yl=>mB rfl<|aB rfl<|aa<|aj<|oB O ?_ yl
   (have hny:gO f.names=true:=pI hn1 Pd ‹¬k<_› hg;exact(af3 (f:=f.fc) hny aR aR).symm)
  refine aE (v:=B false) rfl<|aB rfl<|aa<|aj<|oB O ?_ cK
  (have hny:gO f.names=true:=pI hn1 Pd ‹¬k<_› hg;exact(af1 (f:=f.fc) aR aR).symm)
 refine ak<|SR<|V (fA dI 0 O bz vc)<|lI bx cK 0 O O rfl<|V (bX O O)<|mB rfl<|bN 60 O (fun h38=> ?_) (fun h38=> ?_)
 .refine V (fA dI 2 O jR vc)<|V (fA bQ 0 O bz O)<|lI bx cK 0 O O rfl<|aE F6<|V (bX O O)<|mB rfl<|mB rfl<|bN 67 O (fun h40=> ?_) (fun h40=> ?_)
  .refine V (fA dI 2 O jR vc)<|V (j3 bQ O O O (cK.blk (i:=0) O))<|aG O cK (xx _ _) (aq call151 O)<|fun w41 ym=>mB rfl<|aB rfl<|aa<|aj<|oB O ?_ ym
   (have hny:gO f.names=true:=pI hn1 Pd ‹¬k<_› hg;exact(af4 (f:=f.fc) hny aR aR).symm)
  refine aE (v:=B false) rfl<|aB rfl<|aa<|aj<|oB O ?_ cK
  (have hny:gO f.names=true:=pI hn1 Pd ‹¬k<_› hg;exact(af2 (f:=f.fc) aR aR).symm)
 refine aE (v:=B false) rfl<|mB rfl<|cC O rfl<|aE (v:=B false) rfl<|aB rfl<|aa<|aj<|oB O ?_ cK
 (have hny:gO f.names=true:=pI hn1 Pd ‹¬k<_› hg;exact(aos (f:=f.fc) aR aR aR aR).symm)
theorem qH(s:kX)(w:World)(hs:lB (Kw w) s):Calls Tryz.prog 73 #[.agg (rD s)] w (Pure (B (qY s.sh)) w):=by
 have hsl:=tg s
 have hm:=hs.aY.sl.small
 unfold maxLen at hm
 refine eH func73 rfl rfl fun hH=>SR<|iu hH (v:= .agg _) rfl<|fun b3 w1 aW=>va (v:=B false) rfl<|aa<|ah<|SR<|V (fA dL 1 O gV O)<|lV dG aW 0 O O rfl<|V (aA (hs.aY.sl.hp aW) O dG O)<|V (aL O O)<|mB rfl<|bN 8 O (fun h5=> ?_) (fun h5=> ?_)
 .refine aE (v:=B true) rfl<|mB rfl<|cC O rfl<|gX O O rfl<|gX O O rfl<|gX O O rfl<|gX O O rfl<|Bx<|aE (v:=B true) rfl<|aa<|cB rfl<|SR<|va (v:=B false) rfl<|aa<|aj<|oB O ?_ aW
  exact(JJ J).symm
 refine V (fA dL 1 O gV O)<|lV dG aW 0 O O rfl<|V (aA (hs.aY.sl.hp aW) O dG O)<|V (dz O O)<|mB rfl<|mB rfl<|bN 14 O (fun h7=> ?_) (fun h7=> ?_)
 .refine gX O O rfl<|gX O O rfl<|gX O O rfl<|gX O O rfl<|Bx<|aE (v:=B true) rfl<|aa<|cB rfl<|SR<|va (v:=B false) rfl<|aa<|aj<|oB O ?_ aW
  exact(JJ J).symm
 refine V (fA dL 0 O mG O)<|V (au qb O O (aW.cell (i:=0) O (v:=B _) O))<|V (bO O)<|mB rfl<|gm 18 O (fun h10=> ?_) (fun h10=> ?_)
 .refine V (fA dL 1 O gV O)<|lV dG aW 0 O O rfl<|V (aA (hs.aY.sl.hp aW) O dG O)<|V (jB O O)<|mB rfl<|mB rfl<|aa<|aF O (fun h12=> ?_) (fun h12=> ?_)
  .refine SR<|va (v:=B false) rfl<|aa<|aj<|oB O ?_ aW
   exact(ZX (by exact nt aR) J).symm
  refine ak<|ah<|SR<|va (v:=I 0) rfl<|aa<|aC<|have hc2:s.sh.tuple=true\/s.sh.aY.length=1:=(by exact .inr J);have XX:1<=s.aY.length/\s.aY.length<=8:=J;bj (G:=Int) (fun k s' w'=>(Fr (2::3::(rg 25 14 [])) _ s')/\(Hp w w' _)/\(s' 3=I k)/\(0<=k)/\(k<=s.aY.length)/\(∀j:Int,0<=j->j<k->cT (s.aY.getD j.toNat kF).fc=true)) (fun k=>(s.aY.length-k).toNat) (0) ⟨Fr.refl _ _,aW,rfl,J,J,fun j a b=>absurd b J⟩<| ?_
  rintro k ado C7 ⟨tw,cm,Ao,h0,hk,hg⟩
  have FV:=tw.w1 1
  refine ah<|SR<|aE Ao<|V (fA dL 1 O gV FV)<|lV dG cm 0 O O rfl<|V (aA (hs.aY.sl.hp cm) O dG O)<|V (aL O O)<|aa<|aF O (fun Ja=> ?_) (fun Ja=> ?_)
  .refine ak<|ah<|aC<|SR<|V (fA dL 1 O gV FV)<|lV dG cm 0 O O rfl<|aE Ao<|V (ag (hs.aY.sl.hp cm) dG s7 O O J)<|V (dY (dv:=kF) fJ (hs.aY.sl.hp cm) dI O O O J)<|aG O cm (pS _ _ ((hs.at J J).mono cm.kw)) (aq call112 O)<|fun JZ dU=>V (bO O)<|aa<|bY O (fun NY=> ?_) (fun NY=> ?_)
   .refine SR<|va (v:=B false) rfl<|aa<|aj<|oB O ?_ dU
    exact(JK (k:=k) h0 J GL).symm
   refine ak<|ax<|aE Ao<|V (ay O O J)<|aI rfl<|aa<| ?_
   refine⟨k+1,aZ,tw.u4.u4.u4.u1.u1.u1,dU,(aK I aN),J,J,?_⟩
   exact fun j a b=>if e:j=k then e▸nf ‹_›else hg j a J
  refine a7 (id:=0) rfl<|SR<|va (v:=B true) rfl<|aa<|aj<|oB O ?_ cm
  exact(JL (k:=k) J hc2 J fun j a b=>by rw[mH];exact hg j a b).symm
 refine aE (v:=B false) rfl<|mB rfl<|aa<|dh rfl<|ak<|ah<|SR<|va (v:=I 0) rfl<|aa<|aC<|have hc2:s.sh.tuple=true\/s.sh.aY.length=1:=(by exact .inl (nf ‹(!s.tuple)=false›));have XX:1<=s.aY.length/\s.aY.length<=8:=J;bj (G:=Int) (fun k s' w'=>(Fr (2::3::(rg 25 14 [])) _ s')/\(Hp w w' _)/\(s' 3=I k)/\(0<=k)/\(k<=s.aY.length)/\(∀j:Int,0<=j->j<k->cT (s.aY.getD j.toNat kF).fc=true)) (fun k=>(s.aY.length-k).toNat) (0) ⟨Fr.refl _ _,aW,rfl,J,J,fun j a b=>absurd b J⟩<| ?_
 rintro k aES Og ⟨adk,fp,MQ,h0,hk,hg⟩
 have apw:=adk.w1 1
 refine ah<|SR<|aE MQ<|V (fA dL 1 O gV apw)<|lV dG fp 0 O O rfl<|V (aA (hs.aY.sl.hp fp) O dG O)<|V (aL O O)<|aa<|aF O (fun FT=> ?_) (fun FT=> ?_)
 .refine ak<|ah<|aC<|SR<|V (fA dL 1 O gV apw)<|lV dG fp 0 O O rfl<|aE MQ<|V (ag (hs.aY.sl.hp fp) dG s7 O O J)<|V (dY (dv:=kF) fJ (hs.aY.sl.hp fp) dI O O O J)<|aG O fp (pS _ _ ((hs.at J J).mono fp.kw)) (aq call112 O)<|fun w24 oG=>V (bO O)<|aa<|bY O (fun h28=> ?_) (fun h28=> ?_)
  .refine SR<|va (v:=B false) rfl<|aa<|aj<|oB O ?_ oG
   exact(JK (k:=k) h0 J GL).symm
  refine ak<|ax<|aE MQ<|V (ay O O J)<|aI rfl<|aa<| ?_
  refine⟨k+1,aZ,adk.u4.u4.u4.u1.u1.u1,oG,(aK I aN),J,J,?_⟩
  exact fun j a b=>if e:j=k then e▸nf ‹_›else hg j a J
 refine a7 (id:=0) rfl<|SR<|va (v:=B true) rfl<|aa<|aj<|oB O ?_ fp
 exact(JL (k:=k) J hc2 J fun j a b=>by rw[mH];exact hg j a b).symm
theorem AW(f:pU)(s:BitVec 64)(hfr:cT f.fc=true)(w:World)(hf:vH (Kw w) f):Calls Tryz.prog 115 #[.agg (tX f),U s] w (Pure (B (jZ f.fc s)) w):=by
 have hm:=hf.names.sl.small
 unfold maxLen at hm
 refine eH func115 rfl rfl fun hH=>SR<|iu hH (v:= .agg _) rfl<|fun b3 w1 aW=>va (v:=B false) rfl<|aa<|ah<|SR<|V (fA dI 0 O bz O)<|lI bx aW 0 O O rfl<|V (bX O O)<|aa<|aF O (fun h5=> ?_) (fun h5=> ?_)
 .refine SR<|V (fA dI 1 O ph O)<|lV dP aW 0 O O rfl<|V (aA (hf.names.sl.hp aW) O dP O)<|mU rfl<|aG O aW (zx _ _ _) (aJ call152 O O)<|fun w6 eD=> ?_
  refine V (run_move bG) ?_
  refine V (bA O (v:=I _) O)<|V (bA O (v:=B _) O)<|aI rfl<|aB rfl<|aa<|SR<|mB rfl<|aB rfl<|aa<|aj<|oB O ?_ eD
  exact(OT (f:=f.fc) aR s).symm
 refine ak<|ah<|SR<|V (fA dI 0 O bz O)<|lI bx aW 0 O O rfl<|V (bX O O)<|aa<|aF O (fun h10=> ?_) (fun h10=> ?_)
 .refine SR<|mU rfl<|V (fA dI 1 O ph O)<|lV dP aW 0 O O rfl<|V (aA (hf.names.sl.hp aW) O dP O)<|aG O aW (qB _ _) (aq call119 O)<|fun ID cK=>aG O cK (B9 _ _ _) (aJ call55 O O)<|fun C7 cF=>aB rfl<|aa<|aj<|oB O ?_ cF
  exact(OU (f:=f.fc) aR s).symm
 refine ak<|ah<|SR<|V (fA dI 0 O bz O)<|lI bx aW 0 O O rfl<|V (bX O O)<|aa<|aF O (fun Om=> ?_) (fun Om=> ?_)
 .refine SR<|V (fA dI 2 O jR O)<|V (j3 bQ O O O (aW.blk (i:=0) O))<|mU rfl<|aG O aW (zK _ _ _) (aJ call153 O O)<|fun PR jy=>mU rfl<|V (js O O)<|aB rfl<|aa<|aj<|oB O ?_ jy
  exact(are (f:=f.fc) hfr aR s).symm
 refine ak<|SR<|V (fA dI 2 O jR O)<|V (j3 bQ O O O (aW.blk (i:=0) O))<|mU rfl<|aG O aW (zH _ _ _) (aJ call120 O O)<|fun Og dm=> ?_
 refine V (run_move bG) ?_
 refine V (bA O (v:=I _) O)<|V (bA O (v:=B _) O)<|aI rfl<|aB rfl<|aa<|SR<|mB rfl<|aB rfl<|aa<|aj<|oB O ?_ dm
 exact(aot (f:=f.fc) aR aR aR s).symm
theorem mL(s:kX)(e:El)(w:World)(hs:lB (Kw w) s):Calls Tryz.prog 80 #[.agg (rD s),.agg (jg e)] w (Pure (B (cz s.sh e)) w):=by
 have hsl:=tg s
 have hm:=hs.aY.sl.small
 unfold maxLen at hm
 refine eH func80 rfl rfl fun hH=>SR<|iu hH (v:= .agg _) rfl<|fun b3 w1 aW=>iu aW (v:= .agg _) rfl<|fun b6 w4 bU=>va (v:=B false) rfl<|aa<|ah<|SR<|V (cN (cs:=[B _,_]) dL O O O (bp (bU.blk (i:=1) O)))<|aG O bU (qH _ _ (hs.mono bU.kw)) (aq call73 O)<|fun w7 fq=>V (bO O)<|aa<|bY O (fun h11=> ?_) (fun h11=> ?_)
 .refine SR<|va (v:=B false) rfl<|aa<|aj<|oB O ?_ fq
  exact(TM (nt aR)).symm
 refine ak<|ah<|SR<|va (v:=I 0) rfl<|aa<|aC<|have hr:qY s.sh=true:=nf aR;bj (G:=Int) (fun k s' w'=>(Fr (4::5::(rg 9 34 [])) _ s')/\(Hp w w' _)/\(s' 5=I k)/\(0<=k)/\(k<=8)/\(Dt s.sh e k)) (fun k=>(8-k).toNat) (0) ⟨Fr.refl _ _,fq,rfl,J,J,Dt.none _ _⟩<| ?_
 rintro k aiU B7 ⟨pB,cK,ot,h0,hk,hf⟩
 obtain⟨DI,F6⟩:=pB.w2 2 3
 refine ah<|SR<|aE ot<|V (aL O O)<|aa<|aF O (fun JY=> ?_) (fun JY=> ?_)
 .refine ak<|ah<|aC<|ah<|eF aM cK<|fun Wg cG=>have sO:=cG;AQ 0 O sO (run_move ot)<|AQ 1 O sO (fA dL 1 O gV DI)<|tV 2 O sO dG 1 O O rfl<|AT 3 O sO (fun w hS=>aA (hs.aY.sl.hp hS) O dG O)<|AQ 4 O sO (aL O O)<|AQ 5 O sO (mV (B _) O)<|Dl (dj:=18) O (fun pW=> ?_) (fun pW=> ?_)
  .refine BQ 6 O O (bT pW) cG (fA dL 1 O gV DI)<|AG 7 O O (bT pW) cG (fun w hS=>au dG O O (hS.cell (i:=1) O O))<|BQ 8 O O (bT pW) cG (run_move ot)<|AG 9 O O (bT pW) cG (fun w hS=>ag (hs.aY.sl.hp hS) dG s7 O O J)<|AG 10 O O (bT pW) cG (fun w hS=>dY (dv:=kF) fJ (hs.aY.sl.hp hS) dI O O O J)<|BQ 11 O O (bT pW) cG (run_move ot)<|BQ 12 O O (bT pW) cG (bC cI c8 F6 O J)<|AG 13 O O (bT pW) cG (fun w hS=>au dW O O (hS.cell (i:=0) O (ng _ J)))<|A1 14<|cJ O (Bv O (bT pW)) O cG sR (AW _ _ (by have hat:=afP hr (k:=k) h0 J;rw[mH]at hat;exact hat) _ ((hs.at J J).mono cG.kw)) (aJ call115 O O)<|fun Vo cL=>BQ 15 O O (bT pW) cL (bO O)<|have zJ:=cL;AQ 16 O zJ (gI (bT pW) (v:=B _) O)<|AQ 17 O zJ (mV (B _) O)<|KY (dj:=30) O (fun FT=> ?_) (fun FT=> ?_)
   .refine AK 18 O O (bR (c:=true) FT) cL<|AK 19 O O (bR (c:=true) FT) cL<|AK 20 O O (bR (c:=true) FT) cL<|AK 21 O O (bR (c:=true) FT) cL<|AK 22 O O (bR (c:=true) FT) cL<|AK 23 O O (bR (c:=true) FT) cL<|AU 24 O O O cL<|AU 25 O O O cL<|AU 26 O O O cL<|AU 27 O O O cL<|AK 28 O O (bR (c:=true) FT) cL<|AQ 29 O zJ (gI (bR (c:=true) FT) (v:=B true) O)<|AD<|cB rfl<|SR<|va (v:=B false) rfl<|aa<|aj<|oB O ?_ cL
    exact(TN h0 aR J GL).symm
   refine BQ 18 O O (bR (c:=false) FT) cL (run_move ot)<|BQ 19 O O (bR (c:=false) FT) cL (fA dL 1 O gV DI)<|AG 20 O O (bR (c:=false) FT) cL (fun w hS=>au dG O O (hS.cell (i:=1) O O))<|AG 21 O O (bR (c:=false) FT) cL (fun w hS=>aA (hs.aY.sl.hp hS) O dG O)<|BQ 22 O O (bR (c:=false) FT) cL (dA O O)<|BQ 23 O O (bR (c:=false) FT) cL (mV (B _) O)<|Dl (dj:=36) O (fun HN=> ?_) (fun HN=> ?_)
   .refine BQ 24 O O (bT HN) cL (run_move ot)<|BQ 25 O O (bT HN) cL (bC cI c8 F6 O J)<|AG 26 O O (bT HN) cL (fun w hS=>au dW O O (hS.cell (i:=0) O (ng _ J)))<|BQ 27 O O (bT HN) cL (uB O (b:=0#64) O)<|BQ 28 O O (bR (c:=false) FT) cL (gI (bT HN) (v:=B _) O)<|AQ 29 O zJ (dX (bR (c:=false) FT) (v:=B _) O)<|AD<|aF O (fun h27=> ?_) (fun h27=> ?_)
    .refine SR<|va (v:=B false) rfl<|aa<|aj<|oB O ?_ cL
     exact(Lu h0 aR J aR).symm
    refine ak<|ax<|aE ot<|V (ay O O J)<|aI rfl<|aa<| ?_
    refine⟨k+1,aZ,pB.u4.u4.u4.u4.u4.u4.u4.u4.u1.u1.u1,cL,(aK I aN),J,J,?_⟩
    exact hf.next (fun h=>by exfalso;omega) (fun h=>by exact Gr aR)
   refine AK 24 O O (bF HN) cL<|AK 25 O O (bF HN) cL<|AK 26 O O (bF HN) cL<|AK 27 O O (bF HN) cL<|BQ 28 O O (bR (c:=false) FT) cL (dX (bF HN) (v:=B false) O)<|AQ 29 O zJ (dX (bR (c:=false) FT) (v:=B _) O)<|AD<|dh rfl<|ak<|ax<|aE ot<|V (ay O O J)<|aI rfl<|aa<| ?_
   refine⟨k+1,aZ,pB.u4.u4.u4.u4.u4.u4.u4.u4.u1.u1.u1,cL,(aK I aN),J,J,?_⟩
   exact hf.next (fun h=>by rw[mH];exact nf aR) (fun h=>by exfalso;omega)
  refine AK 6 O O (bF pW) cG<|AK 7 O O (bF pW) cG<|AK 8 O O (bF pW) cG<|AK 9 O O (bF pW) cG<|AK 10 O O (bF pW) cG<|AK 11 O O (bF pW) cG<|AK 12 O O (bF pW) cG<|AK 13 O O (bF pW) cG<|AK 14 O O (bF pW) cG<|AK 15 O O (bF pW) cG<|AQ 16 O sO (dX (bF pW) (v:=B false) O)<|AQ 17 O sO (mV (B _) O)<|BQ 18 O O O cG (run_move ot)<|BQ 19 O O O cG (fA dL 1 O gV DI)<|AG 20 O O O cG (fun w hS=>au dG O O (hS.cell (i:=1) O O))<|AG 21 O O O cG (fun w hS=>aA (hs.aY.sl.hp hS) O dG O)<|BQ 22 O O O cG (dA O O)<|BQ 23 O O O cG (mV (B _) O)<|Dl (dj:=36) O (fun qQ=> ?_) (fun qQ=> ?_)
  .refine BQ 24 O O (bT qQ) cG (run_move ot)<|BQ 25 O O (bT qQ) cG (bC cI c8 F6 O J)<|AG 26 O O (bT qQ) cG (fun w hS=>au dW O O (hS.cell (i:=0) O (ng _ J)))<|BQ 27 O O (bT qQ) cG (uB O (b:=0#64) O)<|BQ 28 O O O cG (gI (bT qQ) (v:=B _) O)<|AQ 29 O sO (dX O (v:=B _) O)<|AD<|aF O (fun h31=> ?_) (fun h31=> ?_)
   .refine SR<|va (v:=B false) rfl<|aa<|aj<|oB O ?_ cG
    exact(Lu h0 aR J aR).symm
   refine ak<|ax<|aE ot<|V (ay O O J)<|aI rfl<|aa<| ?_
   refine⟨k+1,aZ,pB.u4.u4.u4.u4.u4.u4.u4.u4.u1.u1.u1,cG,(aK I aN),J,J,?_⟩
   exact hf.next (fun h=>by exfalso;omega) (fun h=>by exact Gr aR)
  refine AK 24 O O (bF qQ) cG<|AK 25 O O (bF qQ) cG<|AK 26 O O (bF qQ) cG<|AK 27 O O (bF qQ) cG<|BQ 28 O O O cG (dX (bF qQ) (v:=B false) O)<|AQ 29 O sO (dX O (v:=B _) O)<|AD<|dh rfl<|ak<|ax<|aE ot<|V (ay O O J)<|aI rfl<|aa<| ?_
  refine⟨k+1,aZ,pB.u4.u4.u4.u4.u4.u4.u4.u4.u1.u1.u1,cG,(aK I aN),J,J,?_⟩
  exact hf.next (fun h=>by exfalso;omega) (fun h=>by exfalso;omega)
 refine a7 (id:=0) rfl<|SR<|va (v:=B true) rfl<|aa<|aj<|oB O ?_ cK
 exact(Lv hr aR hf).symm
theorem Ce(s:kX)(w:World)(hs:lB (Kw w) s):Calls Tryz.prog 72 #[.agg (rD s)] w (Pure (B (TU s.sh)) w):=by
 have hsl:=tg s
 have hm:=hs.aY.sl.small
 unfold maxLen at hm
 refine eH func72 rfl rfl fun hH=>SR<|iu hH (v:= .agg _) rfl<|fun b3 w1 aW=>va (v:=B false) rfl<|aa<|ah<|SR<|V (fA dL 1 O gV O)<|lV dG aW 0 O O rfl<|V (aA (hs.aY.sl.hp aW) O dG O)<|V (dz O O)<|aa<|aF O (fun h5=> ?_) (fun h5=> ?_)
 .refine SR<|va (v:=B true) rfl<|aa<|aj<|oB O ?_ aW
  exact(awe (s:=s.sh) J).symm
 refine ak<|ah<|SR<|va (v:=I 0) rfl<|aa<|aC<|bj (G:=Int) (fun k s' w'=>(Fr (rg 2 4 (rg 10 30 [])) _ s')/\(Hp w w' _)/\(s' 3=I k)/\(0<=k)/\(k<=s.aY.length)/\(∀j:Int,0<=j->j<k->N3 (s.aY.getD j.toNat kF).names=false)) (fun k=>(s.aY.length-k).toNat) (0) ⟨Fr.refl _ _,aW,rfl,J,J,fun j a b=>absurd b J⟩<| ?_
 rintro k sg6 w6 ⟨MH,gT,Y6,h0,hk,hg⟩
 have Ob:=MH.w1 1
 refine ah<|SR<|aE Y6<|V (fA dL 1 O gV Ob)<|lV dG gT 0 O O rfl<|V (aA (hs.aY.sl.hp gT) O dG O)<|V (aL O O)<|aa<|aF O (fun h8=> ?_) (fun h8=> ?_)
 .refine ak<|ah<|aC<|SR<|V (fA dL 1 O gV Ob)<|lV dG gT 0 O O rfl<|aE Y6<|V (ag (hs.aY.sl.hp gT) dG s7 O O J)<|V (dY (dv:=kF) fJ (hs.aY.sl.hp gT) dI O O O J)<|oY gT (bf vb)<|fun b11 w9 bW=>bu bW (i:=0) O (uh (hs.at J J) O O O (bW.blk (i:=0) O))<|fun B7 cm=>aa<|ah<|SR<|V (fA dI 1 O ph O)<|lV dP cm 0 O O rfl<|V (aA ((hs.at J J).names.sl.hp cm) O dP O)<|V (dz O O)<|aa<|aF O (fun Ja=> ?_) (fun Ja=> ?_)
  .refine SR<|va (v:=B true) rfl<|aa<|aj<|oB O ?_ cm
   exact(aou (s:=s.sh) (k:=k) h0 J (by rw[mH];(exact arf (by show 70<(s.aY.getD k.toNat kF).names.length;omega)))).symm
  refine ak<|SR<|va (v:=I 0) rfl<|aa<|aC<|have hnb:(s.aY.getD k.toNat kF).names.length<=70:=J;bj (G:=Int) (fun i s' w'=>(Fr (2::(5::(rg 26 14 []))) _ s')/\(Hp w w' _)/\(s' 5=I i)/\(0<=i)/\(i<=(s.aY.getD k.toNat kF).names.length)/\(∀j:Int,0<=j->j<i->¬40<((s.aY.getD k.toNat kF).names.getD j.toNat pu).size)) (fun i=>((s.aY.getD k.toNat kF).names.length-i).toNat) (0) ⟨Fr.refl _ _,cm,rfl,J,J,fun j a b=>absurd b J⟩<| ?_
  rintro i adp JZ ⟨oZ,cG,DF,i0,i1,hn⟩
  have M5:=oZ.w1 4
  have qF:=oZ.t1 3 Y6
  refine ah<|SR<|aE DF<|V (fA dI 1 O ph M5)<|lV dP cG 0 O O rfl<|V (aA ((hs.at J J).names.sl.hp cG) O dP O)<|V (aL O O)<|aa<|aF O (fun pW=> ?_) (fun pW=> ?_)
  .refine ak<|ah<|aC<|SR<|V (fA dI 1 O ph M5)<|lV dP cG 0 O O rfl<|aE DF<|V (ag ((hs.at J J).names.sl.hp cG) dP jT O O J)<|V (au gS O O (((hs.at J J).names.sl.hp cG).cell _ _ (BC J)))<|V (kR O gS O)<|V (dz O O)<|aa<|aF O (fun NY=> ?_) (fun NY=> ?_)
   .refine SR<|va (v:=B true) rfl<|aa<|aj<|oB O ?_ cG
    exact(aou (s:=s.sh) (k:=k) h0 J (by rw[mH];(exact arh i0 aR (by show 40<((s.aY.getD k.toNat kF).names.getD i.toNat pu).size;omega)))).symm
   refine ak<|ax<|aE DF<|V (ay O O J)<|aI rfl<|aa<| ?_
   refine⟨i+1,aZ,oZ.u4.u4.u4.u1.u1.u1,cG,(aK I aN),J,J,?_⟩
   exact fun j a b=>if e:j=i then e▸(by omega)else hn j a J
  refine a7 (id:=2) rfl<|ax<|aE qF<|V (ay O O J)<|aI rfl<|aa<| ?_
  refine⟨k+1,aZ,(((MH.u4.u4.u4.u4).t oZ O)).u4.u4,(cG.sub (sQ sR)),(aK I aN),J,J,?_⟩
  exact fun j a b=>if e:j=k then e▸alI J ‹¬i<_› hn else hg j a J
 refine a7 (id:=0) rfl<|SR<|va (v:=B false) rfl<|aa<|aj<|oB O ?_ gT
 exact(ari (s:=s.sh) (k:=k) J J fun j a b=>by rw[mH];exact hg j a b).symm
theorem DJ(K:Vu)(f:pU)(hn:f.names.length<=1000)(w:World)(hK:Le K (Kw w))(hf:vH K f):Calls Tryz.prog 94 #[.agg (tX f)] w (Lt K (fun K' u=>∃f':pU,u= .agg (tX f')/\f'.fc=f.fc/\vH K' f') w):=by
 refine eH func94 rfl rfl fun hH=>SR<|iu hH (v:= .agg _) rfl<|fun b3 w1 aW=>oY aW (bf vb)<|fun b6 w4 bU=>aa<|SR<|yd 0 0 bU (Jz dP jT)<|fun b9 w7 fq=> ?_
 (try simp only[oX]at fq)
 have bW:=fq.Ei 0 1 O aD
 refine V (fA dI 1 O ph O)<|lV dP bW 2 O O rfl<|jX O bW (i:=0) O ((hf.mono hK).names.sl.hp bW) O O dP O O (size:=1) (bytes:=16) O O O aD kq J jU<|fun v11 B7 cm=>V (fA dI 1 O ph O)<|have hone:=(aS (cm.get (i:=0) O)).2;bu cm (i:=2) O (XT O O O (aS (cm.get (i:=0) O)).1 hone (cm.blk (i:=2) O))<|fun PO iX=>aa<|SR<|V (xS dI O O O (iX.blk (i:=2) O))<|bu iX (i:=1) O (XS (acf hf hone) O O O (iX.blk (i:=1) O))<|fun JZ dU=>aa<|aj<| ?_
 obtain⟨Zc,hz,hzv,-⟩:=dU.XJ K
 refine wu O O dU (i:=1) O dI O (by simp only[ur,fJ];rfl) ⟨Zc,hz.sub (aek _ _),_,rfl,rfl,⟨?_⟩⟩
 simpa using hzv
theorem Ap(K:Vu)(v:Value)(l:List kX)(hl:l.length<=1000)(hfn:∀s∈l,s.aY.length<=1000)(hnn:∀s∈l,∀f∈s.aY,f.names.length<=1000)(w:World)(hK:Le K (Kw w))(hs:Sl w v 2 l.length (l.flatMap Aw))(hv:OZ K l):Calls Tryz.prog 51 #[v] w (Lt K (fun K' u=>∃p:kX,u= .agg (rD p)/\p.sh=⟨true,z8 l⟩/\lB K' p) w):=by
 refine eH func51 rfl rfl fun hH=>SR<|oY hH (bf Tryz.zeroValue56)<|fun b3 w1 aW=>aa<|SR<|V (dO (vs:=[(0,B true)]) O YM)<|oY aW (bf Tryz.zeroValue56)<|fun b6 w4 bU=>bu bU (i:=0) O (eC (c':=#[B true,.slice none 0 0]) O O O kq (bU.blk (i:=0) O) O)<|fun w7 fq=>have iB:=fq.fD 88 67;aa<|ah<|SR<| ?_
 refine V (run_move bG) ?_
 refine V (aA (hs.hp iB) O QB O)<|aE (v:=I 0) rfl<|aa<|aC<|bj (G:=Int×Value×(List pU)×(List a8)) (fun⟨k,fv0,fs,Z⟩ s' w'=>(Fr (5::(7::(rg 11 20 []))) _ s')/\(Hp w w' (.row fv0 88 67 (fs.length) (fs.flatMap rC):: .blk b6 (.cells (#[B true,fv0]) 56 (0,0))::_::Z))/\(s' 11=I k)/\(0<=k)/\(k<=l.length)/\(fs.map pU.fc=z8 (l.take k.toNat))/\(sB (Kz K Z) fs)/\((fs.length:Int)<=1000*k)) (fun⟨k,fv0,fs,Z⟩=>(l.length-k).toNat) ((0,(.slice none 0 0:Value),[],[])) ⟨Fr.refl _ _,iB,rfl,J,J,rfl,sB.nil _,az⟩<| ?_
 rintro⟨k,fv0,fs,Z⟩ Y2 Gk ⟨rS,bW,Y7,h0,hk,hm,hF,hb⟩
 obtain⟨F4,o3,Nc,atc⟩:=rS.w4 2 3 9 10
 refine SR<|V (aL Y7 atc)<|aa<|ah<|aF O (fun h12=> ?_) (fun h12=> ?_)
 .refine ak<|ah<|aC<|SR<|V (ag (hs.hp bW) QB Bh Nc Y7 J)<|V (dY (dv:=C1) LF (hs.hp bW) dL O O O J)<|oY bW (bf Tryz.zeroValue56)<|fun b15 C7 cF=>bu cF (i:=0) O (Ht ((hv.mono hK).at J J) O O O (cF.blk (i:=0) O) O)<|fun JZ dU=>aa<|SR<|V (fA dL 1 O gV O)<|lV dG dU 0 O O rfl<|V (aA (((hv.mono hK).at J J).aY.sl.hp dU) O dG O)<|aE (v:=I 0) rfl<|aa<|aC<|have hfk:=hfn _ (ld (fB (d:=C1) h0 ‹k<l.length›));bj (G:=Int×Value×(List pU)×(List a8)) (fun⟨i,fv1,gs,Z1⟩ s' w'=>(Fr (7::(rg 18 12 [])) _ s')/\(Hp w w' (_:: .row fv1 88 67 (gs.length) (gs.flatMap rC):: .blk b6 (.cells (#[B true,fv1]) 56 (0,0))::_::Z1))/\(s' 18=I i)/\(0<=i)/\(i<=(l.getD k.toNat C1).aY.length)/\(gs.map pU.fc=fs.map pU.fc++((l.getD k.toNat C1).aY.take i.toNat).map pU.fc)/\(sB (Kz K Z1) gs)/\((gs.length:Int)=fs.length+i)) (fun⟨i,fv1,gs,Z1⟩=>((l.getD k.toNat C1).aY.length-i).toNat) ((0,(fv0:Value),fs,Z)) ⟨Fr.refl _ _,dU,rfl,J,J,az,hF,az⟩<| ?_
  rintro⟨i,fv1,gs,Z1⟩ asO PR ⟨xq,dS,Nf,i0,ik,HR,hF1,V8⟩
  obtain⟨atd,ate⟩:=xq.w2 16 17
  obtain⟨MM,atf⟩:=xq.t2 3 o3 11 Y7
  refine SR<|V (aL Nf ate)<|aa<|ah<|aF O (fun NY=> ?_) (fun NY=> ?_)
  .refine ak<|ah<|aC<|SR<|V (ag (((hv.mono hK).at J J).aY.sl.hp dS) dG s7 atd Nf J)<|V (dY (dv:=kF) fJ (((hv.mono hK).at J J).aY.sl.hp dS) dI O O O J)<|oY dS (bf vb)<|fun b23 Og dm=>bu dm (i:=0) O (uh (((hv.mono hK).at J J).at J J) O O O (dm.blk (i:=0) O))<|fun w24 oG=>aa<|gY aM oG (sP (sP (sQ (sQ sR))))<|fun Vv dD=>AQ 0 O (dD.sub (sP (sP (sQ (sQ sR))))) (fA dL 1 O gV MM)<|AT 2 O (dD.sub (sP (sP (sQ (sQ sR))))) (fun w hS=>xS dI O O O (hS.blk (i:=0) O))<|iy 1 3 aM ?_ ?_
   .refine cf O aH O dD (sP (sP (sQ (sQ sR)))) (au dG O O (dD.cell (i:=3) O O))<|A1 3<|afO O aH O dD (sP (sP (sQ (sQ sR)))) (DJ K ((l.getD k.toNat C1).aY.getD i.toNat kF) (hnn _ (ld (fB (d:=C1) h0 ‹k<l.length›)) _ (ld (fB (d:=kF) i0 aR))) _ (hK.trans dD.kw) ((hv.at h0 aR).at i0 aR)) (aq call94 O)<|fun v32 w33 Z35 mS aE1=>have vP:Hp _ w33 (_::_::_::_::_::(Z35++Z1)):=mS.JI (L:=[_,_,_,_,_]) (L':=Z1);?_
    obtain⟨f38,rfl,axQ,apx⟩:=aE1
    refine A1 4<|cY O aH O vP (sP (sP (sQ (sQ (sP (sA sR)))))) (f:=fun b=> .slice (some ⟨b,0,none⟩) 1 1) (yX dG O O O (l:=[_]) O aD aD O)<|fun b43 w41 ym=>A1 5<|lA O aH O ym (j:=3) O (fun _=>(sQ (sP (sP (sQ (sQ (sP (sA sR)))))))) (Hp.oy fJ ym (i:=0) (l:=[_]) O kQ) O O dG O O (size:=67) (bytes:=552) O O O aD (LG apx) Xh Xc<|fun v46 w44 qR=>AQ 6 O (qR.sub (sQ (sP (sP (sQ (sQ (sP (sA sR)))))))) (fA dL 1 O gV MM)<|A1 7<|ec O aH qR (j:=4) O (sQ (sP (sP (sQ (sQ (sP (sA sR))))))) (bL O O (v:=v46) O (aS (qR.get (i:=3) O)).1 (aS (qR.get (i:=3) O)).2 (qR.blk (i:=4) O) az)<|fun w49 eS=>AD<|ax<|V (ay Nf O J)<|mI rfl<|aa<| ?_
    refine⟨(i+1,v46,(gs++[f38]),(Z35++Z1)),aZ,xq.u4.u4.u4.u1,(Hp.conv (eS.sub (sQ (sQ sR))) az),(aK I aN),J,J,?_,?_,?_⟩
    .rw[Hr i0 aR,gA,HR,dg];simp only[lf,Bd];rw[axQ]
    .exact(hF1.mono (Le.zz fun y hy=>bt _ hy)).snoc (apx.mono (Le.zz fun y hy=>dx _ hy))
    simp only[cV,gk];omega
   refine afO O aH O dD (sP (sP (sQ (sQ sR)))) (DJ K ((l.getD k.toNat C1).aY.getD i.toNat kF) (hnn _ (ld (fB (d:=C1) h0 ‹k<l.length›)) _ (ld (fB (d:=kF) i0 aR))) _ (hK.trans dD.kw) ((hv.at h0 aR).at i0 aR)) (aq call94 O)<|fun v53 w54 Z56 iY aE3=>have vh:Hp _ w54 (_::_::_::_::_::(Z56++Z1)):=iY.JI (L:=[_,_,_,_,_]) (L':=Z1);?_
   obtain⟨f59,rfl,apy,aa9⟩:=aE3
   refine iy 1 4 aM ?_ ?_
   .refine cf O aH O vh (sP (sP (sQ (sQ (sP (sA sR)))))) (au dG O O (vh.cell (i:=3) O O))<|A1 4<|cY O aH O vh (sP (sP (sQ (sQ (sP (sA sR)))))) (f:=fun b=> .slice (some ⟨b,0,none⟩) 1 1) (yX dG O O O (l:=[_]) O aD aD O)<|fun b66 w64 AX=>A1 5<|lA O aH O AX (j:=3) O (fun _=>(sQ (sP (sP (sQ (sQ (sP (sA sR)))))))) (Hp.oy fJ AX (i:=0) (l:=[_]) O kQ) O O dG O O (size:=67) (bytes:=552) O O O aD (LG aa9) Xh Xc<|fun v69 w67 mA=>AQ 6 O (mA.sub (sQ (sP (sP (sQ (sQ (sP (sA sR)))))))) (fA dL 1 O gV MM)<|A1 7<|ec O aH mA (j:=4) O (sQ (sP (sP (sQ (sQ (sP (sA sR))))))) (bL O O (v:=v69) O (aS (mA.get (i:=3) O)).1 (aS (mA.get (i:=3) O)).2 (mA.blk (i:=4) O) az)<|fun w72 vS=>AD<|ax<|V (ay Nf O J)<|mI rfl<|aa<| ?_
    refine⟨(i+1,v69,(gs++[f59]),(Z56++Z1)),aZ,xq.u4.u4.u4.u1,(Hp.conv (vS.sub (sQ (sQ sR))) az),(aK I aN),J,J,?_,?_,?_⟩
    .rw[Hr i0 aR,gA,HR,dg];simp only[lf,Bd];rw[apy]
    .exact(hF1.mono (Le.zz fun y hy=>bt _ hy)).snoc (aa9.mono (Le.zz fun y hy=>dx _ hy))
    simp only[cV,gk];omega
   refine cY O aH O vh (sP (sP (sQ (sQ (sP (sA sR)))))) (f:=fun b=> .slice (some ⟨b,0,none⟩) 1 1) (yX dG O O O (l:=[_]) O aD aD O)<|fun b76 w74 F7=>A1 1<|cf O aH O F7 (sQ (sP (sP (sQ (sQ (sP (sA sR))))))) (au dG O O (F7.cell (i:=4) O O))<|A1 5<|lA O aH O F7 (j:=3) O (fun _=>(sQ (sP (sP (sQ (sQ (sP (sA sR)))))))) (Hp.oy fJ F7 (i:=0) (l:=[_]) O kQ) O O dG O O (size:=67) (bytes:=552) O O O aD (LG aa9) Xh Xc<|fun v81 w79 tA=>AQ 6 O (tA.sub (sQ (sP (sP (sQ (sQ (sP (sA sR)))))))) (fA dL 1 O gV MM)<|A1 7<|ec O aH tA (j:=4) O (sQ (sP (sP (sQ (sQ (sP (sA sR))))))) (bL O O (v:=v81) O (aS (tA.get (i:=3) O)).1 (aS (tA.get (i:=3) O)).2 (tA.blk (i:=4) O) az)<|fun w84 VC=>AD<|ax<|V (ay Nf O J)<|mI rfl<|aa<| ?_
   refine⟨(i+1,v81,(gs++[f59]),(Z56++Z1)),aZ,xq.u4.u4.u4.u1,(Hp.conv (VC.sub (sQ (sQ sR))) az),(aK I aN),J,J,?_,?_,?_⟩
   .rw[Hr i0 aR,gA,HR,dg];simp only[lf,Bd];rw[apy]
   .exact(hF1.mono (Le.zz fun y hy=>bt _ hy)).snoc (aa9.mono (Le.zz fun y hy=>dx _ hy))
   simp only[cV,gk];omega
  refine a7 (id:=2) rfl<|ax<|V (ay atf O J)<|mI rfl<|aa<| ?_
  refine⟨(k+1,fv1,gs,Z1),aZ,(((rS.u4.u4).t xq O)).u1.u1.u1,(Hp.conv (dS.sub (sQ sR)) aN),(aK I aN),J,J,?_,?_,J⟩
  .rw[ace h0 aR,<-hm,HR,iP J];rfl
  exact hF1
 refine a7 (id:=0) rfl<|SR<|V (cN (cs:=[B _,_]) dL O O o3 (bp (bW.blk (i:=1) O)))<|bu bW (i:=2) O (eC (c':=#[B true,fv0]) O F4 O (alJ (aS (bW.get (i:=0) O)).2) (bW.blk (i:=2) O) O)<|fun w86 VD=>aa<|aj<| ?_
 obtain⟨Zr,hz,hzv,-⟩:=VD.XJ K
 refine wu (i:=Zr.length+1) results51 F4 hz (alK (i:=1) O) dL O O ⟨Zr++Z,hz.sub (Wz (.refl _) (sQ (sQ (.refl _)))),⟨true,fv0,fs⟩,rfl,?_,?_,?_⟩
 .rw[kX.sh,hm,af8 aR]
 .exact hzv.mono (Le.zz fun y hy=>dx _ hy)
 exact(hF.mono (Le.zz fun y hy=>bt _ hy)).each
theorem Cf(s:lM)(w:World)(hs:Eu (Kw w) s):Calls Tryz.prog 32 #[.agg (TZ s)] w (Pure (B (uN s)) w):=by
 have HR:=hs.an.sl.small
 have N8:=hs.vars.sl.small
 unfold maxLen at HR N8
 refine eH func32 rfl rfl fun hH=>SR<|iu hH (v:= .agg _) rfl<|fun b3 w1 aW=>va (v:=B false) rfl<|aa<|ah<|SR<|V (fA iD 0 O rh O)<|V (bZ (hs.an.sl.hp aW) kW O O (aW.cell (i:=0) O O))<|V (aA (hs.an.sl.hp aW) O kW O)<|V (dz O O)<|mB rfl<|bN 11 O (fun h5=> ?_) (fun h5=> ?_)
 .refine aE (v:=B true) rfl<|aa<|cB rfl<|SR<|va (v:=B true) rfl<|aa<|aj<|oB O ?_ aW
  (rw[uN,gB J];rfl)
 refine V (fA iD 1 O xe O)<|V (bZ (hs.vars.sl.hp aW) og O O (aW.cell (i:=0) O O))<|V (aA (hs.vars.sl.hp aW) O og O)<|V (dz O O)<|mB rfl<|aa<|aF O (fun h7=> ?_) (fun h7=> ?_)
 .refine SR<|va (v:=B true) rfl<|aa<|aj<|oB O ?_ aW
  (rw[uN,gB J];rfl)
 refine ak<|ah<|SR<|V (fA iD 0 O rh O)<|V (bZ (hs.an.sl.hp aW) kW O O (aW.cell (i:=0) O O))<|V (aA (hs.an.sl.hp aW) O kW O)<|aE (v:=I 0) rfl<|aa<|aC<|have hno:¬(20<s.an.length\/80<s.vars.length):=J;bj (G:=Int) (fun k s' w'=>(Fr (2::(4::(rg 20 14 []))) _ s')/\(Hp w w' _)/\(s' 20=I k)/\(0<=k)/\(k<=s.an.length)/\(∀j:Int,0<=j->j<k->T1 (s.an.getD j.toNat nj)=false)) (fun k=>(s.an.length-k).toNat) (0) ⟨Fr.refl _ _,aW,rfl,J,J,fun j a b=>absurd b J⟩<| ?_
 rintro k sg8 w8 ⟨fr8,fq,ai5,h0,hk,hg⟩
 obtain⟨aE6,axR,axS⟩:=fr8.w3 1 18 19
 refine SR<|V (aL ai5 axS)<|aa<|ah<|aF O (fun h10=> ?_) (fun h10=> ?_)
 .refine ak<|ah<|aC<|SR<|V (ag (hs.an.sl.hp fq) kW D7 axR ai5 J)<|V (dY (dv:=nj) sC (hs.an.sl.hp fq) wZ O O O J)<|oY fq (bf Vh)<|fun MY ID cK=>bu cK (i:=0) O (eC (c':=(LI _).toArray) O O O (T0 (hs.at J J)) (cK.blk (i:=0) O) O)<|fun PO iX=>aa<|SR<|V (fA wZ 1 O Bh O)<|V (iI (sub:=Aw _) dL O O O (iX.blk (i:=0) O) O)<|aG O iX (Ce _ _ ((hs.at J J).mono iX.kw)) (aq call72 O)<|fun JZ dU=>mB rfl<|gm 27 O (fun MU=> ?_) (fun MU=> ?_)
  .refine aE (v:=B true) rfl<|aa<|cB rfl<|SR<|va (v:=B true) rfl<|aa<|aj<|oB O ?_ dU
   (rw[uN,Fq (d:=nj) (P:=T1) h0 ‹k<_› (by rw[T1,ou];exact .inl aR)];simp)
  refine V (fA wZ 0 O jT O)<|V (au gS O O (dU.cell (i:=0) O (v:= .string _) O))<|V (kR O gS O)<|V (dz O O)<|mB rfl<|aa<|aF O (fun Sb=> ?_) (fun Sb=> ?_)
  .refine SR<|va (v:=B true) rfl<|aa<|aj<|oB O ?_ dU
   (rw[uN,Fq (d:=nj) (P:=T1) h0 ‹k<_› (by rw[T1,ou];exact .inr (gB J))];simp)
  refine ak<|ax<|V (ay ai5 O J)<|mI rfl<|aa<| ?_
  refine⟨k+1,aZ,fr8.u4.u4.u4.u1.u1.u1,(dU.sub (sQ sR)),(aK I aN),J,J,?_⟩
  exact fun j a b=>if e:j=k then e▸(by rw[T1,Bool.or_eq_false_iff];exact⟨aR,gF J⟩)else hg j a J
 refine a7 (id:=0) rfl<|ah<|SR<|V (fA iD 1 O xe aE6)<|V (bZ (hs.vars.sl.hp fq) og O O (fq.cell (i:=0) O O))<|V (aA (hs.vars.sl.hp fq) O og O)<|aE (v:=I 0) rfl<|aa<|aC<|have hla:s.an.any T1=false:=Rh (d:=nj) aR hg;bj (G:=Int) (fun j s' w'=>(Fr (2::(6::(rg 37 9 []))) _ s')/\(Hp w w' _)/\(s' 37=I j)/\(0<=j)/\(j<=s.vars.length)/\(∀i:Int,0<=i->i<j->ark (s.vars.getD i.toNat gD)=false)) (fun j=>(s.vars.length-j).toNat) (0) ⟨Fr.refl _ _,fq,rfl,J,J,fun j a b=>absurd b J⟩<| ?_
 rintro j aE7 S5 ⟨ai6,dm,Y8,j0,jk,hv⟩
 obtain⟨ath,ati⟩:=ai6.w2 35 36
 refine SR<|V (aL Y8 ati)<|aa<|ah<|aF O (fun Aj=> ?_) (fun Aj=> ?_)
 .refine ak<|ah<|aC<|SR<|V (ag (hs.vars.sl.hp dm) og KC ath Y8 J)<|V (dY (dv:=gD) xU (hs.vars.sl.hp dm) pc O O O J)<|oY dm (bf Tryz.zeroValue63)<|fun b27 w25 kB=>bu kB (i:=0) O (eC (c':=(Tc _).toArray) O O O Xl (kB.blk (i:=0) O) O)<|fun w28 gx=>aa<|SR<|V (fA pc 0 O jT O)<|V (au gS O O (gx.cell (i:=0) O (v:= .string _) O))<|V (kR O gS O)<|V (dz O O)<|aa<|aF O (fun h31=> ?_) (fun h31=> ?_)
  .refine SR<|va (v:=B true) rfl<|aa<|aj<|oB O ?_ gx
   (rw[uN,Fq (d:=gD) (P:=ark) j0 ‹j<_› (gB J)];simp)
  refine ak<|ax<|V (ay Y8 O J)<|mI rfl<|aa<| ?_
  refine⟨j+1,aZ,ai6.u4.u4.u1.u1,(gx.sub (sQ sR)),(aK I aN),J,J,?_⟩
  exact fun i a b=>if e:i=j then e▸(gF J)else hv i a J
 refine a7 (id:=2) rfl<|SR<|va (v:=B false) rfl<|aa<|aj<|oB O ?_ dm
 (rw[uN,hla,Rh (d:=gD) aR hv,gF hno];rfl)
theorem zM(s:lM)(w:World)(hs:Eu (Kw w) s):Calls Tryz.prog 34 #[.agg (TZ s)] w (Pure (B (iJ s)) w):=by
 have HR:=hs.an.sl.small
 have N8:=hs.vars.sl.small
 unfold maxLen at HR N8
 refine eH func34 rfl rfl fun hH=>SR<|iu hH (v:= .agg _) rfl<|fun b3 w1 aW=>va (v:=B false) rfl<|aa<|SR<|va (v:= .slice none 0 0) rfl<|have gE:=aW.fD 9 1;aa<|ah<|SR<|V (fA iD 0 O rh O)<|V (bZ (hs.an.sl.hp gE) kW O O (gE.cell (i:=1) O O))<|V (aA (hs.an.sl.hp gE) O kW O)<|V (dz O O)<|mB rfl<|bN 12 O (fun h6=> ?_) (fun h6=> ?_)
 .refine aE (v:=B true) rfl<|aa<|cB rfl<|SR<|va (v:=B false) rfl<|aa<|aj<|oB O ?_ gE
  exact(O6 J).symm
 refine V (fA iD 1 O xe O)<|V (bZ (hs.vars.sl.hp gE) og O O (gE.cell (i:=1) O O))<|V (aA (hs.vars.sl.hp gE) O og O)<|V (dz O O)<|mB rfl<|aa<|aF O (fun h8=> ?_) (fun h8=> ?_)
 .refine SR<|va (v:=B false) rfl<|aa<|aj<|oB O ?_ gE
  exact(O6 J).symm
 refine ak<|ah<|SR<|va (v:=I 0) rfl<|aa<|aC<|have hsz:s.an.length<=16/\s.vars.length<=64:=J;have hnl:(qu s).length=s.an.length+s.vars.length:=(by simp[qu]);bj (G:=Int×(List Tx)×Value) (fun⟨k,m,v3⟩ s' w'=>(Fr (rg 2 3 (rg 18 24 [])) _ s')/\(Hp w w' (.row v3 9 1 (m.length) (Ir m)::_))/\(s' 3=v3)/\(s' 4=I k)/\(0<=k)/\(k<=s.an.length)/\(m=(s.an.take k.toNat).map C2.name)/\((m.length:Int)=k)/\(∀j:Int,0<=j->j<k->qY (s.an.getD j.toNat nj).Aa.sh=true)) (fun⟨k,m,v3⟩=>(s.an.length-k).toNat) ((0,[],(.slice none 0 0:Value))) ⟨Fr.refl _ _,gE,rfl,rfl,J,J,rfl,rfl,fun j a b=>absurd b J⟩<| ?_
 rintro⟨k,m,v3⟩ sg9 w9 ⟨fr9,iB,YW,Oh,h0,hk,hm,hml,hg⟩
 have YV:=fr9.w1 1
 refine ah<|SR<|aE Oh<|V (fA iD 0 O rh YV)<|V (bZ (hs.an.sl.hp iB) kW O O (iB.cell (i:=1) O O))<|V (aA (hs.an.sl.hp iB) O kW O)<|V (aL O O)<|aa<|aF O (fun h11=> ?_) (fun h11=> ?_)
 .refine ak<|ah<|aC<|ah<|SR<|V (fA iD 0 O rh YV)<|V (bZ (hs.an.sl.hp iB) kW O O (iB.cell (i:=1) O O))<|aE Oh<|V (ag (hs.an.sl.hp iB) kW D7 O O J)<|V (fA wZ 1 O Bh O)<|V (oO (dv:=nj) (off:=1) (cs:=Aw _) sC (hs.an.sl.hp iB) dL O O O J (JM _))<|aG O iB (qH _ _ ((hs.at J J).mono iB.kw)) (aq call73 O)<|fun B7 cm=>V (bO O)<|aa<|bY O (fun yj=> ?_) (fun yj=> ?_)
  .refine SR<|va (v:=B false) rfl<|aa<|aj<|oB O ?_ cm
   exact(ack h0 ‹k<_› (by rw[LQ,nt ‹(!qY _)=true›,J6])).symm
  refine ak<|ax<|aE YW<|V (fA iD 0 O rh YV)<|V (bZ (hs.an.sl.hp cm) kW O O (cm.cell (i:=1) O O))<|aE Oh<|V (ag (hs.an.sl.hp cm) kW D7 O O J)<|V (fA wZ 0 O jT O)<|V (gp (dv:=nj) (off:=0) sC (hs.an.sl.hp cm) gS O O J O)<|yd 1 1 cm (ct dP O O (sz:=1) (vs:=[.string _]) O O aD aD O O)<|fun YU Sa dS=> ?_
  (try simp only[oX]at dS)
  refine jX O dS (i:=1) O (dS.dQ (i:=0) (n:=1) (sz:=1) O O aD) O O dP O O (size:=1) (bytes:=16) O O O aD kq J jU<|fun v20 Og dm=> ?_
  refine V (run_assign bG) ?_
  refine aa<|ax<|aE Oh<|V (ay O O J)<|aI rfl<|aa<| ?_
  refine⟨(k+1,m++[(s.an.getD k.toNat nj).name],v20),aZ,fr9.u4.u4.u4.u4.u4.u4.u1.u1,(Hp.conv (dm.sub (sQ sR)) az),rfl,(aK I aN),J,J,?_,?_,?_⟩
  .rw[T7 h0 ‹k<_›,<-hm]
  .simp only[cV,gk];omega
  exact fun j a b=>if e:j=k then e▸nf ‹(!qY _)=false›else hg j a J
 refine a7 (id:=0) rfl<|ah<|SR<|va (v:=I 0) rfl<|aa<|aC<|bj (G:=Int×(List Tx)×Value) (fun⟨j,m2,v3⟩ s' w'=>(Fr (2::3::(5::6::(rg 42 38 []))) _ s')/\(Hp w w' (.row v3 9 1 (m2.length) (Ir m2)::_))/\(s' 3=v3)/\(s' 5=I j)/\(0<=j)/\(j<=s.vars.length)/\(m2=m++(s.vars.take j.toNat).map vI.name)/\((m2.length:Int)=k+j)/\(∀i:Int,0<=i->i<j->((s.vars.getD i.toNat gD).kind=1\/(s.vars.getD i.toNat gD).kind=2)/\0<=(s.vars.getD i.toNat gD).aT/\(s.vars.getD i.toNat gD).aT<s.an.length)) (fun⟨j,m2,v3⟩=>(s.vars.length-j).toNat) ((0,m,(v3:Value))) ⟨Fr.refl _ _,iB,YW,rfl,J,J,(kV m).symm,J,fun j a b=>absurd b J⟩<| ?_
 rintro⟨j,m2,v3⟩ aE8 w23 ⟨adt,eN,ai7,aba,j0,hj,N8,aPu,hv⟩
 have PX:=adt.t1 1 YV
 refine ah<|SR<|aE aba<|V (fA iD 1 O xe PX)<|V (bZ (hs.vars.sl.hp eN) og O O (eN.cell (i:=1) O O))<|V (aA (hs.vars.sl.hp eN) O og O)<|V (aL O O)<|aa<|aF O (fun HN=> ?_) (fun HN=> ?_)
 .refine ak<|ah<|aC<|SR<|V (fA iD 1 O xe PX)<|V (bZ (hs.vars.sl.hp eN) og O O (eN.cell (i:=1) O O))<|aE aba<|V (ag (hs.vars.sl.hp eN) og KC O O J)<|V (dY (dv:=gD) xU (hs.vars.sl.hp eN) pc O O O J)<|oY eN (bf Tryz.zeroValue63)<|fun b28 Vv dD=>bu dD (i:=0) O (eC (c':=(Tc _).toArray) O O O Xl (dD.blk (i:=0) O) O)<|fun w29 jx=>aa<|ah<|SR<|V (fA pc 1 O bz O)<|lI bx jx 0 O O rfl<|V (jB O O)<|mB rfl<|bN 57 O (fun HS=> ?_) (fun HS=> ?_)
  .refine V (fA pc 1 O bz O)<|lI bx jx 0 O O rfl<|V (jB O O)<|mB rfl<|mB rfl<|bN 62 O (fun h34=> ?_) (fun h34=> ?_)
   .refine aE (v:=B true) rfl<|mB rfl<|cC O rfl<|aE (v:=B true) rfl<|aa<|cB rfl<|SR<|va (v:=B false) rfl<|aa<|aj<|oB O ?_ jx
    exact(xV j0 ‹j<_› KF).symm
   refine V (fA pc 2 O bz O)<|lI bx jx 0 O O rfl<|V (aL O O)<|mB rfl<|mB rfl<|bN 67 O (fun h36=> ?_) (fun h36=> ?_)
   .refine aE (v:=B true) rfl<|aa<|cB rfl<|SR<|va (v:=B false) rfl<|aa<|aj<|oB O ?_ jx
    exact(xV j0 ‹j<_› KF).symm
   refine V (fA pc 2 O bz O)<|lI bx jx 0 O O rfl<|V (fA iD 0 O rh PX)<|V (bZ (hs.an.sl.hp jx) kW O O (jx.cell (i:=2) O O))<|V (aA (hs.an.sl.hp jx) O kW O)<|V (dA O O)<|mB rfl<|aa<|aF O (fun h38=> ?_) (fun h38=> ?_)
   .refine SR<|va (v:=B false) rfl<|aa<|aj<|oB O ?_ jx
    exact(xV j0 ‹j<_› KF).symm
   refine ak<|ax<|aE ai7<|V (fA pc 0 O jT O)<|V (au gS O O (jx.cell (i:=0) O (v:= .string _) O))<|yd 1 1 jx (ct dP O O (sz:=1) (vs:=[.string _]) O O aD aD O O)<|fun b41 w39 n8=> ?_
   (try simp only[oX]at n8)
   refine jX O n8 (i:=2) O (n8.dQ (i:=0) (n:=1) (sz:=1) O O aD) O O dP O O (size:=1) (bytes:=16) O O O aD kq J jU<|fun v42 w43 xC=> ?_
   refine V (run_assign bG) ?_
   refine aa<|ax<|aE aba<|V (ay O O J)<|aI rfl<|aa<| ?_
   refine⟨(j+1,m2++[(s.vars.getD j.toNat gD).name],v42),aZ,adt.u4.u4.u4.u4.u4.u4.u4.u4.u4.u4.u1,(Hp.conv (xC.sub (sQ (sQ sR))) az),rfl,(aK I aN),J,J,?_,?_,?_⟩
   .rw[Iu j0 ‹j<_›,N8,dg]
   .simp only[cV,gk];omega
   exact fun i a b=>if e:i=j then e▸(by omega)else hv i a J
  refine aE (v:=B false) rfl<|mB rfl<|cC O rfl<|V (fA pc 2 O bz O)<|lI bx jx 0 O O rfl<|V (aL O O)<|mB rfl<|mB rfl<|bN 67 O (fun h46=> ?_) (fun h46=> ?_)
  .refine aE (v:=B true) rfl<|aa<|cB rfl<|SR<|va (v:=B false) rfl<|aa<|aj<|oB O ?_ jx
   exact(xV j0 ‹j<_› KF).symm
  refine V (fA pc 2 O bz O)<|lI bx jx 0 O O rfl<|V (fA iD 0 O rh PX)<|V (bZ (hs.an.sl.hp jx) kW O O (jx.cell (i:=2) O O))<|V (aA (hs.an.sl.hp jx) O kW O)<|V (dA O O)<|mB rfl<|aa<|aF O (fun h48=> ?_) (fun h48=> ?_)
  .refine SR<|va (v:=B false) rfl<|aa<|aj<|oB O ?_ jx
   exact(xV j0 ‹j<_› KF).symm
  refine ak<|ax<|aE ai7<|V (fA pc 0 O jT O)<|V (au gS O O (jx.cell (i:=0) O (v:= .string _) O))<|yd 1 1 jx (ct dP O O (sz:=1) (vs:=[.string _]) O O aD aD O O)<|fun b51 w49 eS=> ?_
  (try simp only[oX]at eS)
  refine jX O eS (i:=2) O (eS.dQ (i:=0) (n:=1) (sz:=1) O O aD) O O dP O O (size:=1) (bytes:=16) O O O aD kq J jU<|fun v52 w53 gy=> ?_
  refine V (run_assign bG) ?_
  refine aa<|ax<|aE aba<|V (ay O O J)<|aI rfl<|aa<| ?_
  refine⟨(j+1,m2++[(s.vars.getD j.toNat gD).name],v52),aZ,adt.u4.u4.u4.u4.u4.u4.u4.u4.u4.u4.u1,(Hp.conv (gy.sub (sQ (sQ sR))) az),rfl,(aK I aN),J,J,?_,?_,?_⟩
  .rw[Iu j0 ‹j<_›,N8,dg]
  .simp only[cV,gk];omega
  exact fun i a b=>if e:i=j then e▸(by omega)else hv i a J
 refine a7 (id:=2) rfl<|ah<|SR<|va (v:=I 0) rfl<|aa<|aC<|have hnm:m2=qu s:=(by rw[N8,hm,iP J,iP J];rfl);bj (G:=Int) (fun i s' w'=>(Fr (2::(7::(rg 80 12 []))) _ s')/\(Hp w w' _)/\(s' 7=I i)/\(0<=i)/\(i<=m2.length)/\(∀x:Int,0<=x->x<i->iw (m2.getD x.toNat pu)=true)) (fun i=>(m2.length-i).toNat) (0) ⟨Fr.refl _ _,eN,rfl,J,J,fun j a b=>absurd b J⟩<| ?_
 rintro i axU w55 ⟨Ng,iY,VE,i0,i1,hn⟩
 have Nh:=Ng.t1 3 ai7
 refine ah<|SR<|aE VE<|aE Nh<|V (aA (iY.sl (i:=0) O) O dP O)<|V (aL O O)<|aa<|aF O (fun Ni=> ?_) (fun Ni=> ?_)
 .refine ak<|ah<|aC<|SR<|aE Nh<|aE VE<|V (ag (iY.sl (i:=0) O) dP jT O O J)<|V (au gS O O ((iY.sl (i:=0) O).cell _ _ (BC J)))<|aG O iY (ij _ _) (aq call74 O)<|fun w58 sS=>V (bO O)<|aa<|bY O (fun h62=> ?_) (fun h62=> ?_)
  .refine SR<|va (v:=B false) rfl<|aa<|aj<|oB O ?_ sS
   exact(XY i0 (by rw[hnm]at*;omega) (by rw[<-hnm];exact nt ‹(!iw _)=true›)).symm
  refine ak<|ax<|aE VE<|V (ay O O J)<|aI rfl<|aa<| ?_
  refine⟨i+1,aZ,Ng.u4.u4.u4.u1,sS,(aK I aN),J,J,?_⟩
  exact fun x a b=>if e:x=i then e▸nf ‹(!iw _)=false›else hn x a J
 refine a7 (id:=4) rfl<|SR<|aE Nh<|aG O iY (jI _ _ _ (iY.sl (i:=0) O)) (aq call75 O)<|fun w63 Cg=>V (aL O O)<|aB rfl<|aa<|aj<|oB O ?_ Cg
 (rw[hnm]at*;exact(acn hk hj hsz ‹¬k<_› hg ‹¬j<_› hv ‹¬i<_› hn).symm)
theorem F8(v:Value)(l:List dK)(w:World)(hs:Sl w v 10 l.length (l.flatMap kg)):Calls Tryz.prog 103 #[v] w (Pure (B (fX l)) w):=by
 have hm:=hs.small
 unfold maxLen at hm
 refine eH func103 rfl rfl fun hH=>SR<|va (v:=B false) rfl<|aa<|SR<|va (v:=I 0) rfl<|aa<|ah<|SR<| ?_
 refine V (run_move bG) ?_
 refine V (aA (hs.hp hH) O iE O)<|aE (v:=I 0) rfl<|aa<|aC<|bj (G:=Int×Int) (fun⟨k,d⟩ s' w'=>(Fr (2::3::(5::(rg 8 29 []))) _ s')/\(Hp w w' _)/\(s' 3=I d)/\(s' 8=I k)/\(0<=k)/\(k<=l.length)/\(jh l k=some d)) (fun⟨k,d⟩=>(l.length-k).toNat) ((0,0)) ⟨Fr.refl _ _,hH,rfl,rfl,J,J,CO l⟩<| ?_
 rintro⟨k,d⟩ sg1 w1 ⟨tR,iL,rR,Oc,h0,hk,hd⟩
 obtain⟨Od,Vj⟩:=tR.w2 6 7
 have hdb:=Ro h0 hk hd
 refine SR<|V (aL Oc Vj)<|aa<|ah<|aF O (fun h3=> ?_) (fun h3=> ?_)
 .refine ak<|ah<|aC<|SR<|V (ag (hs.hp iL) iE pn Od Oc J)<|V (dY (dv:=cA) gK (hs.hp iL) eR O O O J)<|oY iL (bf B4)<|fun b6 w4 bU=>bu bU (i:=0) O (eC (c':=(kg _).toArray) O O O (xX _) (bU.blk (i:=0) O) O)<|fun w7 fq=>aa<|SR<|V (fA eR 0 O bz O)<|lI bx fq 0 O O rfl<|aa<|aC<|ah<|SR<|V (bX O O)<|aB rfl<|aa<|aF O (fun h10=> ?_) (fun h10=> ?_)
  .refine ak<|cB (bT h10)<|ax<|aE rR<|V (ay O O J)<|aI rfl<|aa<|ax<|V (ay Oc O J)<|mI rfl<|aa<| ?_
   refine⟨(k+1,d+1),aZ,tR.u4.u4.u4.u1,(fq.sub (sQ sR)),(aK I aN),(aK I aN),J,J,?_⟩
   rw[jK h0 ‹k<_›,hd];exact yY (.inl aR)
  refine ax<|V (bX O O)<|aB rfl<|aa<|aF O (fun h12=> ?_) (fun h12=> ?_)
  .refine ax<|aE rR<|V (ay O O J)<|aI rfl<|aa<|ax<|V (ay Oc O J)<|mI rfl<|aa<| ?_
   refine⟨(k+1,d+1),aZ,tR.u4.u4.u4.u1.u1.u1,(fq.sub (sQ sR)),(aK I aN),(aK I aN),J,J,?_⟩
   rw[jK h0 ‹k<_›,hd];exact yY (.inr aR)
  refine ah<|SR<|V (bX O O)<|aB rfl<|aa<|aF O (fun JY=> ?_) (fun JY=> ?_)
  .refine ak<|cB (bT JY)<|ah<|SR<|V (fA eR 1 O bz O)<|lI bx fq 0 O O rfl<|V (aL O O)<|mB rfl<|bN 25 O (fun yj=> ?_) (fun yj=> ?_)
   .refine aE (v:=B true) rfl<|aa<|cB rfl<|SR<|va (v:=B false) rfl<|aa<|aj<|oB O ?_ fq
    exact(Du h0 ‹k<_› hd (yZ J J)).symm
   refine V (fA eR 1 O bz O)<|lI bx fq 0 O O rfl<|aE rR<|V (dz O O)<|mB rfl<|aa<|aF O (fun pW=> ?_) (fun pW=> ?_)
   .refine SR<|va (v:=B false) rfl<|aa<|aj<|oB O ?_ fq
    exact(Du h0 ‹k<_› hd (yZ J J)).symm
   refine ak<|ax<|aE rR<|V (fA eR 1 O bz O)<|lI bx fq 0 O O rfl<|V (fG O O J)<|V (fG O O J)<|aI rfl<|aa<|ax<|V (ay Oc O J)<|mI rfl<|aa<| ?_
   refine⟨(k+1,d-(l.getD k.toNat cA).n+1),aZ,tR.u4.u4.u4.u4.u4.u4.u4.u1,(fq.sub (sQ sR)),(aK I J),(aK I aN),J,J,?_⟩
   rw[jK h0 ‹k<_›,hd];exact LS J J J
  refine ax<|V (bX O O)<|aB rfl<|aa<|aF O (fun NY=> ?_) (fun NY=> ?_)
  .refine ah<|SR<|V (fA eR 1 O bz O)<|lI bx fq 0 O O rfl<|V (aL O O)<|mB rfl<|bN 25 O (fun h22=> ?_) (fun h22=> ?_)
   .refine aE (v:=B true) rfl<|aa<|cB rfl<|SR<|va (v:=B false) rfl<|aa<|aj<|oB O ?_ fq
    exact(Du h0 ‹k<_› hd (yZ J J)).symm
   refine V (fA eR 1 O bz O)<|lI bx fq 0 O O rfl<|aE rR<|V (dz O O)<|mB rfl<|aa<|aF O (fun Aj=> ?_) (fun Aj=> ?_)
   .refine SR<|va (v:=B false) rfl<|aa<|aj<|oB O ?_ fq
    exact(Du h0 ‹k<_› hd (yZ J J)).symm
   refine ak<|ax<|aE rR<|V (fA eR 1 O bz O)<|lI bx fq 0 O O rfl<|V (fG O O J)<|V (fG O O J)<|aI rfl<|aa<|ax<|V (ay Oc O J)<|mI rfl<|aa<| ?_
   refine⟨(k+1,d-(l.getD k.toNat cA).n+1),aZ,tR.u4.u4.u4.u4.u4.u4.u4.u1.u1.u1,(fq.sub (sQ sR)),(aK I J),(aK I aN),J,J,?_⟩
   rw[jK h0 ‹k<_›,hd];exact LS J J J
  refine SR<|va (v:=B false) rfl<|aa<|aj<|oB O ?_ fq
  exact(Du h0 ‹k<_› hd (Rp J J)).symm
 refine a7 (id:=0) rfl<|SR<|aE rR<|V (bX O O)<|aB rfl<|aa<|aj<|oB O ?_ iL
 exact(X0 hk ‹¬k<_› hd).symm
theorem zN(v:Value)(l:List dK)(w:World)(hs:Sl w v 10 l.length (l.flatMap kg)):Calls Tryz.prog 78 #[v] w (Pure (B (fX l)) w):=by
 have hm:=hs.small
 unfold maxLen at hm
 refine eH func78 rfl rfl fun hH=>SR<|va (v:=B false) rfl<|aa<|SR<|va (v:=I 0) rfl<|aa<|ah<|SR<|va (v:=I 0) rfl<|aa<|aC<|bj (G:=Int×Int) (fun⟨k,d⟩ s' w'=>(Fr (rg 2 45 []) _ s')/\(Hp w w' _)/\(s' 3=I d)/\(s' 4=I k)/\(0<=k)/\(k<=l.length)/\(jh l k=some d)) (fun⟨k,d⟩=>(l.length-k).toNat) ((0,0)) ⟨Fr.refl _ _,hH,rfl,rfl,J,J,CO l⟩<| ?_
 rintro⟨k,d⟩ sg1 w1 ⟨tR,iL,rR,zw,h0,hk,hd⟩
 have lO:=tR.w1 0
 have hdb:=Ro h0 hk hd
 refine ah<|SR<|aE zw<|aE lO<|V (aA (hs.hp iL) O iE O)<|V (aL O O)<|aa<|aF O (fun h3=> ?_) (fun h3=> ?_)
 .refine ak<|ah<|aC<|SR<|aE lO<|aE zw<|V (ag (hs.hp iL) iE pn O O J)<|V (fA eR 0 O bz O)<|V (gp (dv:=cA) (off:=0) gK (hs.hp iL) bx O O J O)<|aa<|aC<|ah<|SR<|V (bX O O)<|aB rfl<|aa<|aF O (fun h5=> ?_) (fun h5=> ?_)
  .refine ak<|cB (bT h5)<|ax<|aE rR<|V (ay O O J)<|aI rfl<|aa<|ax<|aE zw<|V (ay O O J)<|aI rfl<|aa<| ?_
   refine⟨(k+1,d+1),aZ,tR.u4.u4.u4.u4.u1,iL,(aK I aN),(aK I aN),J,J,?_⟩
   rw[jK h0 ‹k<_›,hd];exact yY (.inl aR)
  refine ax<|V (bX O O)<|aB rfl<|aa<|aF O (fun h7=> ?_) (fun h7=> ?_)
  .refine ax<|aE rR<|V (ay O O J)<|aI rfl<|aa<|ax<|aE zw<|V (ay O O J)<|aI rfl<|aa<| ?_
   refine⟨(k+1,d+1),aZ,tR.u4.u4.u4.u4.u1.u1.u1,iL,(aK I aN),(aK I aN),J,J,?_⟩
   rw[jK h0 ‹k<_›,hd];exact yY (.inr aR)
  refine ah<|SR<|V (bX O O)<|aB rfl<|aa<|aF O (fun h9=> ?_) (fun h9=> ?_)
  .refine ak<|cB (bT h9)<|ah<|SR<|aE lO<|aE zw<|V (ag (hs.hp iL) iE pn O O J)<|V (fA eR 1 O bz O)<|V (gp (dv:=cA) (off:=1) gK (hs.hp iL) bx O O J O)<|V (aL O O)<|mB rfl<|bN 30 O (fun h11=> ?_) (fun h11=> ?_)
   .refine aE (v:=B true) rfl<|aa<|cB rfl<|SR<|va (v:=B false) rfl<|aa<|aj<|oB O ?_ iL
    exact(Du h0 ‹k<_› hd (yZ J J)).symm
   refine aE lO<|aE zw<|V (ag (hs.hp iL) iE pn O O J)<|V (fA eR 1 O bz O)<|V (gp (dv:=cA) (off:=1) gK (hs.hp iL) bx O O J O)<|aE rR<|V (dz O O)<|mB rfl<|aa<|aF O (fun Vn=> ?_) (fun Vn=> ?_)
   .refine SR<|va (v:=B false) rfl<|aa<|aj<|oB O ?_ iL
    exact(Du h0 ‹k<_› hd (yZ J J)).symm
   refine ak<|ax<|aE rR<|aE lO<|aE zw<|V (ag (hs.hp iL) iE pn O O J)<|V (fA eR 1 O bz O)<|V (gp (dv:=cA) (off:=1) gK (hs.hp iL) bx O O J O)<|V (fG O O J)<|V (ay O O J)<|aI rfl<|aa<|ax<|aE zw<|V (ay O O J)<|aI rfl<|aa<| ?_
   refine⟨(k+1,d-(l.getD k.toNat cA).n+1),aZ,tR.u4.u4.u4.u4.u4.u4.u4.u4.u4.u4.u1.u1,iL,(aK I aN),(aK I aN),J,J,?_⟩
   rw[jK h0 ‹k<_›,hd];exact LS J J J
  refine ax<|V (bX O O)<|aB rfl<|aa<|aF O (fun Ja=> ?_) (fun Ja=> ?_)
  .refine ah<|SR<|aE lO<|aE zw<|V (ag (hs.hp iL) iE pn O O J)<|V (fA eR 1 O bz O)<|V (gp (dv:=cA) (off:=1) gK (hs.hp iL) bx O O J O)<|V (aL O O)<|mB rfl<|bN 30 O (fun Om=> ?_) (fun Om=> ?_)
   .refine aE (v:=B true) rfl<|aa<|cB rfl<|SR<|va (v:=B false) rfl<|aa<|aj<|oB O ?_ iL
    exact(Du h0 ‹k<_› hd (yZ J J)).symm
   refine aE lO<|aE zw<|V (ag (hs.hp iL) iE pn O O J)<|V (fA eR 1 O bz O)<|V (gp (dv:=cA) (off:=1) gK (hs.hp iL) bx O O J O)<|aE rR<|V (dz O O)<|mB rfl<|aa<|aF O (fun MU=> ?_) (fun MU=> ?_)
   .refine SR<|va (v:=B false) rfl<|aa<|aj<|oB O ?_ iL
    exact(Du h0 ‹k<_› hd (yZ J J)).symm
   refine ak<|ax<|aE rR<|aE lO<|aE zw<|V (ag (hs.hp iL) iE pn O O J)<|V (fA eR 1 O bz O)<|V (gp (dv:=cA) (off:=1) gK (hs.hp iL) bx O O J O)<|V (fG O O J)<|V (ay O O J)<|aI rfl<|aa<|ax<|aE zw<|V (ay O O J)<|aI rfl<|aa<| ?_
   refine⟨(k+1,d-(l.getD k.toNat cA).n+1),aZ,tR.u4.u4.u4.u4.u4.u4.u4.u4.u4.u4.u4,iL,(aK I aN),(aK I aN),J,J,?_⟩
   rw[jK h0 ‹k<_›,hd];exact LS J J J
  refine SR<|va (v:=B false) rfl<|aa<|aj<|oB O ?_ iL
  exact(Du h0 ‹k<_› hd (Rp J J)).symm
 refine a7 (id:=0) rfl<|SR<|aE rR<|V (bX O O)<|aB rfl<|aa<|aj<|oB O ?_ iL
 exact(X0 hk ‹¬k<_› hd).symm
theorem kf(s:lM)(v kd aT:Int)(w:World)(hs:Eu (Kw w) s):Calls Tryz.prog 76 #[.agg (TZ s),I v,I kd,I aT] w (Pure (B (qj s v kd aT)) w):=by
 have HR:=hs.an.sl.small
 have N8:=hs.vars.sl.small
 unfold maxLen at HR N8
 refine eH func76 rfl rfl fun hH=>SR<|iu hH (v:= .agg _) rfl<|fun b3 w1 aW=>va (v:=B false) rfl<|aa<|SR<|mI rfl<|V (dA O O)<|mB rfl<|bN 11 O (fun h5=> ?_) (fun h5=> ?_)
 .refine mI rfl<|V (fA iD 1 O xe O)<|V (bZ (hs.vars.sl.hp aW) og O O (aW.cell (i:=0) O O))<|V (aA (hs.vars.sl.hp aW) O og O)<|V (aL O O)<|mB rfl<|mB rfl<|bN 18 O (fun h7=> ?_) (fun h7=> ?_)
  .refine V (fA iD 1 O xe O)<|V (bZ (hs.vars.sl.hp aW) og O O (aW.cell (i:=0) O O))<|mI rfl<|V (ag (hs.vars.sl.hp aW) og KC O O J)<|V (fA pc 1 O bz O)<|V (gp (dv:=gD) (off:=1) xU (hs.vars.sl.hp aW) bx O O J O)<|mI rfl<|V (bX O O)<|mB rfl<|mB rfl<|bN 28 O (fun h9=> ?_) (fun h9=> ?_)
   .refine V (fA iD 1 O xe O)<|V (bZ (hs.vars.sl.hp aW) og O O (aW.cell (i:=0) O O))<|mI rfl<|V (ag (hs.vars.sl.hp aW) og KC O O J)<|V (fA pc 2 O bz O)<|V (gp (dv:=gD) (off:=2) xU (hs.vars.sl.hp aW) bx O O J O)<|mI rfl<|V (bX O O)<|mB rfl<|aB rfl<|aa<|aj<|oB O ?_ aW
    (rw[agv ⟨J,J⟩ ‹(List.getD s.vars _ _).kind=kd›];done)
   refine aE (v:=B false) rfl<|aB rfl<|aa<|aj<|oB O ?_ aW
   (rw[agu ‹¬(List.getD s.vars _ _).kind=kd›];done)
  refine aE (v:=B false) rfl<|mB rfl<|cC O rfl<|aE (v:=B false) rfl<|aB rfl<|aa<|aj<|oB O ?_ aW
  (rw[Ub J];done)
 refine aE (v:=B false) rfl<|mB rfl<|cC O rfl<|aE (v:=B false) rfl<|mB rfl<|cC O rfl<|aE (v:=B false) rfl<|aB rfl<|aa<|aj<|oB O ?_ aW
 (rw[Ub J];done)
theorem lH(s:lM)(aT:Int)(t:ix)(aFa:0<=aT/\aT<s.an.length)(w:World)(hs:Eu (Kw w) s):Calls Tryz.prog 79 #[.agg (TZ s),I aT,.agg (jd t).toArray] w (Pure (B (lF s aT t)) w):=by
 have HR:=hs.an.sl.small
 have N8:=hs.vars.sl.small
 unfold maxLen at HR N8
 refine eH func79 rfl rfl fun hH=>SR<|iu hH (v:= .agg _) rfl<|fun b3 w1 aW=>iu aW (v:= .agg _) rfl<|fun b6 w4 bU=>va (v:=B false) rfl<|aa<|ah<|SR<|V (fA mY 0 O bz O)<|lI bx bU 0 O O rfl<|V (aL O O)<|aa<|aF O (fun h8=> ?_) (fun h8=> ?_)
 .refine ah<|eF aM bU<|fun w9 bW=>have kU:=bW;AQ 0 O kU (fA iD 0 O rh O)<|AT 1 O kU (fun w hS=>bZ (hs.an.sl.hp hS) kW O O (hS.cell (i:=1) O O))<|AQ 2 O kU (mV (I _) O)<|AT 3 O kU (fun w hS=>ag (hs.an.sl.hp hS) kW D7 O O J)<|AQ 4 O kU (fA wZ 1 O Bh O)<|AT 5 O kU (fun w hS=>oO (dv:=nj) (off:=1) (cs:=Aw _) sC (hs.an.sl.hp hS) dL O O O J (JM _))<|AQ 6 O kU (fA mY 1 O gM O)<|AT 7 O kU (fun w hS=>rH cI O O O (hS.blk (i:=0) O) (T8 _))<|A1 8<|cJ O aH O bW sR (mL _ _ _ ((hs.at J J).mono bW.kw)) (aJ call80 O O)<|fun ID cK=>AQ 9 O cK (aV (B _) O)<|AD<|aj<|oB O ?_ cK
  (rw[atom_1 ‹t.var<0›];rfl)
 refine ak<|SR<|V (cN (cs:=C3 _) iD O O O (bp (bU.blk (i:=1) O)))<|V (fA mY 0 O bz O)<|lI bx bU 0 O O rfl<|mI rfl<|aG O bU (kf _ _ _ _ _ (hs.mono bU.kw)) (jb call76 O O (show _=I 1 from O) O)<|fun PO iX=>aB rfl<|aa<|aj<|oB O ?_ iX
 (rw[arz ‹¬t.var<0›];done)
theorem qI(s:lM)(aT:Int)(r:Ax)(aFa:0<=aT/\aT<s.an.length)(w:World)(hs:Eu (Kw w) s)(hr:XZ (Kw w) r):Calls Tryz.prog 77 #[.agg (TZ s),I aT,.agg (Rm r).toArray] w (Pure (B (uP s aT r)) w):=by
 have HR:=hs.an.sl.small
 have N8:=hs.vars.sl.small
 unfold maxLen at HR N8
 have hm3:=hr.fields.small
 unfold maxLen at hm3
 refine eH func77 rfl rfl fun hH=>SR<|iu hH (v:= .agg _) rfl<|fun b3 w1 aW=>iu aW (v:= .agg _) rfl<|fun b6 w4 bU=>va (v:=B false) rfl<|aa<|SR<|va (v:= .slice none 0 0) rfl<|have eD:=bU.fD 9 1;aa<|ah<|SR<|V (fA pe 0 O ux O)<|V (bZ (hr.fields.sl.hp eD) mo O O (eD.cell (i:=1) O O))<|V (aA (hr.fields.sl.hp eD) O mo O)<|V (dz O O)<|mB rfl<|bN 13 O (fun h9=> ?_) (fun h9=> ?_)
 .refine gX O O rfl<|gX O O rfl<|gX O O rfl<|gX O O rfl<|gX O O rfl<|gX O O rfl<|Bx<|aE (v:=B true) rfl<|aa<|cB rfl<|SR<|va (v:=B false) rfl<|aa<|aj<|oB O ?_ eD
  exact(alT J).symm
 refine V (fA pe 1 O bz O)<|lI bx eD 1 O O rfl<|V (dA O O)<|mB rfl<|bN 17 O (fun h11=> ?_) (fun h11=> ?_)
 .refine V (cN (cs:=C3 _) iD O O O (bp (eD.blk (i:=2) O)))<|V (fA pe 1 O bz O)<|lI bx eD 1 O O rfl<|mI rfl<|aG O eD (kf _ _ _ _ _ (hs.mono eD.kw)) (jb call76 O O (show _=I 2 from O) O)<|fun B7 cm=>V (bO O)<|mB rfl<|mB rfl<|aa<|bY O (fun yj=> ?_) (fun yj=> ?_)
  .refine SR<|va (v:=B false) rfl<|aa<|aj<|oB O ?_ cm
   exact(alU J (nt ‹(!qj s r.tail 2 aT)=true›)).symm
  refine ak<|ah<|SR<|va (v:=I 0) rfl<|aa<|aC<|have hsz:r.fields.length<=16:=J;have S6:r.tail<0\/qj s r.tail 2 aT=true:=(by exact .inr (nf ‹(!qj s r.tail 2 aT)=false›));bj (G:=Int×(List Tx)×Value) (fun⟨k,m,v7⟩ s' w'=>(Fr (rg 6 3 (rg 26 34 [])) _ s')/\(Hp w w' (.row v7 9 1 (m.length) (Ir m)::_))/\(s' 7=v7)/\(s' 8=I k)/\(0<=k)/\(k<=r.fields.length)/\(m=(r.fields.take k.toNat).map kT.name)/\((m.length:Int)=k)/\(∀j:Int,0<=j->j<k->qx s aT (r.fields.getD j.toNat mJ)=true)) (fun⟨k,m,v7⟩=>(r.fields.length-k).toNat) ((0,[],(.slice none 0 0:Value))) ⟨Fr.refl _ _,cm,rfl,rfl,J,J,rfl,rfl,fun j a b=>absurd b J⟩<| ?_
  rintro⟨k,m,v7⟩ aET Sa ⟨aiS,dU,apz,VF,h0,hk,hm,hml,hg⟩
  obtain⟨axV,axW,MT⟩:=aiS.w3 1 3 5
  refine ah<|SR<|aE VF<|V (fA pe 0 O ux MT)<|V (bZ (hr.fields.sl.hp dU) mo O O (dU.cell (i:=1) O O))<|V (aA (hr.fields.sl.hp dU) O mo O)<|V (aL O O)<|aa<|aF O (fun MU=> ?_) (fun MU=> ?_)
  .refine ak<|ah<|aC<|SR<|aE apz<|V (fA pe 0 O ux MT)<|V (bZ (hr.fields.sl.hp dU) mo O O (dU.cell (i:=1) O O))<|aE VF<|V (ag (hr.fields.sl.hp dU) mo Gy O O J)<|V (fA Gv 0 O jT O)<|V (gp (dv:=mJ) (off:=0) rG (hr.fields.sl.hp dU) gS O O J O)<|yd 1 1 dU (ct dP O O (sz:=1) (vs:=[.string _]) O O aD aD O O)<|fun b22 w20 fp=> ?_
   (try simp only[oX]at fp)
   refine jX O fp (i:=1) O (fp.dQ (i:=0) (n:=1) (sz:=1) O O aD) O O dP O O (size:=1) (bytes:=16) O O O aD kq J jU<|fun v23 w24 oG=> ?_
   refine V (run_assign bG) ?_
   refine aa<|ah<|eF aM oG<|fun Vv dD=>have Sp:=dD;?_
   refine AQ 0 O Sp (run_move bG) ?_
   refine AQ 1 O Sp (run_move VF)<|AT 2 O Sp (fun w hS=>ag (hS.sl (i:=1) O) dP jT O O J)<|AT 3 O Sp (fun w hS=>au gS O O ((hS.sl (i:=1) O).cell _ _ (Uc hml)))<|A1 4<|cJ O aH O dD sR (ij _ _) (aq call74 O)<|fun w28 gx=>have Da:=gx;AQ 5 O Da (bO O)<|AQ 6 O Da (mV (B _) O)<|KY (dj:=48) O (fun HS=> ?_) (fun HS=> ?_)
   .refine AK 7 O O (bR (c:=true) HS) gx<|AK 8 O O (bR (c:=true) HS) gx<|AK 9 O O (bR (c:=true) HS) gx<|AK 10 O O (bR (c:=true) HS) gx<|AK 11 O O (bR (c:=true) HS) gx<|AK 12 O O (bR (c:=true) HS) gx<|AK 13 O O (bR (c:=true) HS) gx<|AK 14 O O (bR (c:=true) HS) gx<|AK 15 O O (bR (c:=true) HS) gx<|AK 16 O O (bR (c:=true) HS) gx<|AQ 17 O Da (gI (bR (c:=true) HS) (v:=B true) O)<|AD<|cB rfl<|SR<|va (v:=B false) rfl<|aa<|aj<|oB O ?_ gx
    exact(JP h0 ‹k<_› (O8 (nt ‹(!iw _)=true›))).symm
   refine AG 7 O O (bR (c:=false) HS) gx (fun w hS=>cN (cs:=C3 _) iD O O axW (bp (hS.blk (i:=3) O)))<|BQ 8 O O (bR (c:=false) HS) gx (run_move axV)<|BQ 9 O O (bR (c:=false) HS) gx (fA pe 0 O ux MT)<|AG 10 O O (bR (c:=false) HS) gx (fun w hS=>bZ (hr.fields.sl.hp hS) mo O O (hS.cell (i:=2) O O))<|BQ 11 O O (bR (c:=false) HS) gx (run_move VF)<|AG 12 O O (bR (c:=false) HS) gx (fun w hS=>ag (hr.fields.sl.hp hS) mo Gy O O J)<|BQ 13 O O (bR (c:=false) HS) gx (fA Gv 1 O po O)<|AG 14 O O (bR (c:=false) HS) gx (fun w hS=>oO (dv:=mJ) (off:=1) (cs:=jd _) rG (hr.fields.sl.hp hS) mY O O O J (O7 _))<|A1 15<|cJ O (Bv O (bR (c:=false) HS)) O gx sR (lH _ _ _ J _ (hs.mono gx.kw)) (bB call79 O O O)<|fun w33 mS=>BQ 16 O O (bR (c:=false) HS) mS (bO O)<|AQ 17 O mS (dX (bR (c:=false) HS) (v:=B _) O)<|AD<|bY O (fun h37=> ?_) (fun h37=> ?_)
   .refine SR<|va (v:=B false) rfl<|aa<|aj<|oB O ?_ mS
    exact(JP h0 ‹k<_› (O9 (nt ‹(!lF s aT _)=true›))).symm
   refine ak<|ax<|aE VF<|V (ay O O J)<|aI rfl<|aa<| ?_
   refine⟨(k+1,m++[(r.fields.getD k.toNat mJ).name],v23),aZ,aiS.u4.u4.u4.u4.u4.u4.u4.u4.u4,(Hp.conv (mS.sub (sQ sR)) az),rfl,(aK I aN),J,J,?_,?_,?_⟩
   .rw[Iw h0 ‹k<_›,<-hm]
   .simp only[cV,gk];omega
   exact fun j a b=>if e:j=k then e▸Pa (nf ‹(!iw _)=false›) (nf ‹(!lF s aT _)=false›)else hg j a J
  refine a7 (id:=0) rfl<|SR<|aE apz<|aG O dU (jI _ _ _ (dU.sl (i:=0) O)) (aq call75 O)<|fun w38 nR=>V (aL O O)<|aB rfl<|aa<|aj<|oB O ?_ nR
  (rw[aaj hsz S6 ‹¬k<_› hg,show m=Rr r by rw[hm,iP J];rfl])
 refine aE (v:=B false) rfl<|mB rfl<|aa<|dh rfl<|ak<|ah<|SR<|va (v:=I 0) rfl<|aa<|aC<|have hsz:r.fields.length<=16:=J;have S6:r.tail<0\/qj s r.tail 2 aT=true:=(by exact .inl J);bj (G:=Int×(List Tx)×Value) (fun⟨k,m,v7⟩ s' w'=>(Fr (rg 6 3 (rg 26 34 [])) _ s')/\(Hp w w' (.row v7 9 1 (m.length) (Ir m)::_))/\(s' 7=v7)/\(s' 8=I k)/\(0<=k)/\(k<=r.fields.length)/\(m=(r.fields.take k.toNat).map kT.name)/\((m.length:Int)=k)/\(∀j:Int,0<=j->j<k->qx s aT (r.fields.getD j.toNat mJ)=true)) (fun⟨k,m,v7⟩=>(r.fields.length-k).toNat) ((0,[],(.slice none 0 0:Value))) ⟨Fr.refl _ _,eD,rfl,rfl,J,J,rfl,rfl,fun j a b=>absurd b J⟩<| ?_
 rintro⟨k,m,v7⟩ aFb w41 ⟨VG,jM,apA,VH,h0,hk,hm,hml,hg⟩
 obtain⟨axX,Nj,DK⟩:=VG.w3 1 3 5
 refine ah<|SR<|aE VH<|V (fA pe 0 O ux DK)<|V (bZ (hr.fields.sl.hp jM) mo O O (jM.cell (i:=1) O O))<|V (aA (hr.fields.sl.hp jM) O mo O)<|V (aL O O)<|aa<|aF O (fun h43=> ?_) (fun h43=> ?_)
 .refine ak<|ah<|aC<|SR<|aE apA<|V (fA pe 0 O ux DK)<|V (bZ (hr.fields.sl.hp jM) mo O O (jM.cell (i:=1) O O))<|aE VH<|V (ag (hr.fields.sl.hp jM) mo Gy O O J)<|V (fA Gv 0 O jT O)<|V (gp (dv:=mJ) (off:=0) rG (hr.fields.sl.hp jM) gS O O J O)<|yd 1 1 jM (ct dP O O (sz:=1) (vs:=[.string _]) O O aD aD O O)<|fun b46 w44 qR=> ?_
  (try simp only[oX]at qR)
  refine jX O qR (i:=1) O (qR.dQ (i:=0) (n:=1) (sz:=1) O O aD) O O dP O O (size:=1) (bytes:=16) O O O aD kq J jU<|fun v47 w48 HT=> ?_
  refine V (run_assign bG) ?_
  refine aa<|ah<|eF aM HT<|fun w50 vR=>have AY:=vR;?_
  refine AQ 0 O AY (run_move bG) ?_
  refine AQ 1 O AY (run_move VH)<|AT 2 O AY (fun w hS=>ag (hS.sl (i:=1) O) dP jT O O J)<|AT 3 O AY (fun w hS=>au gS O O ((hS.sl (i:=1) O).cell _ _ (Uc hml)))<|A1 4<|cJ O aH O vR sR (ij _ _) (aq call74 O)<|fun w52 jO=>have atm:=jO;AQ 5 O atm (bO O)<|AQ 6 O atm (mV (B _) O)<|KY (dj:=48) O (fun Jd=> ?_) (fun Jd=> ?_)
  .refine AK 7 O O (bR (c:=true) Jd) jO<|AK 8 O O (bR (c:=true) Jd) jO<|AK 9 O O (bR (c:=true) Jd) jO<|AK 10 O O (bR (c:=true) Jd) jO<|AK 11 O O (bR (c:=true) Jd) jO<|AK 12 O O (bR (c:=true) Jd) jO<|AK 13 O O (bR (c:=true) Jd) jO<|AK 14 O O (bR (c:=true) Jd) jO<|AK 15 O O (bR (c:=true) Jd) jO<|AK 16 O O (bR (c:=true) Jd) jO<|AQ 17 O atm (gI (bR (c:=true) Jd) (v:=B true) O)<|AD<|cB rfl<|SR<|va (v:=B false) rfl<|aa<|aj<|oB O ?_ jO
   exact(JP h0 ‹k<_› (O8 (nt ‹(!iw _)=true›))).symm
  refine AG 7 O O (bR (c:=false) Jd) jO (fun w hS=>cN (cs:=C3 _) iD O O Nj (bp (hS.blk (i:=3) O)))<|BQ 8 O O (bR (c:=false) Jd) jO (run_move axX)<|BQ 9 O O (bR (c:=false) Jd) jO (fA pe 0 O ux DK)<|AG 10 O O (bR (c:=false) Jd) jO (fun w hS=>bZ (hr.fields.sl.hp hS) mo O O (hS.cell (i:=2) O O))<|BQ 11 O O (bR (c:=false) Jd) jO (run_move VH)<|AG 12 O O (bR (c:=false) Jd) jO (fun w hS=>ag (hr.fields.sl.hp hS) mo Gy O O J)<|BQ 13 O O (bR (c:=false) Jd) jO (fA Gv 1 O po O)<|AG 14 O O (bR (c:=false) Jd) jO (fun w hS=>oO (dv:=mJ) (off:=1) (cs:=jd _) rG (hr.fields.sl.hp hS) mY O O O J (O7 _))<|A1 15<|cJ O (Bv O (bR (c:=false) Jd)) O jO sR (lH _ _ _ J _ (hs.mono jO.kw)) (bB call79 O O O)<|fun w57 vh=>BQ 16 O O (bR (c:=false) Jd) vh (bO O)<|AQ 17 O vh (dX (bR (c:=false) Jd) (v:=B _) O)<|AD<|bY O (fun h61=> ?_) (fun h61=> ?_)
  .refine SR<|va (v:=B false) rfl<|aa<|aj<|oB O ?_ vh
   exact(JP h0 ‹k<_› (O9 (nt ‹(!lF s aT _)=true›))).symm
  refine ak<|ax<|aE VH<|V (ay O O J)<|aI rfl<|aa<| ?_
  refine⟨(k+1,m++[(r.fields.getD k.toNat mJ).name],v47),aZ,VG.u4.u4.u4.u4.u4.u4.u4.u4.u4,(Hp.conv (vh.sub (sQ sR)) az),rfl,(aK I aN),J,J,?_,?_,?_⟩
  .rw[Iw h0 ‹k<_›,<-hm]
  .simp only[cV,gk];omega
  exact fun j a b=>if e:j=k then e▸Pa (nf ‹(!iw _)=false›) (nf ‹(!lF s aT _)=false›)else hg j a J
 refine a7 (id:=0) rfl<|SR<|aE apA<|aG O jM (jI _ _ _ (jM.sl (i:=0) O)) (aq call75 O)<|fun w62 pC=>V (aL O O)<|aB rfl<|aa<|aj<|oB O ?_ pC
 (rw[aaj hsz S6 ‹¬k<_› hg,show m=Rr r by rw[hm,iP J];rfl])
set_option maxHeartbeats 1000000 in
theorem zO(s:lM)(x:ia)(w:World)(hs:Eu (Kw w) s)(hx:IY (Kw w) x):Calls Tryz.prog 35 #[.agg (TZ s),.agg (Ay x).toArray] w (Pure (B (j5 s x)) w):=by
 have HR:=hs.an.sl.small
 have N8:=hs.vars.sl.small
 unfold maxLen at HR N8
 have hm3:=hx.code.small
 unfold maxLen at hm3
 refine eH func35 rfl rfl fun hH=>SR<|iu hH (v:= .agg _) rfl<|fun b3 w1 aW=>iu aW (v:= .agg _) rfl<|fun b6 w4 bU=>va (v:=B false) rfl<|aa<|ah<|SR<|V (fA iv 0 O bz O)<|lI bx bU 0 O O rfl<|V (bX O O)<|aa<|aF O (fun h8=> ?_) (fun h8=> ?_)
 .refine SR<|V (cN (cs:=C3 _) iD O O O (bp (bU.blk (i:=1) O)))<|V (fA iv 16 O bz O)<|lI bx bU 0 O O rfl<|V (fA iv 1 O bz O)<|lI bx bU 0 O O rfl<|aG O bU (kf _ _ _ _ _ (hs.mono bU.kw)) (jb call76 O O (show _=I 2 from O) O)<|fun w9 bW=>mB rfl<|gm 16 O (fun h12=> ?_) (fun h12=> ?_)
  .refine V (fA iv 17 O jT O)<|V (au gS O O (bW.cell (i:=0) O (v:= .string _) O))<|aG O bW (ij _ _) (aq call74 O)<|fun C7 cF=>mB rfl<|aB rfl<|aa<|aj<|oB O ?_ cF
   (rw[agy ‹x.op=10›,‹qj s x.var 2 x.aT=true›,lU];done)
  refine aE (v:=B false) rfl<|aB rfl<|aa<|aj<|oB O ?_ bW
  (rw[agy ‹x.op=10›,‹qj s x.var 2 x.aT=false›,p8];done)
 refine ak<|ah<|SR<|V (fA iv 1 O bz O)<|lI bx bU 0 O O rfl<|V (aL O O)<|mB rfl<|bN 24 O (fun Om=> ?_) (fun Om=> ?_)
 .refine aE (v:=B true) rfl<|aa<|cB rfl<|SR<|va (v:=B false) rfl<|aa<|aj<|oB O ?_ bU
  (rw[agz J J];done)
 refine V (fA iv 1 O bz O)<|lI bx bU 0 O O rfl<|V (fA iD 0 O rh O)<|V (bZ (hs.an.sl.hp bU) kW O O (bU.cell (i:=1) O O))<|V (aA (hs.an.sl.hp bU) O kW O)<|V (dA O O)<|mB rfl<|aa<|aF O (fun MU=> ?_) (fun MU=> ?_)
 .refine SR<|va (v:=B false) rfl<|aa<|aj<|oB O ?_ bU
  (rw[agz J J];done)
 refine ak<|ah<|SR<|V (fA iv 0 O bz O)<|lI bx bU 0 O O rfl<|V (bX O O)<|aa<|aF O (fun Sb=> ?_) (fun Sb=> ?_)
 .refine SR<|V (cN (cs:=C3 _) iD O O O (bp (bU.blk (i:=1) O)))<|V (fA iv 1 O bz O)<|lI bx bU 0 O O rfl<|V (fA iv 12 O GD O)<|V (iI (sub:=Rm _) pe O O O (bU.blk (i:=0) O) (arv _))<|aG O bU (qI _ _ _ J _ (hs.mono bU.kw) (hx.a.mono bU.kw)) (bB call77 O O O)<|fun S5 eN=>mB rfl<|gm 41 O (fun HN=> ?_) (fun HN=> ?_)
  .refine V (cN (cs:=C3 _) iD O O O (bp (eN.blk (i:=1) O)))<|V (fA iv 1 O bz O)<|lI bx eN 0 O O rfl<|V (fA iv 14 O GD O)<|V (iI (sub:=Rm _) pe O O O (eN.blk (i:=0) O) (arw _))<|aG O eN (qI _ _ _ J _ (hs.mono eN.kw) (hx.b.mono eN.kw)) (bB call77 O O O)<|fun Vv dD=>mB rfl<|aB rfl<|aa<|aj<|oB O ?_ dD
   (rw[aoD ‹x.op=9› (show 0<=x.aT/\x.aT<s.an.length by omega),‹uP s x.aT x.a=true›,lU];done)
  refine aE (v:=B false) rfl<|aB rfl<|aa<|aj<|oB O ?_ eN
  (rw[aoD ‹x.op=9› (show 0<=x.aT/\x.aT<s.an.length by omega),‹uP s x.aT x.a=false›,p8];done)
 refine ak<|ah<|SR<|V (fA iv 0 O bz O)<|lI bx bU 0 O O rfl<|V (jB O O)<|mB rfl<|bN 52 O (fun Vq=> ?_) (fun Vq=> ?_)
 .refine aE (v:=B true) rfl<|mB rfl<|cC O rfl<|aE (v:=B true) rfl<|aa<|cB rfl<|SR<|va (v:=B false) rfl<|aa<|aj<|oB O ?_ bU
  (rw[awA J J J];done)
 refine V (fA iv 2 O Bi O)<|V (bZ (hx.code.sl.hp bU) iE O O (bU.cell (i:=0) O O))<|aG O bU (zN _ _ _ (hx.code.sl.hp bU)) (aq call78 O)<|fun w31 iV=>V (bO O)<|mB rfl<|mB rfl<|gm 58 O (fun C9=> ?_) (fun C9=> ?_)
 .refine aE (v:=B true) rfl<|aa<|cB rfl<|SR<|va (v:=B false) rfl<|aa<|aj<|oB O ?_ iV
  (rw[Pb (show x.op=8 by omega) (show 0<=x.aT/\x.aT<s.an.length by omega),agw (nt ‹(!fX _)=true›),p8];done)
 refine V (cN (cs:=C3 _) iD O O O (bp (iV.blk (i:=1) O)))<|V (fA iv 1 O bz O)<|lI bx iV 0 O O rfl<|V (fA iv 3 O po O)<|V (iI (sub:=jd _) mY O O O (iV.blk (i:=0) O) (aae _))<|aG O iV (lH _ _ _ J _ (hs.mono iV.kw)) (bB call79 O O O)<|fun w36 vP=>V (bO O)<|mB rfl<|aa<|bY O (fun h40=> ?_) (fun h40=> ?_)
 .refine SR<|va (v:=B false) rfl<|aa<|aj<|oB O ?_ vP
  (rw[Pb (show x.op=8 by omega) (show 0<=x.aT/\x.aT<s.an.length by omega),nt ‹(!lF s x.aT x.to)=true›,J6];done)
 refine ak<|ah<|SR<|va (v:=I 0) rfl<|aa<|aC<|bj (G:=Int) (fun k s' w'=>(Fr (rg 4 3 (rg 67 42 [])) _ s')/\(Hp w w' _)/\(s' 5=I k)/\(0<=k)/\(k<=x.code.length)/\(∀j:Int,0<=j->j<k->uQ s x.aT (x.code.getD j.toNat cA)=true)) (fun k=>(x.code.length-k).toNat) (0) ⟨Fr.refl _ _,vP,rfl,J,J,fun j a b=>absurd b J⟩<| ?_
 rintro k aFb w41 ⟨VG,jM,DK,h0,hk,hg⟩
 obtain⟨ai8,Nj⟩:=VG.w2 2 3
 refine ah<|SR<|aE DK<|V (fA iv 2 O Bi Nj)<|V (bZ (hx.code.sl.hp jM) iE O O (jM.cell (i:=0) O O))<|V (aA (hx.code.sl.hp jM) O iE O)<|V (aL O O)<|aa<|aF O (fun h43=> ?_) (fun h43=> ?_)
 .refine ak<|ah<|aC<|SR<|V (fA iv 2 O Bi Nj)<|V (bZ (hx.code.sl.hp jM) iE O O (jM.cell (i:=0) O O))<|aE DK<|V (ag (hx.code.sl.hp jM) iE pn O O J)<|V (dY (dv:=cA) gK (hx.code.sl.hp jM) eR O O O J)<|oY jM (bf B4)<|fun b46 w44 qR=>bu qR (i:=0) O (eC (c':=(kg _).toArray) O O O (xX _) (qR.blk (i:=0) O) O)<|fun w47 mW=>aa<|ah<|eF aM mW<|fun w49 eS=>have Y9:=eS;AQ 0 O Y9 (fA eR 0 O bz O)<|tI 1 O Y9 bx 0 O O rfl<|AQ 2 O Y9 (bX O O)<|AQ 3 O Y9 (mV (B _) O)<|Dl (dj:=82) O (fun VI=> ?_) (fun VI=> ?_)
  .refine AG 4 O O (bT VI) eS (fun w hS=>cN (cs:=C3 _) iD O O ai8 (bp (hS.blk (i:=2) O)))<|BQ 5 O O (bT VI) eS (fA eR 1 O bz O)<|AG 6 O O (bT VI) eS (fun w hS=>au bx O O (hS.cell (i:=0) O (v:=I _) O))<|BQ 7 O O (bT VI) eS (fA iv 1 O bz Nj)<|AG 8 O O (bT VI) eS (fun w hS=>au bx O O (hS.cell (i:=1) O (v:=I _) O))<|A1 9<|cJ O (Bv O (bT VI)) O eS sR (kf _ _ _ _ _ (hs.mono eS.kw)) (jb call76 O O (show _=I 1 from O) O)<|fun w53 gy=>BQ 10 O O (bT VI) gy (bO O)<|have anw:=gy;AQ 11 O anw (gI (bT VI) (v:=B _) O)<|AQ 12 O anw (mV (B _) O)<|KY (dj:=91) O (fun Ni=> ?_) (fun Ni=> ?_)
   .refine AK 13 O O (bR (c:=true) Ni) gy<|AK 14 O O (bR (c:=true) Ni) gy<|AK 15 O O (bR (c:=true) Ni) gy<|AK 16 O O (bR (c:=true) Ni) gy<|AU 17 O O O gy<|AU 18 O O O gy<|AU 19 O O O gy<|AU 20 O O O gy<|AU 21 O O O gy<|AU 22 O O O gy<|AU 23 O O O gy<|AU 24 O O O gy<|AU 25 O O O gy<|AU 26 O O O gy<|AU 27 O O O gy<|AK 28 O O (bR (c:=true) Ni) gy<|AQ 29 O anw (gI (bR (c:=true) Ni) (v:=B true) O)<|AD<|cB rfl<|SR<|va (v:=B false) rfl<|aa<|aj<|oB O ?_ gy
    (rw[Pb (show x.op=8 by omega) (show 0<=x.aT/\x.aT<s.an.length by omega),LV h0 ‹k<_› (alV ‹(List.getD x.code _ _).op=1› (nt ‹(!qj s _ 1 x.aT)=true›)),p8];done)
   refine BQ 13 O O (bR (c:=false) Ni) gy (fA eR 0 O bz O)<|AG 14 O O (bR (c:=false) Ni) gy (fun w hS=>au bx O O (hS.cell (i:=0) O (v:=I _) O))<|BQ 15 O O (bR (c:=false) Ni) gy (bX O O)<|BQ 16 O O (bR (c:=false) Ni) gy (mV (B _) O)<|Dl (dj:=95) O (fun Je=> ?_) (fun Je=> ?_)
   .refine BQ 17 O O (bT Je) gy (fA iD 0 O rh ai8)<|AG 18 O O (bT Je) gy (fun w hS=>bZ (hs.an.sl.hp hS) kW O O (hS.cell (i:=2) O O))<|BQ 19 O O (bT Je) gy (fA iv 1 O bz Nj)<|AG 20 O O (bT Je) gy (fun w hS=>au bx O O (hS.cell (i:=1) O (v:=I _) O))<|AG 21 O O (bT Je) gy (fun w hS=>ag (hs.an.sl.hp hS) kW D7 O O J)<|BQ 22 O O (bT Je) gy (fA wZ 1 O Bh O)<|AG 23 O O (bT Je) gy (fun w hS=>oO (dv:=nj) (off:=1) (cs:=Aw _) sC (hs.an.sl.hp hS) dL O O O J (JM _))<|BQ 24 O O (bT Je) gy (fA eR 2 O gM O)<|AG 25 O O (bT Je) gy (fun w hS=>rH cI O O O (hS.blk (i:=0) O) (Fu _))<|A1 26<|cJ O (Bv O (bT Je)) O gy sR (mL _ _ _ ((hs.at J J).mono gy.kw)) (aJ call80 O O)<|fun w60 vi=>BQ 27 O O (bT Je) vi (bO O)<|BQ 28 O O (bR (c:=false) Ni) vi (gI (bT Je) (v:=B _) O)<|have aFf:=vi;AQ 29 O aFf (dX (bR (c:=false) Ni) (v:=B _) O)<|AD<|bY O (fun h64=> ?_) (fun h64=> ?_)
    .refine SR<|va (v:=B false) rfl<|aa<|aj<|oB O ?_ vi
     (rw[Pb (show x.op=8 by omega) (show 0<=x.aT/\x.aT<s.an.length by omega),LV h0 ‹k<_› (aak ‹(List.getD x.code _ _).op=2› (nt ‹(!cz _ _)=true›)),p8];done)
    refine ak<|ax<|aE DK<|V (ay O O J)<|aI rfl<|aa<| ?_
    refine⟨k+1,aZ,VG.u4.u4.u4.u4.u4.u4.u4.u4.u4.u4.u4,(vi.sub (sQ sR)),(aK I aN),J,J,?_⟩
    exact fun j a b=>if e:j=k then e▸JQ aez (by exact .inr (nf ‹(!cz _ _)=false›))else hg j a J
   refine AK 17 O O (bF Je) gy<|AK 18 O O (bF Je) gy<|AK 19 O O (bF Je) gy<|AK 20 O O (bF Je) gy<|AK 21 O O (bF Je) gy<|AK 22 O O (bF Je) gy<|AK 23 O O (bF Je) gy<|AK 24 O O (bF Je) gy<|AK 25 O O (bF Je) gy<|AK 26 O O (bF Je) gy<|AK 27 O O (bF Je) gy<|BQ 28 O O (bR (c:=false) Ni) gy (dX (bF Je) (v:=B false) O)<|AQ 29 O anw (dX (bR (c:=false) Ni) (v:=B _) O)<|AD<|dh rfl<|ak<|ax<|aE DK<|V (ay O O J)<|aI rfl<|aa<| ?_
   refine⟨k+1,aZ,VG.u4.u4.u4.u4.u4.u4.u4.u4.u4.u4.u4,(gy.sub (sQ sR)),(aK I aN),J,J,?_⟩
   exact fun j a b=>if e:j=k then e▸JQ aez (by exact .inl ‹¬(List.getD x.code _ _).op=2›)else hg j a J
  refine AK 4 O O (bF VI) eS<|AK 5 O O (bF VI) eS<|AK 6 O O (bF VI) eS<|AK 7 O O (bF VI) eS<|AK 8 O O (bF VI) eS<|AK 9 O O (bF VI) eS<|AK 10 O O (bF VI) eS<|AQ 11 O Y9 (dX (bF VI) (v:=B false) O)<|AQ 12 O Y9 (mV (B _) O)<|BQ 13 O O O eS (fA eR 0 O bz O)<|AG 14 O O O eS (fun w hS=>au bx O O (hS.cell (i:=0) O (v:=I _) O))<|BQ 15 O O O eS (bX O O)<|BQ 16 O O O eS (mV (B _) O)<|Dl (dj:=95) O (fun F9=> ?_) (fun F9=> ?_)
  .refine BQ 17 O O (bT F9) eS (fA iD 0 O rh ai8)<|AG 18 O O (bT F9) eS (fun w hS=>bZ (hs.an.sl.hp hS) kW O O (hS.cell (i:=2) O O))<|BQ 19 O O (bT F9) eS (fA iv 1 O bz Nj)<|AG 20 O O (bT F9) eS (fun w hS=>au bx O O (hS.cell (i:=1) O (v:=I _) O))<|AG 21 O O (bT F9) eS (fun w hS=>ag (hs.an.sl.hp hS) kW D7 O O J)<|BQ 22 O O (bT F9) eS (fA wZ 1 O Bh O)<|AG 23 O O (bT F9) eS (fun w hS=>oO (dv:=nj) (off:=1) (cs:=Aw _) sC (hs.an.sl.hp hS) dL O O O J (JM _))<|BQ 24 O O (bT F9) eS (fA eR 2 O gM O)<|AG 25 O O (bT F9) eS (fun w hS=>rH cI O O O (hS.blk (i:=0) O) (Fu _))<|A1 26<|cJ O (Bv O (bT F9)) O eS sR (mL _ _ _ ((hs.at J J).mono eS.kw)) (aJ call80 O O)<|fun w67 mA=>BQ 27 O O (bT F9) mA (bO O)<|BQ 28 O O O mA (gI (bT F9) (v:=B _) O)<|have aFg:=mA;AQ 29 O aFg (dX O (v:=B _) O)<|AD<|bY O (fun h71=> ?_) (fun h71=> ?_)
   .refine SR<|va (v:=B false) rfl<|aa<|aj<|oB O ?_ mA
    (rw[Pb (show x.op=8 by omega) (show 0<=x.aT/\x.aT<s.an.length by omega),LV h0 ‹k<_› (aak ‹(List.getD x.code _ _).op=2› (nt ‹(!cz _ _)=true›)),p8];done)
   refine ak<|ax<|aE DK<|V (ay O O J)<|aI rfl<|aa<| ?_
   refine⟨k+1,aZ,VG.u4.u4.u4.u4.u4.u4.u4.u4.u4.u4.u4,(mA.sub (sQ sR)),(aK I aN),J,J,?_⟩
   exact fun j a b=>if e:j=k then e▸JQ aeD (by exact .inr (nf ‹(!cz _ _)=false›))else hg j a J
  refine AK 17 O O (bF F9) eS<|AK 18 O O (bF F9) eS<|AK 19 O O (bF F9) eS<|AK 20 O O (bF F9) eS<|AK 21 O O (bF F9) eS<|AK 22 O O (bF F9) eS<|AK 23 O O (bF F9) eS<|AK 24 O O (bF F9) eS<|AK 25 O O (bF F9) eS<|AK 26 O O (bF F9) eS<|AK 27 O O (bF F9) eS<|BQ 28 O O O eS (dX (bF F9) (v:=B false) O)<|AQ 29 O Y9 (dX O (v:=B _) O)<|AD<|dh rfl<|ak<|ax<|aE DK<|V (ay O O J)<|aI rfl<|aa<| ?_
  refine⟨k+1,aZ,VG.u4.u4.u4.u4.u4.u4.u4.u4.u4.u4.u4,(eS.sub (sQ sR)),(aK I aN),J,J,?_⟩
  exact fun j a b=>if e:j=k then e▸JQ aeD (by exact .inl ‹¬(List.getD x.code _ _).op=2›)else hg j a J
 refine a7 (id:=0) rfl<|SR<|va (v:=B true) rfl<|aa<|aj<|oB O ?_ jM
 (rw[Pb (show x.op=8 by omega) (show 0<=x.aT/\x.aT<s.an.length by omega),acr ‹¬k<_› hg (nf ‹(!fX _)=false›),nf ‹(!lF s x.aT x.to)=false›];rfl)
theorem Ch(s:kX)(op:Int)(v:Value)(l:List El)(hne:1<=l.length)(w:World)(hs:Sl w v 8 l.length (l.flatMap sU))(hsh:lB (Kw w) s)(hT:oh w):Calls Tryz.prog 139 #[.agg (rD s),I op,v] w (Pure (.agg (jg (qw (LU s.sh op) l))) w):=by
 have hm:=hs.small
 unfold maxLen at hm
 refine eH func139 rfl rfl fun hH=>SR<|iu hH (v:= .agg _) rfl<|fun b3 w1 aW=>oY aW (bf jH)<|fun b6 w4 bU=>aa<|SR<| ?_
 refine V (run_move bG) ?_
 refine V (run_move bG) ?_
 refine V (aA (hs.hp bU) O dJ O)<|V (fG O O J)<|V (ag (hs.hp bU) dJ gM O O J)<|V (lC (hs.hp bU) cI O O O J)<|oY bU (bf jH)<|fun b9 w7 fq=>bu fq (i:=0) O (ey O O O (fq.blk (i:=0) O))<|fun Gk dF=>aa<|ah<|SR<| ?_
 refine V (run_move bG) ?_
 refine V (aA (hs.hp dF) O dJ O)<|V (fG O O J)<|aI rfl<|aa<|aC<|bj (G:=Int×El) (fun⟨k,e1⟩ s' w'=>(Fr (8::(rg 18 19 [])) _ s')/\(Hp w w' (.blk b9 (.cells (jg e1) 37 (0,0))::_))/\(s' 8=I k)/\(-1<=k)/\(k<=(l.length:Int)-2)/\(e1=qw (LU s.sh op) (l.drop (k+1).toNat))) (fun⟨k,e1⟩=>(k+1).toNat) (((l.length:Int)-2,(l.getD ((l.length:Int)-1).toNat dy))) ⟨Fr.refl _ _,dF,rfl,J,J,(by rw[show((l.length:Int)-2+1).toNat=l.length-1 by omega,X3 (by intro h;rw[h]at hne;simp at hne)];congr 1;omega)⟩<| ?_
 rintro⟨k,e1⟩ aiU B7 ⟨pB,cK,MX,h0,hk,he⟩
 obtain⟨vc,DI,F6,apB,VJ⟩:=pB.w5 1 2 3 6 7
 refine ah<|SR<|aE MX<|V (dA O O)<|aa<|aF O (fun JY=> ?_) (fun JY=> ?_)
 .refine ak<|ah<|aC<|ah<|SR<|aE vc<|V (bX O O)<|aa<|aF O (fun yj=> ?_) (fun yj=> ?_)
  .refine ah<|gY aM cK (sQ sR)<|fun Sa dS=>have pX:=dS.sub (sQ sR);AT 0 O pX (fun w hS=>cN (cs:=[B _,_]) dL O O F6 (bp (hS.blk (i:=1) O)))<|AQ 1 O pX (run_move DI)<|AQ 2 O pX (run_move MX)<|AT 3 O pX (fun w hS=>ag (hs.hp hS) dJ gM O O J)<|AT 4 O pX (fun w hS=>lC (hs.hp hS) cI O O O J)<|A1 5<|cf O aH O dS (sQ sR) (dR cI O O VJ (dS.blk (i:=0) O))<|A1 6<|cJ O aH O dS (sQ sR) (Sj _ _ _ _ (hsh.mono dS.kw) (hT.hp dS)) (bB call170 O O O)<|fun Og dm=>A1 7<|ec O aH dm (j:=0) O (sQ sR) (ey O VJ O (dm.blk (i:=0) O))<|fun w25 kB=>AD<|a7 (id:=1) rfl<|ax<|aE MX<|V (fG O O J)<|aI rfl<|aa<| ?_
   refine⟨(k-1,_),aZ,pB.u4.u4.u4.u1.u1,kB,(aK I aN),J,J,?_⟩
   (rw[show(k-1+1).toNat=k.toNat by omega,aai J J,<-he];exact awy ‹op=3›)
  refine ak<|gY aM cK (sQ sR)<|fun w27 jL=>have YT:=jL.sub (sQ sR);AQ 0 O YT (run_move DI)<|AQ 1 O YT (run_move MX)<|AT 2 O YT (fun w hS=>ag (hs.hp hS) dJ gM O O J)<|AT 3 O YT (fun w hS=>lC (hs.hp hS) cI O O O J)<|A1 4<|cf O aH O jL (sQ sR) (dR cI O O VJ (jL.blk (i:=0) O))<|A1 5<|cJ O aH O jL (sQ sR) (Sk _ _ _) (aJ call171 O O)<|fun w31 iV=>A1 6<|ec O aH iV (j:=0) O (sQ sR) (ey O VJ O (iV.blk (i:=0) O))<|fun w35 nO=>AD<|ax<|aE MX<|V (fG O O J)<|aI rfl<|aa<| ?_
  refine⟨(k-1,_),aZ,pB.u4.u4.u4.u1,nO,(aK I aN),J,J,?_⟩
  (rw[show(k-1+1).toNat=k.toNat by omega,aai J J,<-he];exact awz ‹¬op=3›)
 refine a7 (id:=0) rfl<|SR<|V (dR cI O O VJ (cK.blk (i:=0) O))<|bu cK (i:=1) O (ey O apB O (cK.blk (i:=1) O))<|fun w37 vV=>aa<|aj<|wu O apB vV (i:=1) O cI O m5 ⟨?_,vV.below⟩
 (exact aK Value.agg (rB (by rw[he,show(k+1).toNat=0 by omega];exact fun _ _=>rfl)))
set_option maxHeartbeats 1000000 in
theorem VK(s:kX)(v:Value)(l:List dK)(u:Value)(vs:List El)(hl:l.length<=1000)(w:World)(hs:Sl w v 10 l.length (l.flatMap kg))(ht:Sl w u 8 vs.length (vs.flatMap sU))(hsh:lB (Kw w) s)(hT:oh w):Calls Tryz.prog 96 #[.agg (rD s),v,u] w (Pure (.tuple #[.agg (jg (fP s.sh l vs).1),B (fP s.sh l vs).2]) w):=by
 have hm:=hs.small
 unfold maxLen at hm
 have N8:=ht.small
 unfold maxLen at N8
 refine eH func96 rfl rfl fun hH=>SR<|iu hH (v:= .agg _) rfl<|fun b3 w1 aW=>oY aW (bf jH)<|fun b6 w4 bU=>va (v:=B false) rfl<|aa<|ah<|SR<| ?_
 refine V (run_move bG) ?_
 refine aG O bU (F8 _ _ _ (hs.hp bU)) (aq call103 O)<|fun w7 fq=>V (bO O)<|aa<|bY O (fun h11=> ?_) (fun h11=> ?_)
 .refine SR<|V (dO (vs:=[]) O (yf))<|bu fq (i:=0) O (ey O O O (fq.blk (i:=0) O))<|fun B7 cm=>va (v:=B false) rfl<|aa<|aj<|O1 O O O cm (i:=0) O cI O m5 ⟨?_,cm.below⟩
  (rw[awx (nt ‹(!fX l)=true›)];rfl)
 refine ak<|SR<|va (v:= .slice none 0 0) rfl<|have cF:=fq.fD 37 8;aa<|ah<|SR<| ?_
 refine V (run_move bG) ?_
 refine V (aA (hs.hp cF) O iE O)<|aE (v:=I 0) rfl<|aa<|aC<|have hr:fX l=true:=nf ‹(!fX l)=false›;bj (G:=Int×(List El)×Value) (fun⟨k,st,v8⟩ s' w'=>(Fr (7::8::(10::11::(rg 18 53 []))) _ s')/\(Hp w w' (.row v8 37 8 (st.length) (st.flatMap sU)::_))/\(s' 8=v8)/\(s' 18=I k)/\(0<=k)/\(k<=l.length)/\(ic s.sh vs l k=some st)/\(jh l k=some (st.length:Int))) (fun⟨k,st,v8⟩=>(l.length-k).toNat) ((0,[],(.slice none 0 0:Value))) ⟨Fr.refl _ _,cF,rfl,rfl,J,J,rfl,CO l⟩<| ?_
 rintro⟨k,st,v8⟩ aPz Wg ⟨Za,iX,PY,Ci,h0,hk,hst,hdp⟩
 obtain⟨apD,axZ,PZ,ato,atp⟩:=Za.w5 2 3 6 16 17
 have hdk:=Ro h0 hk hdp
 refine SR<|V (aL Ci atp)<|aa<|ah<|aF O (fun Om=> ?_) (fun Om=> ?_)
 .refine ak<|ah<|aC<|SR<|V (ag (hs.hp iX) iE pn ato Ci J)<|V (dY (dv:=cA) gK (hs.hp iX) eR O O O J)<|oY iX (bf B4)<|fun b20 PR jy=>bu jy (i:=0) O (eC (c':=(kg _).toArray) O O O (xX _) (jy.blk (i:=0) O) O)<|fun Og dm=>aa<|SR<|V (fA eR 0 O bz O)<|lI bx dm 0 O O rfl<|aa<|aC<|SR<|V (bX O O)<|aB rfl<|aa<|aF O (fun Aj=> ?_) (fun Aj=> ?_)
  .refine ah<|SR<|V (fA eR 1 O bz O)<|lI bx dm 0 O O rfl<|V (aL O O)<|mB rfl<|bN 47 O (fun h26=> ?_) (fun h26=> ?_)
   .refine aE (v:=B true) rfl<|aa<|cB rfl<|SR<|V (dO (vs:=[]) O (yf))<|bu dm (i:=2) O (ey O PZ O (dm.blk (i:=2) O))<|fun w27 jL=>va (v:=B false) rfl<|aa<|aj<|O1 O PZ O jL (i:=2) O cI O m5 ⟨?_,jL.below⟩
    (rw[aag h0 ‹k<_› hst ‹(List.getD l k.toNat cA).op=1› J];rfl)
   refine V (fA eR 1 O bz O)<|lI bx dm 0 O O rfl<|aE apD<|V (aA (ht.hp dm) O dJ O)<|V (dA O O)<|mB rfl<|aa<|aF O (fun Vq=> ?_) (fun Vq=> ?_)
   .refine SR<|V (dO (vs:=[]) O (yf))<|bu dm (i:=2) O (ey O PZ O (dm.blk (i:=2) O))<|fun w31 iV=>va (v:=B false) rfl<|aa<|aj<|O1 O PZ O iV (i:=2) O cI O m5 ⟨?_,iV.below⟩
    (rw[aag h0 ‹k<_› hst ‹(List.getD l k.toNat cA).op=1› J];rfl)
   refine ak<|ax<|aE PY<|aE apD<|V (fA eR 1 O bz O)<|lI bx dm 0 O O rfl<|V (ag (ht.hp dm) dJ gM O O J)<|V (lC (ht.hp dm) cI O O O J)<|yd 1 1 dm (rF dJ O O O O)<|fun b35 w33 mS=> ?_
   (try simp only[oX]at mS)
   refine jX O mS (i:=2) O (Hp.oy fy mS (i:=0) (l:=[_]) O kQ) O O dJ O O (size:=8) (bytes:=64) O O O aD (aac _) (by show(st.length+1)*_<=_;omega) aeE<|fun v36 w37 vV=> ?_
   refine V (run_assign bG) ?_
   refine aa<|ax<|V (ay Ci O J)<|mI rfl<|aa<| ?_
   refine⟨(k+1,st++[vs.getD (l.getD k.toNat cA).n.toNat dy],v36),aZ,Za.u4.u4.u4.u4.u4.u4.u4.u1,(Hp.conv (vV.sub (sQ (sQ sR))) (by simp;done)),rfl,(aK I aN),J,J,?_,?_⟩
   .exact alS h0 ‹k<_› hst ‹(List.getD l k.toNat cA).op=1› ⟨J,J⟩
   (rw[jK h0 ‹k<_›,hdp,yY (.inl ‹(List.getD l k.toNat cA).op=1›)];simp;done)
  refine SR<|V (bX O O)<|aB rfl<|aa<|aF O (fun h40=> ?_) (fun h40=> ?_)
  .refine ax<|aE PY<|V (fA eR 2 O gM O)<|V (rH cI O O O (dm.blk (i:=0) O) (Fu _))<|yd 1 1 dm (rF dJ O O O O)<|fun b43 w41 ym=> ?_
   (try simp only[oX]at ym)
   refine jX O ym (i:=2) O (Hp.oy fy ym (i:=0) (l:=[_]) O kQ) O O dJ O O (size:=8) (bytes:=64) O O O aD (aac _) (by show(st.length+1)*_<=_;omega) aeE<|fun v44 w45 rT=> ?_
   refine V (run_assign bG) ?_
   refine aa<|ax<|V (ay Ci O J)<|mI rfl<|aa<| ?_
   refine⟨(k+1,st++[(l.getD k.toNat cA).c],v44),aZ,Za.u4.u4.u4.u4.u1.u1,(Hp.conv (rT.sub (sQ (sQ sR))) (by simp;done)),rfl,(aK I aN),J,J,?_,?_⟩
   .exact arx h0 ‹k<_› hst ‹(List.getD l k.toNat cA).op=2›
   (rw[jK h0 ‹k<_›,hdp,yY (.inr ‹(List.getD l k.toNat cA).op=2›)];simp;done)
  refine SR<|aE PY<|V (aA (dm.sl (i:=1) O) O dJ O)<|V (fA eR 1 O bz O)<|lI bx dm 0 O O rfl<|V (fG O O (by have hq:=(uy hr h0 ‹k<_› hdp ‹¬(List.getD l k.toNat cA).op=1› ‹¬(List.getD l k.toNat cA).op=2›);omega))<|aI rfl<|aa<|have hpo:=(uy hr h0 ‹k<_› hdp ‹¬(List.getD l k.toNat cA).op=1› ‹¬(List.getD l k.toNat cA).op=2›);gY aM dm (sP (sQ sR))<|fun w47 mW=>have VL:=mW.sub (sP (sQ sR));AQ 0 O VL (run_move PY)<|AQ 1 O VL (mV (I _) O)<|AQ 2 O VL (mV (I _) O)<|AT 4 O VL (fun w hS=>cN (cs:=[B _,_]) dL O O axZ (bp (hS.blk (i:=2) O)))<|AQ 5 O VL (fA eR 0 O bz O)<|tI 6 O VL bx 0 O O rfl<|AQ 7 O VL (run_move PY)<|AQ 8 O VL (mV (I _) O)<|iy 3 9 aM ?_ ?_
  .refine cf O aH O mW (sP (sQ sR)) (uR (mW.sl (i:=1) O) dJ gM O O O J)<|A1 9<|cf O aH O mW (sP (sQ sR)) (fW (mW.sl (i:=1) O) dJ gM O O J)<|A1 10<|cJ O aH O mW (sP (sQ sR)) (Ch s (l.getD k.toNat cA).op _ (st.drop ((st.length:Int)-(l.getD k.toNat cA).n).toNat) KH _ (Sl.frE fy (mW.sl (i:=1) O) _ J) (hsh.mono mW.kw) (hT.hp mW)) (bB call139 O O O)<|fun w53 gy=>A1 11<|cY O aH O gy (sP (sQ sR)) (f:=fun b=> .slice (some ⟨b,0,none⟩) 1 1) (rF dJ O O O O)<|fun b57 w55 oH=> ?_
   (try simp only[oX]at oH)
   refine A1 12<|Rs O aH O oH (j:=2) O (q:=(((st.length:Int)-(l.getD k.toNat cA).n)).toNat) J (fun _=>(sQ (sP (sQ sR)))) (Hp.oy fy oH (i:=0) (l:=[_]) O kQ) O O dJ O O (size:=8) (bytes:=64) O O O az QM QL<|fun v60 w61 tB=> ?_
   refine AQ 13 O (tB.sub (sQ (sP (sQ sR)))) (run_assign bG) ?_
   refine AD<|ax<|V (ay Ci O J)<|mI rfl<|aa<| ?_
   refine⟨(k+1,st.take ((st.length:Int)-(l.getD k.toNat cA).n).toNat++[qw (LU s.sh (l.getD k.toNat cA).op) (st.drop ((st.length:Int)-(l.getD k.toNat cA).n).toNat)],v60),aZ,Za.u4.u4.u4.u4.u4.u4.u4.u4,(Hp.conv (tB.sub (sQ (sQ sR))) QO),rfl,(aK I aN),J,J,?_,?_⟩
   .exact aah h0 ‹k<_› hst ‹¬(List.getD l k.toNat cA).op=1› ‹¬(List.getD l k.toNat cA).op=2› O QK
   (have hq:=(uy hr h0 ‹k<_› hdp ‹¬(List.getD l k.toNat cA).op=1› ‹¬(List.getD l k.toNat cA).op=2›);rw[hq.2.2,cV,eo,gk];congr 1<;>omega)
  refine cf O aH O mW (sP (sQ sR)) (fW (mW.sl (i:=1) O) dJ gM O O J)<|iy 3 10 aM ?_ ?_
  .refine cf O aH O mW (sP (sQ sR)) (uR (mW.sl (i:=1) O) dJ gM O O O J)<|A1 10<|cJ O aH O mW (sP (sQ sR)) (Ch s (l.getD k.toNat cA).op _ (st.drop ((st.length:Int)-(l.getD k.toNat cA).n).toNat) KH _ (Sl.frE fy (mW.sl (i:=1) O) _ J) (hsh.mono mW.kw) (hT.hp mW)) (bB call139 O O O)<|fun w67 mA=>A1 11<|cY O aH O mA (sP (sQ sR)) (f:=fun b=> .slice (some ⟨b,0,none⟩) 1 1) (rF dJ O O O O)<|fun b71 w69 vk=> ?_
   (try simp only[oX]at vk)
   refine A1 12<|Rs O aH O vk (j:=2) O (q:=(((st.length:Int)-(l.getD k.toNat cA).n)).toNat) J (fun _=>(sQ (sP (sQ sR)))) (Hp.oy fy vk (i:=0) (l:=[_]) O kQ) O O dJ O O (size:=8) (bytes:=64) O O O az QM QL<|fun v74 w75 qS=> ?_
   refine AQ 13 O (qS.sub (sQ (sP (sQ sR)))) (run_assign bG) ?_
   refine AD<|ax<|V (ay Ci O J)<|mI rfl<|aa<| ?_
   refine⟨(k+1,st.take ((st.length:Int)-(l.getD k.toNat cA).n).toNat++[qw (LU s.sh (l.getD k.toNat cA).op) (st.drop ((st.length:Int)-(l.getD k.toNat cA).n).toNat)],v74),aZ,Za.u4.u4.u4.u4.u4.u4.u4.u4,(Hp.conv (qS.sub (sQ (sQ sR))) QO),rfl,(aK I aN),J,J,?_,?_⟩
   .exact aah h0 ‹k<_› hst ‹¬(List.getD l k.toNat cA).op=1› ‹¬(List.getD l k.toNat cA).op=2› O QK
   (have hq:=(uy hr h0 ‹k<_› hdp ‹¬(List.getD l k.toNat cA).op=1› ‹¬(List.getD l k.toNat cA).op=2›);rw[hq.2.2,cV,eo,gk];congr 1<;>omega)
  refine cJ O aH O mW (sP (sQ sR)) (Ch s (l.getD k.toNat cA).op _ (st.drop ((st.length:Int)-(l.getD k.toNat cA).n).toNat) KH _ (Sl.frE fy (mW.sl (i:=1) O) _ J) (hsh.mono mW.kw) (hT.hp mW)) (bB call139 O O O)<|fun w77 Jf=>iy 3 11 aM ?_ ?_
  .refine cf O aH O Jf (sP (sQ sR)) (uR (Jf.sl (i:=1) O) dJ gM O O O J)<|A1 11<|cY O aH O Jf (sP (sQ sR)) (f:=fun b=> .slice (some ⟨b,0,none⟩) 1 1) (rF dJ O O O O)<|fun b83 w81 tC=> ?_
   (try simp only[oX]at tC)
   refine A1 12<|Rs O aH O tC (j:=2) O (q:=(((st.length:Int)-(l.getD k.toNat cA).n)).toNat) J (fun _=>(sQ (sP (sQ sR)))) (Hp.oy fy tC (i:=0) (l:=[_]) O kQ) O O dJ O O (size:=8) (bytes:=64) O O O az QM QL<|fun v86 w87 EO=> ?_
   refine AQ 13 O (EO.sub (sQ (sP (sQ sR)))) (run_assign bG) ?_
   refine AD<|ax<|V (ay Ci O J)<|mI rfl<|aa<| ?_
   refine⟨(k+1,st.take ((st.length:Int)-(l.getD k.toNat cA).n).toNat++[qw (LU s.sh (l.getD k.toNat cA).op) (st.drop ((st.length:Int)-(l.getD k.toNat cA).n).toNat)],v86),aZ,Za.u4.u4.u4.u4.u4.u4.u4.u4,(Hp.conv (EO.sub (sQ (sQ sR))) QO),rfl,(aK I aN),J,J,?_,?_⟩
   .exact aah h0 ‹k<_› hst ‹¬(List.getD l k.toNat cA).op=1› ‹¬(List.getD l k.toNat cA).op=2› O QK
   (have hq:=(uy hr h0 ‹k<_› hdp ‹¬(List.getD l k.toNat cA).op=1› ‹¬(List.getD l k.toNat cA).op=2›);rw[hq.2.2,cV,eo,gk];congr 1<;>omega)
  refine cY O aH O Jf (sP (sQ sR)) (f:=fun b=> .slice (some ⟨b,0,none⟩) 1 1) (rF dJ O O O O)<|fun b91 w89 tD=> ?_
  (try simp only[oX]at tD)
  refine A1 3<|cf O aH O tD (sQ (sP (sQ sR))) (uR (tD.sl (i:=2) O) dJ gM O O O J)<|A1 12<|Rs O aH O tD (j:=2) O (q:=(((st.length:Int)-(l.getD k.toNat cA).n)).toNat) J (fun _=>(sQ (sP (sQ sR)))) (Hp.oy fy tD (i:=0) (l:=[_]) O kQ) O O dJ O O (size:=8) (bytes:=64) O O O az QM QL<|fun v96 w97 Sq=> ?_
  refine AQ 13 O (Sq.sub (sQ (sP (sQ sR)))) (run_assign bG) ?_
  refine AD<|ax<|V (ay Ci O J)<|mI rfl<|aa<| ?_
  refine⟨(k+1,st.take ((st.length:Int)-(l.getD k.toNat cA).n).toNat++[qw (LU s.sh (l.getD k.toNat cA).op) (st.drop ((st.length:Int)-(l.getD k.toNat cA).n).toNat)],v96),aZ,Za.u4.u4.u4.u4.u4.u4.u4.u4,(Hp.conv (Sq.sub (sQ (sQ sR))) QO),rfl,(aK I aN),J,J,?_,?_⟩
  .exact aah h0 ‹k<_› hst ‹¬(List.getD l k.toNat cA).op=1› ‹¬(List.getD l k.toNat cA).op=2› O QK
  (have hq:=(uy hr h0 ‹k<_› hdp ‹¬(List.getD l k.toNat cA).op=1› ‹¬(List.getD l k.toNat cA).op=2›);rw[hq.2.2,cV,eo,gk];congr 1<;>omega)
 refine a7 (id:=0) rfl<|SR<|aE PY<|V (ag (iX.sl (i:=0) O) dJ gM O O aeJ)<|V (lC (iX.sl (i:=0) O) cI O O O aeJ)<|bu iX (i:=1) O (ey O PZ O (iX.blk (i:=1) O))<|fun w99 vp=>va (v:=B true) rfl<|aa<|aj<|O1 O PZ O vp (i:=1) O cI O m5 ⟨?_,vp.below⟩
 (rw[Rq hr hk ‹¬k<_› hst];rfl)
theorem k8(b:Nat)(r:Rl)(d s:Int)(vw vj:Value)(a:BitVec 64)(w:World)(hb:w.heap[b]?=some (.cells (kZ r d s vw vj).toArray 212 (0,0)))(hW:Sl w vw 1 (nr r (pts r).toNat).length ((nr r (pts r).toNat).map U)):Calls Tryz.prog 174 #[.pointer (some ⟨b,0,none⟩),U a] w (Pure (I (Dv r a)) w):=by
 have hp:=dB r
 have hpp:pts r=max 0 (min r.n 64):=rfl
 have Zb:=zi (r:=r) (k:=(pts r).toNat)
 refine eH func174 rfl rfl fun hH=>SR<|va (v:=I 0) rfl<|aa<|ah<|SR<|aE (v:=Pn _ _) rfl<|V (af O)<|V (fA mF 68 O iN O)<|V (au cS O O (hH.ed hb Dx))<|V (aA (hW.hp hH) O cS O)<|aE (v:=I 0) rfl<|aa<|aC<|bj (G:=Int) (fun k s' w'=>(Fr (rg 4 3 (rg 12 10 [])) _ s')/\(Hp w w' _)/\(s' 12=I k)/\(0<=k)/\(k<=pts r)/\(∀j:Int,0<=j->j<k->bS r j≠a)) (fun k=>(pts r-k).toNat) (0) ⟨Fr.refl _ _,hH,rfl,J,J,fun j a b=>absurd b J⟩<| ?_
 rintro k sg1 w1 ⟨tR,iL,abb,h0,hk,hf⟩
 obtain⟨zy,ax2,ax3⟩:=tR.w3 1 10 11
 refine SR<|V (aL abb ax3)<|aa<|ah<|aF O (fun h3=> ?_) (fun h3=> ?_)
 .refine ak<|ah<|aC<|SR<|aE abb<|V (ag (hW.hp iL) cS c8 ax2 abb J)<|V (au dW O O (rJ (hW.hp iL) J))<|aI rfl<|aU rfl<|aa<|SR<|mU rfl<|aE zy<|V (js O O)<|aa<|aF O (fun h5=> ?_) (fun h5=> ?_)
  .refine SR<|mI rfl<|aI rfl<|aa<|aj<|oI O ?_ iL
   exact(arK h0 J aR hf).symm
  refine ak<|ax<|V (ay abb O J)<|mI rfl<|aa<| ?_
  refine⟨k+1,aZ,tR.u4.u4.u1.u1.u1,iL,(aK I aN),J,J,?_⟩
  exact fun j a b=>if e:j=k then e▸‹¬bS r k=_›else hf j a J
 refine a7 (id:=0) rfl<|SR<|va (v:=I (-1)) rfl<|aa<|aj<|oI O ?_ iL
 exact(awM (k:=k) J hf).symm
end
section
open Go Go.RowKit Go.Proofs.YtlhjdflgjbkpmaaGreatDoor.E Go.Proofs.YtlhjdflgjbkpmaaGreatDoor.M
set_option maxRecDepth 100000
open Go.Proofs.Tryz
variable{fr:List a8}
set_option maxHeartbeats 1000000 in
theorem EP(W0:World)(b:Nat)(r:Rl)(L:List a8)(w:World)(hT:oh W0)(hH:Hp W0 w (.blk b (.cells (kZ r 0 1 (.slice none 0 0) (.slice none 0 0)).toArray 212 (0,0))::L)):Calls Tryz.prog 173 #[.pointer (some ⟨b,0,none⟩)] w (iA fun u w'=>u= .tuple #[]/\∃(v1 v2:Value) (rs:List RC) (Z:List a8),HB (Kz KN Z) r v1 v2 rs/\Hp W0 w' (.blk b (.cells (kZ r 0 1 (v1) (v2)).toArray 212 (0,0))::(Z++L))):=by
 have hp:=dB r
 have hpp:pts r=max 0 (min r.n 64):=rfl
 have Zb:=zi (r:=r) (k:=(pts r).toNat)
 refine en func173 rfl rfl<|have hN:=(hH.fD 100 1).fD 35 1;SR<|aE (v:=Pn _ _) rfl<|V (af O)<|V (fA mF 0 O jR O)<|V (fA bQ 0 O bz O)<|V (au bx O O (hN.cell (i:=2) O awN))<|V (qk O O)<|V (Br O O)<|aI rfl<|aa<|ah<|SR<|mI rfl<|aE (v:=I 0) rfl<|aa<|aC<|bj (G:=Int×Value) (fun⟨k,v1⟩ s' w'=>(Fr (3::(rg 17 19 [])) _ s')/\(Hp W0 w' (.row v1 35 1 (nr r (k).toNat).length ((nr r (k).toNat).map U)::_:: .blk b (.cells (kZ r 0 1 (v1) (.slice none 0 0)).toArray 212 (0,0))::_))/\(s' 17=I k)/\(0<=k)/\(k<=pts r)) (fun⟨k,v1⟩=>(pts r-k).toNat) ((0,.slice none 0 0)) ⟨Fr.refl _ _,hN,rfl,J,J⟩<| ?_
 rintro⟨k,v1⟩ sg1 w1 ⟨tR,iL,ai9,h0,hk⟩
 obtain⟨lO,aiM,ax4⟩:=tR.w3 0 2 16
 have hwk:=zi (r:=r) (k:=k.toNat)
 refine SR<|V (aL ai9 ax4)<|aa<|ah<|aF O (fun h3=> ?_) (fun h3=> ?_)
 .refine ak<|Et (G:=(Value)) iL (3::(rg 19 16 [])) (fun(L:List a8) (v3:(Value))=>((L).set 2 (.blk b (.cells (kZ r 0 1 (v3) (.slice none 0 0)).toArray 212 (0,0)))).set 0 (.row v3 35 1 (nr r ((k+1)).toNat).length ((nr r ((k+1)).toNat).map U))) (fun(v3:(Value)) s'=>True) ?_ ?_
  .refine aC<|SR<|aE ai9<|aI rfl<|aa<|gY aM iL (sQ (sP (sQ sR)))<|fun w4 bU=>have Of:=bU.sub (sQ (sP (sQ sR)));AQ 0 O Of (run_move lO)<|AQ 1 O Of (run_move lO)<|AQ 2 O Of (af O)<|AQ 3 O Of (fA mF 68 O iN O)<|AQ 5 O Of (run_move lO)<|AQ 6 O Of (af O)<|AQ 7 O Of (fA mF 0 O jR O)<|AQ 9 O Of (mV (I _) O)<|iy 4 8 aM ?_ ?_
   .refine cf O aH O bU (sQ (sP (sQ sR))) (au cS O O (bU.cell (i:=2) O Dx))<|A1 8<|cf O aH O bU (sQ (sP (sQ sR))) (HC bQ O O O (bU.blk (i:=2) O))<|A1 10<|cJ O aH O bU (sQ (sP (sQ sR))) (n9 _ _ _ (hT.hp bU)) (aJ GJ O O)<|fun Gk dF=>A1 11<|cY O aH O dF (sQ (sP (sQ sR))) (f:=fun b=> .slice (some ⟨b,0,none⟩) 1 1) (ct cS O O (sz:=1) (vs:=[U _]) O O aD aD O O)<|fun b14 B7 cm=> ?_
    (try simp only[oX]at cm)
    refine A1 12<|lA O aH O cm (j:=1) O (fun _=>(sQ (sQ (sP (sQ sR))))) (cm.dQ (i:=0) (n:=1) (sz:=1) O O aD) O O cS O O (size:=1) (bytes:=8) O O O aD kq J jU<|fun v17 Wg cG=> ?_
    simp only[z2,gL,pull]at cG
    refine AQ 13 O (cG.sub (sQ (sQ (sP (sQ sR))))) (af O)<|AQ 14 O (cG.sub (sQ (sQ (sP (sQ sR))))) (fA mF 68 O iN O)<|A1 15<|ec O aH cG (j:=3) O (sQ (sQ (sP (sQ sR)))) (bL O O (v:=v17) O (aS (cG.get (i:=1) O)).1 (aS (cG.get (i:=1) O)).2 (cG.blk (i:=3) O) KE)<|fun w20 fp=> ?_
    simp only[z2,gL,pull]at fp
    rw[FA]at fp
    refine AD ?_
    refine⟨((Fr.refl _ _)).u4.u4.u4.u4.u1,v17,(Hp.conv (fp.sub (sQ sR)) QU),trivial⟩
   refine cf O aH O bU (sQ (sP (sQ sR))) (HC bQ O O O (bU.blk (i:=2) O))<|iy 4 10 aM ?_ ?_
   .refine cf O aH O bU (sQ (sP (sQ sR))) (au cS O O (bU.cell (i:=2) O Dx))<|A1 10<|cJ O aH O bU (sQ (sP (sQ sR))) (n9 _ _ _ (hT.hp bU)) (aJ GJ O O)<|fun Vv dD=>A1 11<|cY O aH O dD (sQ (sP (sQ sR))) (f:=fun b=> .slice (some ⟨b,0,none⟩) 1 1) (ct cS O O (sz:=1) (vs:=[U _]) O O aD aD O O)<|fun b30 w28 gx=> ?_
    (try simp only[oX]at gx)
    refine A1 12<|lA O aH O gx (j:=1) O (fun _=>(sQ (sQ (sP (sQ sR))))) (gx.dQ (i:=0) (n:=1) (sz:=1) O O aD) O O cS O O (size:=1) (bytes:=8) O O O aD kq J jU<|fun v33 w31 iV=> ?_
    simp only[z2,gL,pull]at iV
    refine AQ 13 O (iV.sub (sQ (sQ (sP (sQ sR))))) (af O)<|AQ 14 O (iV.sub (sQ (sQ (sP (sQ sR))))) (fA mF 68 O iN O)<|A1 15<|ec O aH iV (j:=3) O (sQ (sQ (sP (sQ sR)))) (bL O O (v:=v33) O (aS (iV.get (i:=1) O)).1 (aS (iV.get (i:=1) O)).2 (iV.blk (i:=3) O) KE)<|fun w36 vP=> ?_
    simp only[z2,gL,pull]at vP
    rw[FA]at vP
    refine AD ?_
    refine⟨((Fr.refl _ _)).u4.u4.u4.u4.u1,v33,(Hp.conv (vP.sub (sQ sR)) QU),trivial⟩
   refine cJ O aH O bU (sQ (sP (sQ sR))) (n9 _ _ _ (hT.hp bU)) (aJ GJ O O)<|fun w38 nR=>iy 4 11 aM ?_ ?_
   .refine cf O aH O nR (sQ (sP (sQ sR))) (au cS O O (nR.cell (i:=2) O Dx))<|A1 11<|cY O aH O nR (sQ (sP (sQ sR))) (f:=fun b=> .slice (some ⟨b,0,none⟩) 1 1) (ct cS O O (sz:=1) (vs:=[U _]) O O aD aD O O)<|fun b44 w42 mz=> ?_
    (try simp only[oX]at mz)
    refine A1 12<|lA O aH O mz (j:=1) O (fun _=>(sQ (sQ (sP (sQ sR))))) (mz.dQ (i:=0) (n:=1) (sz:=1) O O aD) O O cS O O (size:=1) (bytes:=8) O O O aD kq J jU<|fun v47 w45 rT=> ?_
    simp only[z2,gL,pull]at rT
    refine AQ 13 O (rT.sub (sQ (sQ (sP (sQ sR))))) (af O)<|AQ 14 O (rT.sub (sQ (sQ (sP (sQ sR))))) (fA mF 68 O iN O)<|A1 15<|ec O aH rT (j:=3) O (sQ (sQ (sP (sQ sR)))) (bL O O (v:=v47) O (aS (rT.get (i:=1) O)).1 (aS (rT.get (i:=1) O)).2 (rT.blk (i:=3) O) KE)<|fun w50 vR=> ?_
    simp only[z2,gL,pull]at vR
    rw[FA]at vR
    refine AD ?_
    refine⟨((Fr.refl _ _)).u4.u4.u4.u4.u1,v47,(Hp.conv (vR.sub (sQ sR)) QU),trivial⟩
   refine cY O aH O nR (sQ (sP (sQ sR))) (f:=fun b=> .slice (some ⟨b,0,none⟩) 1 1) (ct cS O O (sz:=1) (vs:=[U _]) O O aD aD O O)<|fun b54 w52 jO=> ?_
   (try simp only[oX]at jO)
   refine A1 4<|cf O aH O jO (sQ (sQ (sP (sQ sR)))) (au cS O O (jO.cell (i:=3) O Dx))<|A1 12<|lA O aH O jO (j:=1) O (fun _=>(sQ (sQ (sP (sQ sR))))) (jO.dQ (i:=0) (n:=1) (sz:=1) O O aD) O O cS O O (size:=1) (bytes:=8) O O O aD kq J jU<|fun v59 w57 vh=> ?_
   simp only[z2,gL,pull]at vh
   refine AQ 13 O (vh.sub (sQ (sQ (sP (sQ sR))))) (af O)<|AQ 14 O (vh.sub (sQ (sQ (sP (sQ sR))))) (fA mF 68 O iN O)<|A1 15<|ec O aH vh (j:=3) O (sQ (sQ (sP (sQ sR)))) (bL O O (v:=v59) O (aS (vh.get (i:=1) O)).1 (aS (vh.get (i:=1) O)).2 (vh.blk (i:=3) O) KE)<|fun w62 pC=> ?_
   simp only[z2,gL,pull]at pC
   rw[FA]at pC
   refine AD ?_
   refine⟨((Fr.refl _ _)).u4.u4.u4.u4.u1,v59,(Hp.conv (pC.sub (sQ sR)) QU),trivial⟩
  rintro v3 aPG w64 ax6 Cg-
  simp only[z2,gL,pull]at Cg
  have atr:=ax6.t1 17 ai9
  refine ax<|V (ay atr O J)<|mI rfl<|aa<| ?_
  refine⟨(k+1,v3),aZ,(((tR.u O).t ax6 O)).u1.u1,(Hp.conv Cg aN),(aK I aN),J,J⟩
 refine a7 (id:=0) rfl<|SR<|aE aiM<|aE (v:=I 0) rfl<|aa<|aC<|have Il:k.toNat=(pts r).toNat:=J;?_
 rw[Il]at iL
 refine bj (G:=Int×Value×(List RC)×(List a8)) (fun⟨i,v2,rs,Z1⟩ s' w'=>(Fr (rg 4 5 (rg 37 76 [])) _ s')/\(Hp W0 w' (_:: .row v2 100 1 rs.length (rs.map RC.v):: .blk b (.cells (kZ r 0 1 (v1) (v2)).toArray 212 (0,0))::Z1))/\(s' 37=I i)/\(0<=i)/\(i<=pts r)/\(rs.map RC.l=EB r (pts r).toNat i.toNat)/\(∃Zr,Z1=Zr++L/\∀x∈rs,pw (Kz KN Zr) x.v 1 x.l.length (x.l.map U))/\(rs.length=i.toNat)) (fun⟨i,v2,rs,Z1⟩=>(pts r-i).toNat) ((0,.slice none 0 0,[],L)) ⟨Fr.refl _ _,iL,rfl,J,J,rfl,⟨[],rfl,fun x hx=>by cases hx⟩,rfl⟩ ?_
 rintro⟨i,v2,rs,Z1⟩ aPH w65 ⟨att,AX,Zd,i0,hi,hrs,hZ,hln⟩
 have atu:=att.w1 36
 obtain⟨ax7,apE⟩:=att.t2 0 lO 2 aiM
 obtain⟨Zr,rfl,hE⟩:=hZ
 refine SR<|V (aL Zd atu)<|aa<|ah<|aF O (fun h67=> ?_) (fun h67=> ?_)
 .refine ak<|ah<|aC<|SR<|aE Zd<|aI rfl<|aa<|SR<|aE apE<|Xt O AX (f:=fun b=>(.slice (some ⟨b,0,none⟩) (pts r).toNat (pts r).toNat)) (O3 (cl:=fun x:BitVec 64=>[U x]) (sz:=1) (z0:=0#64) (n:=(pts r).toNat) (fun _=>rfl) aD cS O O aM O (aK I (show _=(((pts r).toNat:Nat):Int)from by omega)) (aK I (show _=(((pts r).toNat:Nat):Int)from by omega)) (by show 8*_<=_;omega) jU)<|fun b68 w69 vk=> ?_
  rw[mk_zero (r:=r) (i:=i)]at vk
  have aja:=vk.Ei (pts r).toNat 1 (by rw[gj,Bq,kP]) jU
  refine V (run_assign bG) ?_
  refine aa<|ah<|SR<|aE apE<|aE (v:=I 0) rfl<|aa<|aC<|bj (G:=Int) (fun j s' w'=>(Fr (rg 6 3 (rg 43 59 [])) _ s')/\(Hp W0 w' (.row (.slice (some ⟨b68,0,none⟩) (pts r).toNat (pts r).toNat) 35 1 (pts r).toNat ((zj r i (pts r).toNat j.toNat).map U)::_))/\(s' 43=I j)/\(0<=j)/\(j<=pts r)) (fun j=>(pts r-j).toNat) (0) ⟨Fr.refl _ _,aja,rfl,J,J⟩<| ?_
  rintro j aPI w72 ⟨ajb,ajc,Sr,j0,hj⟩
  obtain⟨apF,ajd,atv⟩:=ajb.w3 4 5 42
  obtain⟨DL,atw⟩:=ajb.t2 0 ax7 37 Zd
  refine SR<|V (aL Sr atv)<|aa<|ah<|aF O (fun h74=> ?_) (fun h74=> ?_)
  .refine ak<|ah<|aC<|SR<|aE Sr<|aI rfl<|aa<|ah<|gY aM ajc (sQ sR)<|fun w75 qS=>have pY:=qS.sub (sQ sR);AQ 0 O pY (run_move ajd)<|AQ 1 O pY (mV (I _) O)<|AQ 2 O pY (run_move DL)<|AQ 3 O pY (af O)<|AQ 4 O pY (fA mF 68 O iN O)<|AT 5 O pY (fun w hS=>au cS O O (hS.cell (i:=2) O Dx))<|AQ 6 O pY (run_move apF)<|AT 7 O pY (fun w hS=>ag (hS.sl (i:=0) O) cS c8 O O J)<|AT 8 O pY (fun w hS=>au dW O O (rJ (hS.sl (i:=0) O) J))<|AQ 9 O pY (run_move DL)<|AQ 10 O pY (af O)<|AQ 11 O pY (fA mF 68 O iN O)<|AT 12 O pY (fun w hS=>au cS O O (hS.cell (i:=2) O Dx))<|AQ 13 O pY (mV (I _) O)<|AT 14 O pY (fun w hS=>ag (hS.sl (i:=0) O) cS c8 O O J)<|AT 15 O pY (fun w hS=>au dW O O (rJ (hS.sl (i:=0) O) J))<|AQ 16 O pY (jC O O)<|A1 17<|cf O aH O qS (sQ sR) (ag (qS.sl (i:=0) O) cS c8 O O J)<|A1 18<|arB (u:=U _) O aH qS (i:=0) O (fun _=>(sQ sR)) J O O O O O J<|fun w81 tC=> ?_
   simp only[z2,gL,pull]at tC
   rw[BI aeF,Fz,kP]at tC
   refine AD<|ah<|eF aM tC<|fun w83 oc=>have qT:=oc;AQ 0 O qT (run_move DL)<|AQ 1 O qT (af O)<|AQ 2 O qT (fA mF 0 O jR O)<|AT 3 O qT (fun w hS=>HC bQ O O O (hS.blk (i:=3) O))<|AQ 4 O qT (run_move DL)<|AQ 5 O qT (run_move DL)<|AQ 6 O qT (af O)<|AQ 7 O qT (fA mF 68 O iN O)<|AT 8 O qT (fun w hS=>au cS O O (hS.cell (i:=3) O Dx))<|AQ 9 O qT (run_move apF)<|AT 10 O qT (fun w hS=>ag (hS.sl (i:=1) O) cS c8 O O J)<|AT 11 O qT (fun w hS=>au dW O O (rJ (hS.sl (i:=1) O) J))<|AQ 13 O qT (run_move DL)<|AQ 14 O qT (run_move DL)<|AQ 15 O qT (af O)<|AQ 16 O qT (fA mF 68 O iN O)<|AT 17 O qT (fun w hS=>au cS O O (hS.cell (i:=3) O Dx))<|AQ 18 O qT (mV (I _) O)<|AT 19 O qT (fun w hS=>ag (hS.sl (i:=1) O) cS c8 O O J)<|AT 20 O qT (fun w hS=>au dW O O (rJ (hS.sl (i:=1) O) J))<|A1 12<|cJ O aH O oc sR (k8 _ _ _ _ _ _ _ _ (oc.blk (i:=3) O) (oc.sl (i:=1) O)) (aJ call174 O O)<|fun w85 vX=>A1 21<|cJ O aH O vX sR (k8 _ _ _ _ _ _ _ _ (vX.blk (i:=3) O) (vX.sl (i:=1) O)) (aJ call174 O O)<|fun w87 EO=>A1 22<|cJ O aH O EO sR (zG _ _ _ _ (hT.hp EO)) (bB call168 O O O)<|fun w89 tD=>have aje:=tD;?_
   refine AQ 23 O aje (run_move bG) ?_
   refine AQ 24 O aje (bA O (v:=I _) O)<|AQ 25 O aje (bA O (v:=B _) O)<|AQ 26 O aje (aV (I _) O)<|AQ 27 O aje (aV (B _) O)<|AD<|SR<|mB rfl<|aa<|bY O (fun h92=> ?_) (fun h92=> ?_)
   .refine ax<|aE ajd<|mI rfl<|aE DL<|V (af O)<|V (fA mF 68 O iN O)<|V (au cS O O (tD.cell (i:=3) O Dx))<|mI rfl<|V (ag (tD.sl (i:=1) O) cS c8 O O aev)<|V (au dW O O (rJ (tD.sl (i:=1) O) aev))<|V (ag (tD.sl (i:=0) O) cS c8 O O J)<|za (u:=U _) tD (i:=0) O J O O O O O J<|fun w93 vY=> ?_
    simp only[z2,gL,pull]at vY
    rw[BI aeF,Fz,kP]at vY
    refine aa<|ax<|V (ay Sr O J)<|mI rfl<|aa<| ?_
    refine⟨j+1,aZ,ajb.u4.u4.u4.u4.u4.u4.u4.u4.u4.u4.u4.u4.u4.u4.u4.u1.u1,(Hp.conv vY (by rw[acG J (acD ‹_=true›).symm];done)),(aK I aN),J,J⟩
   refine ak<|ax<|V (ay Sr O J)<|mI rfl<|aa<| ?_
   refine⟨j+1,aZ,ajb.u4.u4.u4.u4.u4.u4.u4.u4.u4.u4.u4.u4.u4,(Hp.conv tD (by rw[Ur J (ag1 ‹_=false›).symm];done)),(aK I aN),J,J⟩
  refine a7 (id:=4) rfl<|ax<|aE DL<|aE DL<|V (af O)<|V (fA mF 69 O sizeOf210 O)<|V (au Ko O O (ajc.cell (i:=3) O aoJ))<|aE ajd<|yd 1 1 ajc (aci (v:=(.slice (some ⟨b68,0,none⟩) (pts r).toNat (pts r).toNat)) O Ko O O O O)<|fun b97 w95 vx=> ?_
  (try simp only[oX]at vx)
  refine jX O vx (i:=3) O (vx.dQ (i:=0) (n:=1) (sz:=1) O O aD) O O Ko O O (size:=1) (bytes:=24) O O O aD kq J jU<|fun v98 w99 vp=> ?_
  simp only[z2,gL,pull]at vp
  refine V (af O)<|V (fA mF 69 O sizeOf210 O)<|bu vp (i:=4) O (bL O O (v:=v98) O (aS (vp.get (i:=3) O)).1 (aS (vp.get (i:=3) O)).2 (vp.blk (i:=4) O) KE)<|fun aFq IE=> ?_
  simp only[z2,gL,pull]at IE
  rw[ag3]at IE
  refine aa<|ax<| ?_
  rw[show j.toNat=(pts r).toNat by omega]at IE
  obtain⟨atx,aya,ayb,-⟩:=(IE.pj [1]).XJ (KN)
  have vz:Hp _ aFq (_::_::_::_::(atx++(Zr++L))):=aya.JI (L:=[_,_,_,_]) (L':=(Zr++L))
  refine V (ay atw O J)<|mI rfl<|aa<| ?_
  refine⟨(i+1,v98,rs++[RC.mk (.slice (some ⟨b68,0,none⟩) (pts r).toNat (pts r).toNat) (zj r i (pts r).toNat (pts r).toNat)],(atx++(Zr++L))),aZ,(((att.u4.u4).t ajb O)).u4.u4.u4.u1,(Hp.conv (vz.sub (sQ sR)) (by simp only[gA,cV,lf,Bd,gk];done)),(aK I aN),J,J,?_,?_,?_⟩
  .rw[gA,hrs,Yg i0];rfl
  .exact⟨atx++Zr,(dg _ _ _).symm,ag6 hE ayb⟩
  rw[cV,gk];omega
 refine a7 (id:=2) O ?_
 obtain⟨anx,ayc,ayd,-⟩:=AX.XJ (KN)
 have P0:Hp _ w65 (_::_::(anx++(Zr++L))):=ayc.JI (L:=[_,_]) (L':=(Zr++L))
 obtain⟨aye,ayf,ayg,-⟩:=P0.XJ (KN)
 have DM:Hp _ w65 (_::(aye++(anx++(Zr++L)))):=ayf.JI (L:=[_]) (L':=(anx++(Zr++L)))
 have ei:i=pts r:=J
 rw[show i.toNat=(pts r).toNat by omega]at hrs
 have hTV:HB (Kz KN (aye++(anx++Zr))) r v1 v2 rs:=⟨ayd.mono (Le.zz (fun x hx=>(bt _ (dx _ hx)))),ayg.mono (Le.zz (fun x hx=>(dx _ hx))),fun x hx=>(hE x hx).mono (Le.zz (fun x hx=>(bt _ (bt _ hx)))),hrs⟩
 exact nW O ⟨rfl,v1,v2,rs,_,hTV,by simpa only[dg]using DM⟩
section
theorem Nk(w:World):(callFunc 259 #[]).run Tryz.prog w= .ok (.value (.tuple #[])) w:=run_call_mark0 func259 aM aM aM .disable aM w
theorem P3(w:World):(callFunc 261 #[]).run Tryz.prog w= .ok (.value (.tuple #[])) w:=run_call_mark0 func261 aM aM aM .enable aM w
theorem Ze(a:Addr)(w:World):(callFunc 262 #[.pointer (some a)]).run Tryz.prog w= .ok (.value (.tuple #[])) w:=run_call_marked func262 aM aM aM .acquire aM a w
theorem ajf(a:Addr)(w:World):(callFunc 264 #[.pointer (some a)]).run Tryz.prog w= .ok (.value (.tuple #[])) w:=run_call_marked func264 aM aM aM .releaseMerge aM a w
theorem ajg(a:Addr)(x:Value)(u:FrameMode)(w:World)(hc:w.cell? a=some x)(hz:w.frozen? a=false):
  CallsD Tryz.prog 237 #[.pointer (some a),.bool true] u w fun e u' w'=>u'=u/\(e= .returned (.tuple #[])/\w'=w.drew.setCell a (.int .u32 1)):=by
 have hc':w.drew.cell? a=some x:=by go_simp
 have hz':w.drew.frozen? a=false:=by go_simp
 have hst:=run_call_store (P:=Tryz.prog) func255 aM aM aM aM (k:= .u32) (y:=1) hc' hz'
 go_enter_d func237,ntmps237
 go_wp2
 go_region_calls
 all_goals(go_end0;exact⟨rfl,rfl⟩)
theorem adu(a:Addr)(u:FrameMode)(w:World)(hc:w.cell? a=some (.int .i32 1))(hz:w.frozen? a=false):
  CallsD Tryz.prog 236 #[.pointer (some a)] u w fun e u' w'=>u'=u/\(e= .returned (.tuple #[])/\w'=w.setCell a (.int .i32 0)):=by
 have hd:=Nk
 have he:=P3
 have hr:=ajf
 have axu:=run_call_add (P:=Tryz.prog) func265 aM aM aM .i32 aM (y:= -1) (s:=0) hc hz (by simp[go_sem];rfl)
 have hcv:=run_convert_to_unsafe (P:=Tryz.prog) (src:=273) (dst:=277) underlying273 underlying277 aM hc
 go_enter_d func236,ntmps236
 go_wp2
 go_end0
 go_wp2
 go_end0
 exact⟨rfl,rfl⟩
theorem anz(a:Addr)(w:World)(hc:w.cell? a=some (.int .i32 0))(hz:w.frozen? a=false):
  Calls Tryz.prog 235 #[.pointer (some a)] w fun e w'=>e= .returned (.tuple #[])/\w'=w.setCell a (.int .i32 1):=by
 have hd:=Nk
 have he:=P3
 have ha:=Ze
 have aPL:=run_call_cas_hit (P:=Tryz.prog) func260 aM aM aM .i32 aM (y:=1) hc hz
 have hc':(w.setCell a (.int .i32 1)).cell? a=some (.int .i32 1):=World.cell?_setCell_same w a _ hc
 have hcv:=run_convert_to_unsafe (P:=Tryz.prog) (src:=273) (dst:=277) underlying273 underlying277 aM hc'
 go_enter func235,ntmps235
 go_wp2
 refine bodyPost_ret (results_none O _ _ _) O ?_
 go_wp2
 go_end0
 exact⟨rfl,rfl⟩
theorem anA{q:Value->World->Prop}{e:Ending}{w:World}(h:iA q e w):∃v,e= .returned v/\q v w:=by
 cases e<;>first|exact⟨_,rfl,h⟩|exact h.elim
set_option maxRecDepth 100000 in
set_option maxHeartbeats 1600000 in
theorem anB(W0 w:World)(b:Nat)(r:Rl)(L:List a8)(hT:oh W0)(hH:Hp W0 w (.blk b (.cells (kZ r 0 0 (.slice none 0 0) (.slice none 0 0)).toArray 212 (0,0))::L)):
  Calls Tryz.prog 207 #[.pointer (some ⟨b,65,none⟩),.func (.func 173) #[.pointer (some ⟨b,0,none⟩)] #[]] w fun e w'=>e= .returned (.tuple #[])/\∃(v1 v2:Value) (rs:List RC) (Z:List a8),HB (Kz KN Z) r v1 v2 rs/\Hp W0 w' (.blk b (.cells (kZ r 1 0 (v1) (v2)).toArray 212 (0,0))::(Z++L)):=by
 have F9:w.cell? ⟨b,65+1,none⟩=some (.int .i32 0):=hH.cell (i:=0) O aoI
 have f66:w.frozen? ⟨b,65+1,none⟩=false:=hH.fz (i:=0) O
 have iL:=hH.setCell (i:=0) (b:=b) (o:=66) (v:= .int .i32 1) O
 simp only[fO,Us]at iL
 have hl:=W7 (P:=Tryz.prog) func234 aM aM aM .u32 aM (w:=w.setCell ⟨b,65+1,none⟩ (.int .i32 1)) (a:=⟨b,65,none⟩) (x:=0) (iL.cell (i:=0) O aao)
 have am4:∀(x:Bool) (w:World),(Op.unary .not (.bool x)).run Tryz.prog w= .ok (.bool (!x)) w:=fun _ _=>rfl
 go_enter_defers func207,ntmps207
 go_wp2_with (go_at_call 235;refine(anz ⟨b,65+1,none⟩ _ F9 f66).mono ?_;rintro e w' ⟨rfl,rfl⟩)
 go_wp2_with (first|(go_at_call 173;refine(EP W0 b r L _ hT iL).mono ?_;intro e w' hr;obtain⟨v,rfl,rfl,v1,v2,rs,Z,hV,aW⟩:=anA hr)|(go_at_call 206;go_in))
 refine leaves_cons (f:=237) (args:=#[.pointer (some ⟨b,65,none⟩),.bool true]) az (by simp[go_sem])<|(ajg ⟨b,65,none⟩ (.int .u32 0) .returning _ (aW.cell (i:=0) O aao) (aW.fz (i:=0) O)).mono<| ?_
 rintro e u' w'' ⟨rfl,rfl,rfl⟩
 have rY:=aW.drew.setCell (i:=0) (b:=b) (o:=65) (v:= .int .u32 1) O
 simp only[fO,ag4]at rY
 refine leaves_cons (f:=236) (args:=#[.pointer (some ⟨b,66,none⟩)]) (by simp[settle]) (by simp[go_sem])<|(adu ⟨b,66,none⟩ _ _ (rY.cell (i:=0) O aoI) (rY.fz (i:=0) O)).mono<| ?_
 rintro e u' w'' ⟨rfl,rfl,rfl⟩
 have gE:=rY.setCell (i:=0) (b:=b) (o:=66) (v:= .int .i32 0) O
 simp only[fO,Us]at gE
 simp[Leaves,settle,results,results207]
 exact⟨v1,v2,rs,Z,hV,gE⟩
set_option maxRecDepth 100000 in
set_option maxHeartbeats 1600000 in
theorem ajh(W0 w:World)(b:Nat)(r:Rl)(L:List a8)(hT:oh W0)(hH:Hp W0 w (.blk b (.cells (kZ r 0 0 (.slice none 0 0) (.slice none 0 0)).toArray 212 (0,0))::L)):
  Calls Tryz.prog 172 #[.pointer (some ⟨b,65,none⟩),.func (.func 173) #[.pointer (some ⟨b,0,none⟩)] #[]] w fun e w'=>e= .returned (.tuple #[])/\∃(v1 v2:Value) (rs:List RC) (Z:List a8),HB (Kz KN Z) r v1 v2 rs/\Hp W0 w' (.blk b (.cells (kZ r 1 0 (v1) (v2)).toArray 212 (0,0))::(Z++L)):=by
 have hl:=W7 (P:=Tryz.prog) func234 aM aM aM .u32 aM (hH.cell (i:=0) O aao)
 have am4:∀(x:Bool) (w:World),(Op.unary .not (.bool x)).run Tryz.prog w= .ok (.bool (!x)) w:=fun _ _=>rfl
 go_enter func172,ntmps172
 go_wp2_with (first|(go_at_call 207;refine(anB W0 _ b r L hT hH).mono ?_;rintro e w' ⟨rfl,hq⟩)|(go_at_call 206;go_in))
 go_end0
 exact⟨rfl,hq⟩
theorem anC(w:World)(b:Nat)(fv:Value)(h0:w.cell? ⟨b,65,none⟩=some (.int .u32 1)):
  Calls Tryz.prog 172 #[.pointer (some ⟨b,65,none⟩),fv] w fun e w'=>e= .returned (.tuple #[])/\w'=w:=by
 have hl:=W7 (P:=Tryz.prog) func234 aM aM aM .u32 aM h0
 have am4:∀(x:Bool) (w:World),(Op.unary .not (.bool x)).run Tryz.prog w= .ok (.bool (!x)) w:=fun _ _=>rfl
 go_enter func172,ntmps172
 go_wp2
 go_end0
 exact⟨rfl,rfl⟩
theorem aty(W0 w:World)(b:Nat)(r:Rl)(Z L:List a8)(hT:oh W0)(hZ:TbZ 212 r b Z)(hH:Hp W0 w (Z++L)):
  Calls Tryz.prog 172 #[.pointer (some ⟨b,65,none⟩),.func (.func 173) #[.pointer (some ⟨b,0,none⟩)] #[]] w (iA fun u w'=>u= .tuple #[]/\∃(v1 v2:Value) (rs:List RC) (Z:List a8),HB (Kz KN Z) r v1 v2 rs/\Hp W0 w' (.blk b (.cells (kZ r 1 0 (v1) (v2)).toArray 212 (0,0))::(Z++L))):=by
 rcases hZ with rfl|⟨v1,v2,rs,Zr,rfl,hV⟩
 .exact(ajh W0 w b r L hT hH).mono fun e w' ⟨he,hq⟩=>by subst he;exact⟨rfl,hq⟩
 exact(anC w b _ (hH.cell (i:=0) O aao)).mono fun e w' ⟨he,hw⟩=>by subst he hw;exact⟨rfl,v1,v2,rs,Zr,hV,hH⟩
end
theorem Db(W0:World)(b:Nat)(r:Rl)(Z L:List a8)(a c:BitVec 64)(w:World)(hT:oh W0)(hZ:TbZ 212 r b Z)(hH:Hp W0 w (Z++L)):Calls Tryz.prog 142 #[.pointer (some ⟨b,0,none⟩),U a,U c] w (iA fun u w'=>u=U (jE r a c)/\∃Z',TbZ 212 r b Z'/\Hp W0 w' (Z'++L)):=by
 refine en func142 rfl rfl<|SR<|va (v:=U 0#64) rfl<|aa<|SR<|aE (v:=Pn _ _) rfl<|V (af O)<|V (fA mF 65 O sizeOf209 O)<|aE (v:=Pn _ _) rfl<|V (ag7 (v:=Pn _ _) O)<|bV O (aty W0 _ b r Z L hT hZ hH) (aJ call172 O O)<| ?_
 rintro _ w1 ⟨rfl,v1,v2,rs,Zr,hV,aW⟩
 have ha:=aoK r a
 have hc:=aoK r c
 have hln:=hV.len
 have hp:=dB r
 refine aa<|SR<|aE (v:=Pn _ _) rfl<|mU rfl<|aG O aW (k8 _ _ _ _ _ _ _ _ (aW.blk (i:=0) O) ((hV.words).mono (aW.kz KN.le (fun x hx=>(mT (dx _ hx))))).sl) (aJ call174 O O)<|fun w3 gE=>aE (v:=Pn _ _) rfl<|mU rfl<|aG O gE (k8 _ _ _ _ _ _ _ _ (gE.blk (i:=0) O) ((hV.words).mono (gE.kz KN.le (fun x hx=>(mT (dx _ hx))))).sl) (aJ call174 O O)<|fun w5 gT=>aI rfl<|aI rfl<|aa<|ah<|SR<|mI rfl<|V (aL O O)<|mB rfl<|bN 23 O (fun h8=> ?_) (fun h8=> ?_)
 .refine aE (v:=B true) rfl<|aa<|cB rfl<|SR<|mU rfl<|mU rfl<|V (jC O O)<|aU rfl<|aa<|aj<|iG O (v:=U (jE r a c)) (jA O (aK U (by exact Pm J))) ⟨rfl,_,.inr ⟨v1,v2,rs,Zr,rfl,hV⟩,gT⟩
 refine mI rfl<|V (aL O O)<|mB rfl<|aa<|aF O (fun h10=> ?_) (fun h10=> ?_)
 .refine SR<|mU rfl<|mU rfl<|V (jC O O)<|aU rfl<|aa<|aj<|iG O (v:=U (jE r a c)) (jA O (aK U (by exact Pm J))) ⟨rfl,_,.inr ⟨v1,v2,rs,Zr,rfl,hV⟩,gT⟩
 refine ak<|SR<|have hrw:=(hV.row (i:=Dv r a) J).1;have hrl:(rs.getD (Dv r a).toNat ru0).l.length=(pts r).toNat:=(by rw[hrw,Bq]);aE (v:=Pn _ _) rfl<|V (af O)<|V (fA mF 69 O sizeOf210 O)<|V (au Ko O O (gT.cell (i:=0) O aoJ))<|mI rfl<|V (ag ((hV.ag5).mono (gT.kz KN.le (fun x hx=>(mT (dx _ hx))))).sl Ko iN O O J)<|V (au cS O O (((hV.ag5).mono (gT.kz KN.le (fun x hx=>(mT (dx _ hx))))).sl.cell _ _ (arM J)))<|mI rfl<|V (ag (((hV.row J).2).mono (gT.kz KN.le (fun x hx=>(mT (dx _ hx))))).sl cS c8 O O J)<|V (au dW O O ((((hV.row J).2).mono (gT.kz KN.le (fun x hx=>(mT (dx _ hx))))).sl.atU J J))<|aU rfl<|aa<|aj<|iG O (v:=U (jE r a c)) (jA O (aK U (by rw[hrw,amf J];exact ag2 J))) ⟨rfl,_,.inr ⟨v1,v2,rs,Zr,rfl,hV⟩,gT⟩
theorem HU(W0:World)(B:Nat)(tb:I0)(tl:List (Nat×Rl))(Z R:List a8)(a c:El)(w:World)(hT:oh W0)(S6:∀i,i<8->∀p,tb i=some p->p∈tl)(hB:Kz (Kw W0) R B (.cells (Ut tb).toArray 199 (0,0)))(hZ:vK 212 tl Z)(hH:Hp W0 w (Z++R)):Calls Tryz.prog 141 #[.agg (jg a),.agg (jg c),.pointer (some ⟨B,0,none⟩)] w (iA fun u w'=>u= .agg (jg (oz tb a c))/\∃Z',vK 212 tl Z'/\Hp W0 w' (Z'++R)):=by
 refine en func141 rfl rfl<|SR<|iu hH (v:= .agg _) rfl<|fun b3 w1 aW=>iu aW (v:= .agg _) rfl<|fun b6 w4 bU=>oY bU (bf jH)<|fun b9 w7 fq=>aa<|ah<|SR<|V (cN (cs:=Ut tb) W8 O O O (bp (fq.kz (Le.refl _) (fun x hx=>(mT (mT (mT (bt _ hx))))) _ _ hB)))<|aE (v:=I 0) rfl<|aa<|aC<|bj (G:=Int×El×(List a8)) (fun⟨k,e1,Z1⟩ s' w'=>(Fr (6::7::(rg 9 25 [])) _ s')/\(Hp W0 w' (_::_:: .blk b3 (.cells (jg e1) 37 (0,0))::Z1))/\(s' 9=I k)/\(0<=k)/\(k<=8)/\(e1=sx (oz tb a c) a k)/\(∃Zt,Z1=Zt++R/\vK 212 tl Zt)) (fun⟨k,e1,Z1⟩=>(8-k).toNat) ((0,a,(Z++R))) ⟨Fr.refl _ _,fq,rfl,J,J,(Fl _ _).symm,⟨_,rfl,hZ⟩⟩<| ?_
 rintro⟨k,e1,Z1⟩ Y2 Gk ⟨rS,bW,Nc,h0,hk,hr,hS⟩
 obtain⟨o3,PV,M7,ayh⟩:=rS.w4 3 4 5 8
 obtain⟨Zt,rfl,hZt⟩:=hS
 refine SR<|V (aL Nc O)<|aa<|ah<|aF O (fun h12=> ?_) (fun h12=> ?_)
 .refine ak<|ah<|aC<|SR<|aE Nc<|V (KT W8 isAgg198 sizeOf198 ayh Nc J (arP _ J))<|aI rfl<| ?_
  refine V (run_assign bG) ?_
  refine aa<|ah<|SR<| ?_
  refine V (run_move bG) ?_
  refine V (Po underlying198 O O)<|aa<|bY O (fun JY=> ?_) (fun JY=> ?_)
  .refine ah<|gY aM bW (sP (sP (sQ (sA sR))))<|fun Wg cG=>have sO:=cG.sub (sP (sP (sQ (sA sR))));AQ 0 O sO (mV (I _) O)<| ?_
   refine AQ 1 O sO (run_move bG) ?_
   refine AQ 2 O sO (mV (I _) O)<|AQ 3 O sO (bC cI c8 o3 O J)<|AQ 5 O sO (mV (I _) O)<|AQ 6 O sO (bC cI c8 PV O J)<|tV 7 O sO dW 1 O O (ng _ J)<|A1 4<|cf O aH O cG (sP (sP (sQ (sA sR)))) (au dW O O (cG.cell (i:=2) O (ng _ J)))<|A1 8<| ?_
   obtain⟨⟨bi,ri⟩,hi⟩:=Option.isSome_iff_exists.1 ‹(tb k.toNat).isSome=true›
   obtain⟨z27,Y22,aFt,aFu,ayi⟩:=hZt.pick (S6 _ J _ hi)
   refine th O aH O (Db W0 bi ri z27 (Y22++([_,_,_]++R)) _ _ _ hT aFt (Hp.awO (A:=[_,_,_]) cG aFu)) (bB call142 (aK ag8 hi) O O) (fun u w' ⟨_,z',hz',h⟩=>let⟨Z',_,q2⟩:=ayi z' hz';Hp.sub (L:=_::_::_::(Z'++R)) (Hp.aoL (A:=[_,_,_]) h q2) (sP (sP (sQ (sA sR))))) ?_
   rintro _ Vv ⟨rfl,z34,aFv,qQ⟩
   obtain⟨ayj,aFw,aFx⟩:=ayi z34 aFv
   have jN:Hp _ Vv (_::_::_::(ayj++R)):=Hp.aoL (A:=[_,_,_]) qQ aFx
   refine AQ 9 O (jN.sub (sP (sP (sQ (sA sR))))) (bC cI c8 o3 O J)<|A1 10<|ec O aH jN (j:=2) O (sP (sP (sQ (sA sR)))) (bL O O (v:=U _) O O O (jN.blk (i:=2) O) Ed)<|fun w37 vV=> ?_
   rw[yW]at vV
   refine AD<|a7 (id:=1) rfl<|ax<|V (ay Nc O J)<|mI rfl<|aa<| ?_
   refine⟨(k+1,_,(ayj++R)),aZ,rS.u4.u4.u4.u4.u1.u1.u1,vV,(aK I aN),J,J,?_,?_⟩
   .exact arQ hr h0 hi
   exact⟨_,rfl,aFw⟩
  refine ak<|gY aM bW (sP (sP (sQ sR)))<|fun w39 n8=>have vA:=n8.sub (sP (sP (sQ sR)));AQ 0 O vA (mV (I _) O)<|AQ 1 O vA (bC cI c8 o3 O J)<|AQ 3 O vA (mV (I _) O)<|AQ 4 O vA (bC cI c8 PV O J)<|tV 5 O vA dW 1 O O (ng _ J)<|A1 2<|cf O aH O n8 (sP (sP (sQ sR))) (au dW O O (n8.cell (i:=2) O (ng _ J)))<|AQ 6 O vA (jC O O)<|AQ 7 O vA (bC cI c8 o3 O J)<|A1 8<|ec O aH n8 (j:=2) O (sP (sP (sQ sR))) (bL O O (v:=U _) O O O (n8.blk (i:=2) O) Ed)<|fun w45 rT=> ?_
  rw[yW]at rT
  refine AD<|ax<|V (ay Nc O J)<|mI rfl<|aa<| ?_
  refine⟨(k+1,_,(Zt++R)),aZ,rS.u4.u4.u4.u4.u1,rT,(aK I aN),J,J,?_,?_⟩
  .exact awP hr h0 ‹(tb k.toNat).isSome=false›
  exact⟨_,rfl,hZt⟩
 refine a7 (id:=0) rfl<|SR<|V (dR cI O O o3 (bW.blk (i:=2) O))<|bu bW (i:=0) O (ey O M7 O (bW.blk (i:=0) O))<|fun w47 mW=>aa<|aj<|wu O M7 mW (i:=0) O cI O m5 ⟨aK Value.agg (rB Xj),Zt,hZt,mW.sub (sQ (sQ (sQ sR)))⟩
theorem Nl(s:kX)(w:World)(hs:lB (Kw w) s):Calls Tryz.prog 98 #[.agg (rD s)] w (iA fun u w'=>∃(B:Nat) (tb:I0) (tl:List (Nat×Rl)) (Zt:List a8),u= .func (.func 141) #[] #[.pointer (some ⟨B,0,none⟩)]/\aha s.sh tb/\(∀i,i<8->∀p,tb i=some p->p∈tl)/\vK 212 tl Zt/\Hp w w' (Zt++[.blk B (.cells (Ut tb).toArray 199 (0,0))])):=by
 have HR:=hs.aY.small
 unfold maxLen at HR
 refine eH func98 rfl rfl fun hH=>SR<|iu hH (v:= .agg _) rfl<|fun b3 w1 aW=>va (v:= .nilFunc) rfl<|aa<|SR<|oY aW (bf Tryz.zeroValue199)<|fun b6 w4 bU=>aa<|ah<|SR<|V (fA dL 1 O gV O)<|lV dG bU 1 O O rfl<|V (aA (hs.aY.sl.hp bU) O dG O)<|aE (v:=I 0) rfl<|aa<|aC<|bj (G:=Int×(List (Nat×Rl))×I0×(List a8)) (fun⟨k,tl,tb,Z⟩ s' w'=>(Fr (4::5::(rg 9 19 [])) _ s')/\(Hp w w' (.blk b6 (.cells ((Ut tb).toArray) 199 (0,0))::_::Z))/\(s' 9=I k)/\(0<=k)/\(k<=s.aY.length)/\(HD s.sh k tb)/\(∀i,i<8->∀p,tb i=some p->p∈tl)/\(vK 212 tl Z)) (fun⟨k,tl,tb,Z⟩=>(s.aY.length-k).toNat) ((0,[],tb0,[])) ⟨Fr.refl _ _,bU,rfl,J,J,HD.start _,(fun i _ p hp=>(by cases hp)),rfl⟩<| ?_
 rintro⟨k,tl,tb,Z⟩ sg7 w7 ⟨E2,eD,Ol,h0,hk,hTo,S6,hZ⟩
 obtain⟨ads,aFy,atz⟩:=E2.w3 3 7 8
 refine SR<|V (aL Ol atz)<|aa<|ah<|aF O (fun h9=> ?_) (fun h9=> ?_)
 .refine ak<|ah<|aC<|SR<|aE Ol<|V (ag (hs.aY.sl.hp eD) dG s7 aFy Ol J)<|V (dY (dv:=kF) fJ (hs.aY.sl.hp eD) dI O O O J)<|oY eD (bf vb)<|fun b12 Gk dF=>aI rfl<|bu dF (i:=0) O (uh (hs.at J J) O O O (dF.blk (i:=0) O))<|fun C7 cF=>aa<|SR<|mI rfl<|V (aL O O)<|mB rfl<|bN 16 O (fun yj=> ?_) (fun yj=> ?_)
  .refine V (fA dI 0 O bz O)<|lI bx cF 0 O O rfl<|V (bX O O)<|mB rfl<|aa<|aF O (fun pW=> ?_) (fun pW=> ?_)
   .refine ax<|mI rfl<|V (fA dI 2 O jR O)<|V (j3 bQ O O O (cF.blk (i:=0) O))<|V (dO (vs:=[(0,.agg (dM _))]) O (ade _))<|iu cF (v:= .agg _) rfl<|fun b21 Vo cL=>V (bC W8 sizeOf198 ads O J)<|bu cL (i:=2) O (bL O O (v:=Pn _ _) O O O (cL.blk (i:=2) O) (by rw[ur,amh];omega))<|fun S5 eN=> ?_
    rw[ag9 tb (s.aY.getD k.toNat kF).rel]at eN
    have oF:Hp _ S5 (_::_::_::([a8.blk b21 (.cells (kZ (s.aY.getD k.toNat kF).rel 0 0 (.slice none 0 0) (.slice none 0 0)).toArray 212 (0,0))]++Z)):=Hp.JI (Z:=[a8.blk b21 (.cells (kZ (s.aY.getD k.toNat kF).rel 0 0 (.slice none 0 0) (.slice none 0 0)).toArray 212 (0,0))]) (L:=[_,_,_]) (L':=Z) eN
    refine aa<|ax<|V (ay Ol O J)<|mI rfl<|aa<| ?_
    refine⟨(k+1,((b21,(s.aY.getD k.toNat kF).rel)::tl),Uu tb k.toNat (b21,(s.aY.getD k.toNat kF).rel),([a8.blk b21 (.cells (kZ (s.aY.getD k.toNat kF).rel 0 0 (.slice none 0 0) (.slice none 0 0)).toArray 212 (0,0))]++Z)),aZ,E2.u4.u4.u4.u4.u4.u1,(Hp.conv (oF.sub (sQ sR)) aN),(aK I aN),J,J,?_,?_,?_⟩
    .exact hTo.put h0 (by rw[tg];omega) (by rw[mH];assumption) (by rw[mH];rfl)
    .exact amj S6
    exact vK.cons hZ
   refine ak<|ax<|V (ay Ol O J)<|mI rfl<|aa<| ?_
   refine⟨(k+1,tl,tb,Z),aZ,E2.u4.u4.u4.u1.u1.u1,(Hp.conv (cF.sub (sQ sR)) aN),(aK I aN),J,J,?_,?_,?_⟩
   .exact hTo.skip h0 aes
   .exact S6
   exact hZ
  refine aE (v:=B false) rfl<|aa<|dh rfl<|ak<|ax<|V (ay Ol O J)<|mI rfl<|aa<| ?_
  refine⟨(k+1,tl,tb,Z),aZ,E2.u4.u4.u4.u1.u1.u1,(Hp.conv (cF.sub (sQ sR)) aN),(aK I aN),J,J,?_,?_,?_⟩
  .exact hTo.skip h0 aes
  .exact S6
  exact hZ
 refine a7 (id:=0) rfl<|SR<|V (Bw ads)<|va (v:= .func _ _ _) rfl<|aa<|aj<|iG rfl (v:= .func (.func 141) #[] #[.pointer (some ⟨b6,0,none⟩)]) rfl ⟨b6,tb,tl,Z,rfl,hTo.all (by rw[tg];omega),S6,hZ,(eD.sub (sP (sQ sR))).perm (sW (l₁:=[_]))⟩
theorem lJ(W0:World)(m off:Nat)(C:Array Value)(te:TypeId)(x:Int)(L:List a8)(hx: -9000000000000000000<=x/\x<=9000000000000000000)(hc:C[off]?=some (I x))(w:World)(hH:Hp W0 w (.blk m (.cells C te (0,0))::L)):Calls Tryz.prog 61 #[.pointer (some ⟨m,off,none⟩),I 1] w (iA fun u w'=>u=I (x+1)/\Hp W0 w' (.blk m (.cells (C.setIfInBounds off (I (x+1))) te (0,0))::L)):=by
 refine en func61 rfl rfl<|SR<|va (v:=I 0) rfl<|aa<|SR<|aE (v:=Pn _ _) rfl<|V (af O)<|V (fA underlying133 0 O sizeOf2 O)<|mI rfl<|V (Yh (run_call_add (P:=Tryz.prog) func106 aM aM aM .i64 aM (hH.cell (i:=0) O hc) (hH.fz (i:=0) O) (aml J)) O O)<|have aW:=hH.setCell (i:=0) (b:=m) (o:=off) (v:=I (x+1)) rfl;?_
 simp only[fO]at aW
 refine aI rfl<|aa<|aj<|iG O (v:=I (x+1)) O ⟨rfl,aW⟩
theorem nT(m:Nat)(c:Cn)(w:World)(hb:w.heap[m]?=some (.cells #[B true,I c.e,I c.l,I c.j] 135 (0,0))):Calls Tryz.prog 60 #[.pointer (some ⟨m,0,none⟩)] w (Pure (B true) w):=by
 refine eH func60 rfl rfl fun hH=>SR<|va (v:=B false) rfl<|aa<|SR<|aE (v:=Pn _ _) rfl<|V (Po (o:=some (_,Rl.none)) D6 O O)<|mB rfl<|cC O rfl<|aE (v:=Pn _ _) rfl<|V (af O)<|V (fA QC 0 O mG O)<|V (au qb O O (hH.ed hb (v:=B _) O))<|mB rfl<|aB rfl<|aa<|aj<|oB O ?_ hH
 rfl
theorem zP(m:Nat)(w:World):Calls Tryz.prog 63 #[.pointer (some ⟨m,0,none⟩)] w (Pure (.pointer (some ⟨m,1,none⟩)) w):=by
 refine eH func63 rfl rfl fun hH=>SR<|va (v:= .pointer none) rfl<|aa<|SR<|aE (v:=Pn _ _) rfl<|V (af O)<|V (fA QC 1 O sizeOf133 O)<|va (v:=Pn _ _) rfl<|aa<|aj<|E7 O ?_ hH.below
 rfl
theorem zQ(m:Nat)(w:World):Calls Tryz.prog 65 #[.pointer (some ⟨m,0,none⟩)] w (Pure (.pointer (some ⟨m,2,none⟩)) w):=by
 refine eH func65 rfl rfl fun hH=>SR<|va (v:= .pointer none) rfl<|aa<|SR<|aE (v:=Pn _ _) rfl<|V (af O)<|V (fA QC 2 O sizeOf133 O)<|va (v:=Pn _ _) rfl<|aa<|aj<|E7 O ?_ hH.below
 rfl
theorem zR(m:Nat)(w:World):Calls Tryz.prog 67 #[.pointer (some ⟨m,0,none⟩)] w (Pure (.pointer (some ⟨m,3,none⟩)) w):=by
 refine eH func67 rfl rfl fun hH=>SR<|va (v:= .pointer none) rfl<|aa<|SR<|aE (v:=Pn _ _) rfl<|V (af O)<|V (fA QC 3 O sizeOf133 O)<|va (v:=Pn _ _) rfl<|aa<|aj<|E7 O ?_ hH.below
 rfl
theorem aji(W0:World)(b2 m:Nat)(c:Cn)(L:List a8)(hc:c.ok)(w:World)(hB:Kz (Kw W0) L b2 (.cells #[pt m] 72 (0,0)))(hH:Hp W0 w (.blk m (.cells #[B true,I c.e,I c.l,I c.j] 135 (0,0))::L)):Calls Tryz.prog 59 #[.func (.func 63) #[] #[],.pointer (some ⟨b2,0,none⟩)] w (iA fun u w'=>u= .tuple #[]/\Hp W0 w' (rL TX m (Kd.e.up c)::L)):=by
 unfold Cn.ok at hc
 refine en func59 rfl rfl<|SR<|V (au D6 rfl rfl (uU (hH.kz (Le.refl _) (fun x hx=>(mT hx)) _ _ hB) (v:=Pn _ _) O))<|aG O hH (nT _ _ _ (hH.blk (i:=0) O)) (aq call60 O)<|fun w1 aW=>aa<|cB rfl<|ax<|aE (v:= .func _ _ _) rfl<|V (au D6 O O (uU (aW.kz (Le.refl _) (fun x hx=>(mT hx)) _ _ hB) (v:=Pn _ _) O))<|aG O aW (zP _ _) (lX call63 (cs:=[]) O O)<|fun w4 bU=>bV O (lJ W0 m 1 _ _ c.e L J O _ bU) (aJ call61 O O)<| ?_
 rintro _ w6 ⟨rfl,eD⟩
 refine aa<|nW O ⟨rfl,eD⟩
theorem ajj(W0:World)(b2 m:Nat)(c:Cn)(L:List a8)(hc:c.ok)(w:World)(hB:Kz (Kw W0) L b2 (.cells #[pt m] 72 (0,0)))(hH:Hp W0 w (.blk m (.cells #[B true,I c.e,I c.l,I c.j] 135 (0,0))::L)):Calls Tryz.prog 59 #[.func (.func 65) #[] #[],.pointer (some ⟨b2,0,none⟩)] w (iA fun u w'=>u= .tuple #[]/\Hp W0 w' (rL TX m (Kd.l.up c)::L)):=by
 unfold Cn.ok at hc
 refine en func59 rfl rfl<|SR<|V (au D6 rfl rfl (uU (hH.kz (Le.refl _) (fun x hx=>(mT hx)) _ _ hB) (v:=Pn _ _) O))<|aG O hH (nT _ _ _ (hH.blk (i:=0) O)) (aq call60 O)<|fun w1 aW=>aa<|cB rfl<|ax<|aE (v:= .func _ _ _) rfl<|V (au D6 O O (uU (aW.kz (Le.refl _) (fun x hx=>(mT hx)) _ _ hB) (v:=Pn _ _) O))<|aG O aW (zQ _ _) (lX call65 (cs:=[]) O O)<|fun w4 bU=>bV O (lJ W0 m 2 _ _ c.l L J O _ bU) (aJ call61 O O)<| ?_
 rintro _ w6 ⟨rfl,eD⟩
 refine aa<|nW O ⟨rfl,eD⟩
theorem ajk(W0:World)(b2 m:Nat)(c:Cn)(L:List a8)(hc:c.ok)(w:World)(hB:Kz (Kw W0) L b2 (.cells #[pt m] 72 (0,0)))(hH:Hp W0 w (.blk m (.cells #[B true,I c.e,I c.l,I c.j] 135 (0,0))::L)):Calls Tryz.prog 59 #[.func (.func 67) #[] #[],.pointer (some ⟨b2,0,none⟩)] w (iA fun u w'=>u= .tuple #[]/\Hp W0 w' (rL TX m (Kd.j.up c)::L)):=by
 unfold Cn.ok at hc
 refine en func59 rfl rfl<|SR<|V (au D6 rfl rfl (uU (hH.kz (Le.refl _) (fun x hx=>(mT hx)) _ _ hB) (v:=Pn _ _) O))<|aG O hH (nT _ _ _ (hH.blk (i:=0) O)) (aq call60 O)<|fun w1 aW=>aa<|cB rfl<|ax<|aE (v:= .func _ _ _) rfl<|V (au D6 O O (uU (aW.kz (Le.refl _) (fun x hx=>(mT hx)) _ _ hB) (v:=Pn _ _) O))<|aG O aW (zR _ _) (lX call67 (cs:=[]) O O)<|fun w4 bU=>bV O (lJ W0 m 3 _ _ c.j L J O _ bU) (aJ call61 O O)<| ?_
 rintro _ w6 ⟨rfl,eD⟩
 refine aa<|nW O ⟨rfl,eD⟩
theorem Cj(W0:World)(b5 b3 b2 m:Nat)(c:Cn)(fe:FuncId)(ae:List Value)(x1 x2:Value)(v u:Value)(ee:El)(bb:Bool)(Y R:List a8)(Q:List a8->Prop)(hc:c.ok)(w:World)(hfe:∀args w,(callFunc fe args).run Tryz.prog w= .ok (.enter fe args) w)(h5:Kz (Kw W0) R b5 (.cells #[jF 59 #[pt b2]] 139 (0,0)))(h2:Kz (Kw W0) R b2 (.cells #[pt m] 72 (0,0)))(h3:Kz (Kw W0) R b3 (.cells #[jF fe ae.toArray,x1,x2] 117 (0,0)))(hin:∀(w1:World) (A:List a8),Hp W0 w1 ((rL TX m (Kd.e.up c)::Y)++(A++R))->Calls Tryz.prog fe (v::u::ae).toArray w1 (iA fun x w'=>x= .tuple #[.agg (jg ee),B bb]/\∃Z',Q Z'/\Hp W0 w' (Z'++(A++R))))(hH:Hp W0 w ((rL TX m c::Y)++R)):Calls Tryz.prog 62 #[v,u,.pointer (some ⟨b5,0,none⟩),.pointer (some ⟨b3,0,none⟩)] w (iA fun x w'=>x= .tuple #[.agg (jg ee),B bb]/\∃Z',Q Z'/\Hp W0 w' (Z'++R)):=by
 refine en func62 rfl rfl<|SR<|oY hH (bf jH)<|fun b3 w1 aW=>va (v:=B false) rfl<|aa<|SR<|V (au W9 O O (uU (aW.kz (Le.refl _) (fun x hx=>(mT (mT (bt _ hx)))) _ _ h5) (v:= .func _ _ _) O))<|have hF4:=Hp.rK (A:=[_]) (Zf:=[_]) (R:=(Y++R)) aW;bV O (aji W0 b2 m c _ hc _ (Le.zz (fun x hx=>bt _ (bt _ hx)) _ _ h2) hF4) (lX call59 (cs:=[pt b2]) O O)<| ?_
 rintro _ w5 ⟨rfl,h6⟩
 have eD:Hp _ w5 (_::_::(Y++R)):=Hp.oq (A:=[_]) (Zf:=[_]) h6
 refine aa<|ah<|SR<|V (fA p9 0 O sizeOf114 O)<|V (au QD O O (uU (eD.kz (Le.refl _) (fun x hx=>(mT (mT (bt _ hx)))) _ _ h3) (v:= .func _ _ _) O))<|V (Uv QD O O)<|aa<|dh rfl<|ak<|SR<|V (fA p9 0 O sizeOf114 O)<|V (au QD O O (uU (eD.kz (Le.refl _) (fun x hx=>(mT (mT (bt _ hx)))) _ _ h3) (v:= .func _ _ _) O))<| ?_
 refine V (run_move bG) ?_
 refine V (run_move bG) ?_
 have hF8:=Hp.rK (A:=[_]) (Zf:=_::Y) (R:=R) eD
 refine bV O (hin _ _ hF8) (iH hfe (cs:=ae) O O O) ?_
 rintro _ w9 ⟨rfl,Z',hq,h10⟩
 have dF:Hp _ w9 (_::(Z'++R)):=Hp.oq (A:=[_]) h10
 refine V (bA O (v:= .agg _) O)<|V (bA O (v:=B _) O)<|bu dF (i:=0) O (ey O O O (dF.blk (i:=0) O))<|fun C7 cF=>aB rfl<|aa<|aj<|O1 O O O cF (i:=0) O cI O m5 ⟨rfl,Z',hq,cF.sub (sQ sR)⟩
theorem Ck(W0:World)(b5 b3 b2 m:Nat)(c:Cn)(fe:FuncId)(ae:List Value)(x1 x2:Value)(a b:El)(bb:Bool)(Y R:List a8)(Q:List a8->Prop)(hc:c.ok)(w:World)(hfe:∀args w,(callFunc fe args).run Tryz.prog w= .ok (.enter fe args) w)(h5:Kz (Kw W0) R b5 (.cells #[jF 59 #[pt b2]] 139 (0,0)))(h2:Kz (Kw W0) R b2 (.cells #[pt m] 72 (0,0)))(h3:Kz (Kw W0) R b3 (.cells #[x1,jF fe ae.toArray,x2] 117 (0,0)))(hin:∀(w1:World) (A:List a8),Hp W0 w1 ((rL TX m (Kd.l.up c)::Y)++(A++R))->Calls Tryz.prog fe (.agg (jg a):: .agg (jg b)::ae).toArray w1 (iA fun x w'=>x=B bb/\∃Z',Q Z'/\Hp W0 w' (Z'++(A++R))))(hH:Hp W0 w ((rL TX m c::Y)++R)):Calls Tryz.prog 64 #[.agg (jg a),.agg (jg b),.pointer (some ⟨b5,0,none⟩),.pointer (some ⟨b3,0,none⟩)] w (iA fun x w'=>x=B bb/\∃Z',Q Z'/\Hp W0 w' (Z'++R)):=by
 refine en func64 rfl rfl<|SR<|iu hH (v:= .agg _) rfl<|fun b3 w1 aW=>iu aW (v:= .agg _) rfl<|fun b6 w4 bU=>va (v:=B false) rfl<|aa<|SR<|V (au W9 O O (uU (bU.kz (Le.refl _) (fun x hx=>(mT (mT (mT (bt _ hx))))) _ _ h5) (v:= .func _ _ _) O))<|have hF7:=Hp.rK (A:=[_,_]) (Zf:=[_]) (R:=(Y++R)) bU;bV O (ajj W0 b2 m c _ hc _ (Le.zz (fun x hx=>bt _ (bt _ hx)) _ _ h2) hF7) (lX call59 (cs:=[pt b2]) O O)<| ?_
 rintro _ w8 ⟨rfl,h9⟩
 have bW:Hp _ w8 (_::_::_::(Y++R)):=Hp.oq (A:=[_,_]) (Zf:=[_]) h9
 refine aa<|SR<|V (fA p9 1 O sizeOf65 O)<|V (au Ku O O (uU (bW.kz (Le.refl _) (fun x hx=>(mT (mT (mT (bt _ hx))))) _ _ h3) (v:= .func _ _ _) O))<|V (Uw Ku O O)<|mB rfl<|cC O rfl<|V (fA p9 1 O sizeOf65 O)<|V (au Ku O O (uU (bW.kz (Le.refl _) (fun x hx=>(mT (mT (mT (bt _ hx))))) _ _ h3) (v:= .func _ _ _) O))<|V (dR cI O O O (bW.blk (i:=1) O))<|V (dR cI O O O (bW.blk (i:=0) O))<|have aFz:=Hp.rK (A:=[_,_]) (Zf:=_::Y) (R:=R) bW;bV O (hin _ _ aFz) (iH hfe (cs:=ae) O O O)<| ?_
 rintro _ B7 ⟨rfl,Z',hq,Vn⟩
 have cF:Hp _ B7 (_::_::(Z'++R)):=Hp.oq (A:=[_,_]) Vn
 refine mB rfl<|aB rfl<|aa<|aj<|iG O (v:=B bb) O ⟨rfl,Z',hq,cF.sub (sQ (sQ sR))⟩
theorem Cl(W0:World)(b5 b3 b2 m:Nat)(c:Cn)(fe:FuncId)(ae:List Value)(x1 x2:Value)(a b:El)(ee:El)(Y R:List a8)(Q:List a8->Prop)(hc:c.ok)(w:World)(hfe:∀args w,(callFunc fe args).run Tryz.prog w= .ok (.enter fe args) w)(h5:Kz (Kw W0) R b5 (.cells #[jF 59 #[pt b2]] 139 (0,0)))(h2:Kz (Kw W0) R b2 (.cells #[pt m] 72 (0,0)))(h3:Kz (Kw W0) R b3 (.cells #[x1,x2,jF fe ae.toArray] 117 (0,0)))(hin:∀(w1:World) (A:List a8),Hp W0 w1 ((rL TX m (Kd.j.up c)::Y)++(A++R))->Calls Tryz.prog fe (.agg (jg a):: .agg (jg b)::ae).toArray w1 (iA fun x w'=>x= .agg (jg ee)/\∃Z',Q Z'/\Hp W0 w' (Z'++(A++R))))(hH:Hp W0 w ((rL TX m c::Y)++R)):Calls Tryz.prog 66 #[.agg (jg a),.agg (jg b),.pointer (some ⟨b5,0,none⟩),.pointer (some ⟨b3,0,none⟩)] w (iA fun x w'=>x= .agg (jg ee)/\∃Z',Q Z'/\Hp W0 w' (Z'++R)):=by
 refine en func66 rfl rfl<|SR<|iu hH (v:= .agg _) rfl<|fun b3 w1 aW=>iu aW (v:= .agg _) rfl<|fun b6 w4 bU=>oY bU (bf jH)<|fun b9 w7 fq=>aa<|SR<|V (au W9 O O (uU (fq.kz (Le.refl _) (fun x hx=>(mT (mT (mT (mT (bt _ hx)))))) _ _ h5) (v:= .func _ _ _) O))<|have aFA:=Hp.rK (A:=[_,_,_]) (Zf:=[_]) (R:=(Y++R)) fq;bV O (ajk W0 b2 m c _ hc _ (Le.zz (fun x hx=>bt _ (bt _ hx)) _ _ h2) aFA) (lX call59 (cs:=[pt b2]) O O)<| ?_
 rintro _ ID ⟨rfl,h12⟩
 have cm:Hp _ ID (_::_::_::_::(Y++R)):=Hp.oq (A:=[_,_,_]) (Zf:=[_]) h12
 refine aa<|ah<|SR<|V (fA p9 2 O sizeOf115 O)<|V (au Kq O O (uU (cm.kz (Le.refl _) (fun x hx=>(mT (mT (mT (mT (bt _ hx)))))) _ _ h3) (v:= .func _ _ _) O))<|V (Uv Kq O O)<|aa<|dh rfl<|ak<|SR<|V (fA p9 2 O sizeOf115 O)<|V (au Kq O O (uU (cm.kz (Le.refl _) (fun x hx=>(mT (mT (mT (mT (bt _ hx)))))) _ _ h3) (v:= .func _ _ _) O))<|V (dR cI O O O (cm.blk (i:=2) O))<|V (dR cI O O O (cm.blk (i:=1) O))<|have aFB:=Hp.rK (A:=[_,_,_]) (Zf:=_::Y) (R:=R) cm;bV O (hin _ _ aFB) (iH hfe (cs:=ae) O O O)<| ?_
 rintro _ Wg ⟨rfl,Z',hq,yj⟩
 have dU:Hp _ Wg (_::_::_::(Z'++R)):=Hp.oq (A:=[_,_,_]) yj
 refine bu dU (i:=0) O (ey O O O (dU.blk (i:=0) O))<|fun PR jy=>aa<|aj<|wu O O jy (i:=0) O cI O m5 ⟨rfl,Z',hq,jy.sub (sQ (sQ (sQ sR)))⟩
theorem Ss(Bk:Nat)(s:kX)(v:Value)(l:List dK)(u:Value)(vs:List El)(hl:l.length<=1000)(w:World)(hs:Sl w v 10 l.length (l.flatMap kg))(ht:Sl w u 8 vs.length (vs.flatMap sU))(hsh:lB (Kw w) s)(hb:w.heap[Bk]?=some (.cells (rD s) 56 (0,0)))(hT:oh w):Calls Tryz.prog 95 #[v,u,.pointer (some ⟨Bk,0,none⟩)] w (Pure (.tuple #[.agg (jg (fP s.sh l vs).1),B (fP s.sh l vs).2]) w):=by
 refine eH func95 rfl rfl fun hH=>SR<|oY hH (bf jH)<|fun b3 w1 aW=>va (v:=B false) rfl<|aa<|SR<|V (cN (cs:=[B _,_]) dL O O O (bp (aW.ext hb)))<| ?_
 refine V (run_move bG) ?_
 refine V (run_move bG) ?_
 refine aG O aW (VK _ _ _ _ _ J _ (hs.hp aW) (ht.hp aW) (hsh.mono aW.kw) (hT.hp aW)) (bB call96 O O O)<|fun w4 bU=>V (bA O (v:= .agg _) O)<|V (bA O (v:=B _) O)<|bu bU (i:=0) O (ey O O O (bU.blk (i:=0) O))<|fun w7 fq=>aB rfl<|aa<|aj<|O1 O O O fq (i:=0) O cI O m5 ⟨?_,fq.below⟩
 rfl
theorem Nn(K:Vu)(s:kX)(hfn:s.aY.length<=1000)(hnn:∀f∈s.aY,f.names.length<=1000)(w:World)(hK:Le K (Kw w))(hs:lB K s):Calls Tryz.prog 52 #[.agg (rD s)] w (iA fun u w'=>∃(f1 f2 f3:FuncId) (a1 a2 a3:Array Value) (p:kX) (tb:I0) (tl:List (Nat×Rl)) (Zt Z:List a8),u= .agg #[jF f1 a1,jF f2 a2,jF f3 a3]/\AA TX (Kz K Z) (.base p tb) (jF f1 a1) (jF f2 a2) (jF f3 a3)/\p.sh=s.sh/\aha p.sh tb/\(∀i,i<8->∀q,tb i=some q->q∈tl)/\vK 212 tl Zt/\Hp w w' (Zt++Z)):=by
 refine eH func52 rfl rfl fun hH=>SR<|iu hH (v:= .agg _) rfl<|fun b3 w1 aW=>oY aW (bf Vi)<|fun b6 w4 bU=>aa<|SR<|V (cN (cs:=[B _,_]) dL O O O (bp (bU.blk (i:=1) O)))<|yd 1 1 bU (LH QB O O O (l:=[s]) O aD aD O)<|fun b9 w7 fq=>XK O fq (Ap K (.slice (some ⟨b9,0,none⟩) 1 1) [s] (show 1<=1000 by decide) (by simpa using hfn) (by simpa using hnn) _ (hK.trans fq.kw) (Hp.oy LF fq (i:=0) (l:=[s]) O (show 1<=maxLen by decide)) ⟨fun x hx=>by rw[fZ.1 hx];exact hs⟩) (aq call51 O)<|fun v12 C7 Z15 cF aFC=>have dU:Hp _ C7 (_::_::_::Z15):=cF.aDD (L:=[_,_,_]);?_
 obtain⟨p18,rfl,ayk,atA⟩:=aFC
 refine oY dU (bf Tryz.zeroValue56)<|fun b23 Og dm=>bu dm (i:=0) O (Ht atA O O O (dm.blk (i:=0) O) O)<|fun w24 oG=>aa<|SR<|V (fA dL 0 O mG O)<|V (au qb O O (oG.cell (i:=3) O (v:=B _) O))<|V (fA dL 0 O mG O)<|bu (c':=#[B s.tuple,p18.fv]) oG (i:=0) O (bL (off:=0+0) O O (v:=B s.tuple) O O O (oG.blk (i:=0) O) az)<|fun w27 jL=>have Wh:lB _ ⟨s.tuple,p18.fv,p18.aY⟩:=⟨atA.aY,atA.each⟩;aa<|SR<| ?_
 refine V (Bw bG) ?_
 refine V (cN (cs:=[B _,_]) dL O O O (bp (jL.blk (i:=0) O)))<|bV O (Nl ⟨s.tuple,p18.fv,p18.aY⟩ _ (Wh.mono (jL.kz hK (fun x hx=>(mT (mT (mT (mT hx)))))))) (aq call98 O)<| ?_
 rintro _ w33 ⟨ayl,aym,aFD,ajm,rfl,ayn,ayo,ayp,h37⟩
 have vV:Hp _ w33 (_::_::_::_::((ajm++[_])++Z15)):=Hp.oq (A:=[_,_,_,_]) (Zf:=ajm++[_]) (R:=Z15) (jL.Fj h37)
 refine V (dO (vs:=[(0,jF _ _),(1,jF _ _),(2,jF _ _)]) O (adf _ _ _ _ _ _))<|bu vV (i:=2) O (eC O O O (by simp[Value.oneCell',pt,jF]) (vV.blk (i:=2) O) O)<|fun w39 n8=>aa<|aj<|have jM:Hp _ w39 (_::_::_::([a8.blk b23 (.cells ([B s.tuple,p18.fv]).toArray 56 (0,0))]++((ajm++[_])++Z15))):=Hp.JI (Z:=[a8.blk b23 (.cells ([B s.tuple,p18.fv]).toArray 56 (0,0))]) (L:=[_,_,_]) (L':=((ajm++[_])++Z15)) n8;wu O O jM (i:=1) O p9 O O ⟨_,_,_,_,_,_,⟨s.tuple,p18.fv,p18.aY⟩,aym,aFD,ajm,([a8.blk b23 (.cells ([B s.tuple,p18.fv]).toArray 56 (0,0))]++([a8.blk ayl (.cells (Ut aym).toArray 199 (0,0))]++Z15)),rfl,⟨b23,ayl,rfl,rfl,rfl,.inr az,Wh.mono (Le.zz fun x hx=>qg),.inr az⟩,?_,ayn,ayo,ayp,?_⟩
 .have hq:=aK Sh.aY ayk;simp only[z8,tH,List.flatMap_nil,kV]at hq
  show(⟨s.tuple,p18.aY.map pU.fc⟩:Sh)=s.sh;rw[show p18.aY.map pU.fc=s.sh.aY from hq];rfl
 exact(jM.sub (sQ (sQ (sQ sR)))).perm (by rw[dg];exact we _ _ _)
section
theorem ayq{K:Vu}{d:Wr}{e l j:Value}(h:AA TX K d e l j):arR Tryz.prog e:=by
 cases d with
 |base p tb=>obtain⟨B1,B2,rfl,rfl,rfl,-⟩:=h;exact⟨_,_,rfl,call95⟩
 |wrap m d=>obtain⟨b2,b3,b5,e',l',j',rfl,rfl,rfl,-⟩:=h;exact⟨_,_,rfl,call62⟩
theorem ajn(W0:World)(ids:List Nat)(tl:List (Nat×Rl))(hT:oh W0)(v:Value)(il:List dK)(u:Value)(vs:List El)(hil:il.length<=1000)(d:Wr):∀(n:Nat) (f:Ct) (Z R:List a8) (e l j:Value) (w:World),AA TX (Kz (Kw W0) R) d e l j->d.Ek ids tl->kA (AH fr) ids f tl Z->EC n f->n+d.dep<=1000000000000->(∀Z' w',Hp W0 w' (Z'++R)->Sl w' v 10 il.length (il.flatMap kg))->(∀Z' w',Hp W0 w' (Z'++R)->Sl w' u 8 vs.length (vs.flatMap sU))->Hp W0 w (Z++R)->
  zk Tryz.prog e [v,u] w (iA fun x w'=>x= .tuple #[.agg (jg (fP d.sh.sh il vs).1),B (fP d.sh.sh il vs).2]/\∃Z',kA (AH fr) ids (d.tick .e f) tl Z'/\Hp W0 w' (Z'++R)):=by
 induction d with
 |base p tb=>
  intro n f Z R e l j w hO hi hZ hf hn hs ht hH
  obtain⟨B1,B2,rfl,rfl,rfl,h4,h5,h6⟩:=hO
  have hk:=hH.kz (Le.refl _) (Z:=R) fun x hx=>bt _ hx
  refine⟨_,[pt B1],rfl,call95,?_⟩
  exact(Ss B1 p v il u vs hil w (hs Z w hH) (ht Z w hH) (h5.mono hk) (hk _ _ h4) (hT.hp hH)).mono fun x w' hx=>iA.mono (fun y w2 hy=>⟨hy.1,Z,hZ,hH.call hy.2⟩) hx
 |wrap m d ih=>
  intro n f Z R e l j w hO hi hZ hf hn hs ht hH
  obtain⟨b2,b3,b5,e',l',j',rfl,rfl,rfl,h5,h2,h3,hd⟩:=hO
  obtain⟨fe,ce,he,hfe⟩:=ayq hd
  subst he
  obtain⟨Y,hp,hq⟩:=hZ.pick hi.1 hH
  obtain⟨Z1,hz1,hp1⟩:=hq (Kd.e.up (f m))
  have hn':n+(d.dep+1)<=1000000000000:=hn
  refine⟨_,[pt b5,pt b3],rfl,call62,?_⟩
  refine Cj W0 b5 b3 b2 m (f m) fe ce _ _ v u (fP d.sh.sh il vs).1 (fP d.sh.sh il vs).2 Y R (fun Z'=>kA (AH fr) ids (d.tick .e (jv .e m f)) tl Z') (hf.ok J m) w hfe h5 h2 h3 (fun w1 A h=> ?_) (hH.perm (hp.append_right R))
  exact(ih (n+1) (jv .e m f) Z1 (A++R) _ _ _ w1 (hd.mono (Le.zz fun x hx=>bt _ hx)) hi.2 hz1 (hf.tick _ m) J (fun Z' w' h=>hs (Z'++A) w' (by rw[dg];exact h)) (fun Z' w' h=>ht (Z'++A) w' (by rw[dg];exact h)) (h.perm (hp1.append_right _))).get
theorem ays{K:Vu}{d:Wr}{e l j:Value}(h:AA TX K d e l j):arR Tryz.prog l:=by
 cases d with
 |base p tb=>obtain⟨B1,B2,rfl,rfl,rfl,-⟩:=h;exact⟨_,_,rfl,call97⟩
 |wrap m d=>obtain⟨b2,b3,b5,e',l',j',rfl,rfl,rfl,-⟩:=h;exact⟨_,_,rfl,call64⟩
theorem ajo(W0:World)(ids:List Nat)(tl:List (Nat×Rl))(hT:oh W0)(a b:El)(d:Wr):∀(n:Nat) (f:Ct) (Z R:List a8) (e l j:Value) (w:World),AA TX (Kz (Kw W0) R) d e l j->d.Ek ids tl->kA (AH fr) ids f tl Z->EC n f->n+d.dep<=1000000000000->Hp W0 w (Z++R)->
  zk Tryz.prog l [.agg (jg a),.agg (jg b)] w (iA fun x w'=>x=B (cR a b)/\∃Z',kA (AH fr) ids (d.tick .l f) tl Z'/\Hp W0 w' (Z'++R)):=by
 induction d with
 |base p tb=>
  intro n f Z R e l j w hO hi hZ hf hn hH
  obtain⟨B1,B2,rfl,rfl,rfl,h4,h5,h6⟩:=hO
  have hk:=hH.kz (Le.refl _) (Z:=R) fun x hx=>bt _ hx
  refine⟨_,[],rfl,call97,?_⟩
  exact(VA a b w).mono fun x w' hx=>iA.mono (fun y w2 hy=>⟨hy.1,Z,hZ,hH.call hy.2⟩) hx
 |wrap m d ih=>
  intro n f Z R e l j w hO hi hZ hf hn hH
  obtain⟨b2,b3,b5,e',l',j',rfl,rfl,rfl,h5,h2,h3,hd⟩:=hO
  obtain⟨fe,ce,he,hfe⟩:=ays hd
  subst he
  obtain⟨Y,hp,hq⟩:=hZ.pick hi.1 hH
  obtain⟨Z1,hz1,hp1⟩:=hq (Kd.l.up (f m))
  have hn':n+(d.dep+1)<=1000000000000:=hn
  refine⟨_,[pt b5,pt b3],rfl,call64,?_⟩
  refine Ck W0 b5 b3 b2 m (f m) fe ce _ _ a b (cR a b) Y R (fun Z'=>kA (AH fr) ids (d.tick .l (jv .l m f)) tl Z') (hf.ok J m) w hfe h5 h2 h3 (fun w1 A h=> ?_) (hH.perm (hp.append_right R))
  exact(ih (n+1) (jv .l m f) Z1 (A++R) _ _ _ w1 (hd.mono (Le.zz fun x hx=>bt _ hx)) hi.2 hz1 (hf.tick _ m) J (h.perm (hp1.append_right _))).get
theorem ayt{K:Vu}{d:Wr}{e l j:Value}(h:AA TX K d e l j):arR Tryz.prog j:=by
 cases d with
 |base p tb=>obtain⟨B1,B2,rfl,rfl,rfl,-⟩:=h;exact⟨_,_,rfl,call141⟩
 |wrap m d=>obtain⟨b2,b3,b5,e',l',j',rfl,rfl,rfl,-⟩:=h;exact⟨_,_,rfl,call66⟩
theorem ajp(W0:World)(ids:List Nat)(tl:List (Nat×Rl))(hT:oh W0)(a b:El)(d:Wr):∀(n:Nat) (f:Ct) (Z R:List a8) (e l j:Value) (w:World),AA TX (Kz (Kw W0) R) d e l j->d.Ek ids tl->kA (AH fr) ids f tl Z->EC n f->n+d.dep<=1000000000000->Hp W0 w (Z++R)->
  zk Tryz.prog j [.agg (jg a),.agg (jg b)] w (iA fun x w'=>x= .agg (jg (oz d.tb a b))/\∃Z',kA (AH fr) ids (d.tick .j f) tl Z'/\Hp W0 w' (Z'++R)):=by
 induction d with
 |base p tb=>
  intro n f Z R e l j w hO hi hZ hf hn hH
  obtain⟨B1,B2,rfl,rfl,rfl,h4,h5,h6⟩:=hO
  have hk:=hH.kz (Le.refl _) (Z:=R) fun x hx=>bt _ hx
  refine⟨_,[pt B2],rfl,call141,?_⟩
  obtain⟨Zt,hzt,rfl⟩:=hZ
  refine(HU W0 B2 tb tl Zt ((ids.map (fun m=>rL TX m (f m))++fr)++R) a b w hT hi.2 (Le.zz (fun x hx=>bt _ hx) _ _ h6) hzt (hH.perm (by rw[dg];exact we _ _ _))).mono fun x w' hx=>iA.mono (fun y w2 hy=>⟨hy.1,?_⟩) hx
  obtain⟨-,Z',hz',h'⟩:=hy
  exact⟨_,⟨Z',hz',rfl⟩,h'.perm (by rw[dg (_++_) Z' R];exact we _ _ _)⟩
 |wrap m d ih=>
  intro n f Z R e l j w hO hi hZ hf hn hH
  obtain⟨b2,b3,b5,e',l',j',rfl,rfl,rfl,h5,h2,h3,hd⟩:=hO
  obtain⟨fe,ce,he,hfe⟩:=ayt hd
  subst he
  obtain⟨Y,hp,hq⟩:=hZ.pick hi.1 hH
  obtain⟨Z1,hz1,hp1⟩:=hq (Kd.j.up (f m))
  have hn':n+(d.dep+1)<=1000000000000:=hn
  refine⟨_,[pt b5,pt b3],rfl,call66,?_⟩
  refine Cl W0 b5 b3 b2 m (f m) fe ce _ _ a b (oz d.tb a b) Y R (fun Z'=>kA (AH fr) ids (d.tick .j (jv .j m f)) tl Z') (hf.ok J m) w hfe h5 h2 h3 (fun w1 A h=> ?_) (hH.perm (hp.append_right R))
  exact(ih (n+1) (jv .j m f) Z1 (A++R) _ _ _ w1 (hd.mono (Le.zz fun x hx=>bt _ hx)) hi.2 hz1 (hf.tick _ m) J (h.perm (hp1.append_right _))).get
end
end
end Go.Proofs.YtlhjdflgjbkpmaaGreatDoor.W

/- Part 4 of the proof of FlowBound: its plain laws and the walks of its functions. -/
import Derived.Test.YtlhjdflgjbkpmaaGreatDoorFlowBoundPartC
set_option linter.all false
namespace Go.Proofs.YtlhjdflgjbkpmaaGreatDoor.W
section
open Go Go.RowKit Go.Proofs.YtlhjdflgjbkpmaaGreatDoor.E Go.Proofs.YtlhjdflgjbkpmaaGreatDoor.M
set_option maxRecDepth 100000
open Go.Proofs.Tryz
theorem pq:∀w,(zeroValue 86).run Tryz.prog w= .ok (.agg (dP Rl.none)) w:=fun w=>by
 rw[ja];exact Tryz.zeroValue86 w
theorem yp(a:Int):Tryz.prog.built 86 [(0,I a)]=some (dP ⟨a,fun _=>0#64⟩):=by
 rw[ja];rfl
theorem Jy:Tryz.prog.fieldsOf 86=#[{name:= "N",type:=3,offset:=0,embedded:=false,tag:= "",pkgPath:= "",byteOffset:=0},{name:= "Up",type:=84,offset:=1,embedded:=false,tag:= "",pkgPath:= "",byteOffset:=8}]:=by
 unfold Program.fieldsOf;rw[bL]
theorem IP:alM Tryz.prog 86 {name:= "N",type:=3,offset:=0,embedded:=false,tag:= "",pkgPath:= "",byteOffset:=0} {name:= "Up",type:=84,offset:=1,embedded:=false,tag:= "",pkgPath:= "",byteOffset:=8} 35:=
 ⟨by rw[Jy];exact bL,Jy,az,az,rfl,rfl,bf,Tryz.isAgg3,rL,Tryz.isAgg84,tA,dZ,dg,Tryz.isAgg35,aP,aP⟩
theorem ajn:∀w,(zeroValue 214).run Tryz.prog w= .ok (.agg (LY fun _=>0)) w:=fun w=>by
 rw[ac1];exact Tryz.zeroValue214 w
theorem GG:ElT Tryz.prog 37 35:=⟨cH,dZ,dg,Tryz.isAgg35,aP⟩
theorem jO:∀w,(zeroValue 37).run Tryz.prog w= .ok (.agg (jv dH)) w:=fun w=>by
 rw[agx];exact Tryz.zeroValue37 w
theorem s5:∀w,(zeroValue 88).run Tryz.prog w= .ok (.agg (ur bI)) w:=fun w=>Tryz.zeroValue88 w
theorem Nj:Tryz.prog.built 86 []=some (dP Rl.none):=by
 rw[ja];rfl
theorem ZC{v:Value}(h:v.cells=#[v]):Tryz.prog.built 56 [(1,v)]=some #[B false,v]:=
 (show Tryz.prog.built 56 [(1,v)]=Instr.fill (#[(0,1),(1,1)][·]?) #[B false,.slice none 0 0] [(1,v)]from O).trans X4
theorem ZD:Tryz.prog.built 56 [(0,B true)]=some #[B true,.slice none 0 0]:=rfl
theorem ad8(k:Int)(b n:Nat)(l:List Tx):Tryz.prog.built 88 [(0,I k),(1,.slice (some ⟨b,0,none⟩) n n)]=some (ur ⟨k,.slice (some ⟨b,0,none⟩) n n,l,Rl.none⟩):=rfl
theorem Qq(a:BitVec 64):Tryz.prog.built 37 [(0,U a)]=some (jv (A4 dH 0 a)):=by
 rw[iv];rfl
theorem yq:Tryz.prog.built 37 []=some (jv dH):=by
 rw[iv];rfl
theorem VO:∀w,(zeroValue 58).run Tryz.prog w= .ok (.agg (Mp me).toArray) w:=fun w=>Tryz.zeroValue58 w
theorem CB:∀w,(zeroValue 90).run Tryz.prog w= .ok (.agg (j6 cB).toArray) w:=fun w=>(Tryz.zeroValue90 w).trans aP
theorem ZE:∀w,(zeroValue 143).run Tryz.prog w= .ok (.agg (tF mZ).toArray) w:=fun w=>(Tryz.zeroValue143 w).trans aP
theorem VP:∀w,(zeroValue 44).run Tryz.prog w= .ok (.agg (zy fU).toArray) w:=fun w=>(Tryz.zeroValue44 w).trans aP
theorem ad9(r:Rl):Tryz.prog.built 212 [(0,.agg (dP r))]=some (k9 r 0 0 (.slice none 0 0) (.slice none 0 0)).toArray:=by
 rw[ja];kernel_rfl
theorem aea(a b c:Int):Tryz.prog.built 76 [(0,I a),(1,I b),(2,I c)]=some #[I a,I b,I c]:=rfl
theorem aeb:Tryz.prog.built 135 [(0,B true)]=some #[B true,I 0,I 0,I 0]:=rfl
abbrev TX:On:=(⟨95,97,141,59,62,64,66,56,199,139,72,117,135,212,[]⟩:On)
abbrev Ba(fr:List a7):On:=(⟨95,97,141,59,62,64,66,56,199,139,72,117,135,212,fr⟩:On)
theorem Qr(f g k:FuncId)(a b c:Array Value):Tryz.prog.built 117 [(0,iH f a),(1,iH g b),(2,iH k c)]=some #[iH f a,iH g b,iH k c]:=rfl
theorem asP(a b c a' b' c':Int):EqT Tryz.prog 76 #[I a,I b,I c] #[I a',I b',I c'] (decide (a=a'/\b=b'/\c=c')):=
 (eqT lD aP aP (.cons (art az bf Tryz.isAgg3 O O) (.cons (art az bf Tryz.isAgg3 O O) (.cons (art az bf Tryz.isAgg3 O O) .nil)))).conv (by rw[gP];simp)
theorem Nk:∀w,(zeroValue 117).run Tryz.prog w= .ok (.agg #[.nilFunc,.nilFunc,.nilFunc]) w:=fun w=>Tryz.zeroValue117 w
variable{fr:List a7}
theorem SW(n:Int)(w:World):Calls Tryz.prog 238 #[I n] w (Pure (B (zj n)) w):=by
 refine eH func238 rfl rfl fun hH=>SR<|va (v:=B false) rfl<|aa<|SR<|mI rfl<|V (dD O O)<|mB rfl<|bM 5 O (fun h2=> ?_) (fun h2=> ?_)
 .refine mI rfl<|V (uk O O)<|mB rfl<|aB rfl<|aa<|ai<|oB O ?_ hH
  (simp[zj];omega)
 refine aE (v:=B false) rfl<|aB rfl<|aa<|ai<|oB O ?_ hH
 (simp[zj];omega)
theorem ox(n:Int)(w:World):Calls Tryz.prog 179 #[I n] w (Pure (U (below n)) w):=by
 refine eH func179 rfl rfl fun hH=>SR<|va (v:=U 0#64) rfl<|aa<|ag<|SR<|mI rfl<|V (uk O O)<|aa<|aD O (fun h2=> ?_) (fun h2=> ?_)
 .refine SR<|va (v:=U 0#64) rfl<|aa<|ai<|FP O (aJ U (RP aK).symm) hH.below
 refine ak<|ag<|SR<|mI rfl<|V (dD O O)<|aa<|aD O (fun h4=> ?_) (fun h4=> ?_)
 .refine SR<|va (v:=U 18446744073709551615#64) rfl<|aa<|ai<|FP O (aJ U (acC aK).symm) hH.below
 refine ak<|SR<|mI rfl<|V (ju bf yU O)<|V (FN (a:=1#64) O O)<|V (TR O (b:=1#64) O)<|aU rfl<|aa<|ai<|FP O (aJ U (acD aK aK).symm) hH.below
theorem SX(n:Int)(s:BitVec 64)(w:World):Calls Tryz.prog 212 #[I n,U s] w (Pure (.tuple #[I (level n s).1,B (level n s).2]) w):=by
 refine eH func212 rfl rfl fun hH=>SR<|va (v:=I 0) rfl<|va (v:=B false) rfl<|aa<|ag<|SR<|mI rfl<|aG O hH (SW _ _) (an call238 O)<|fun w1 aZ=>V (bO O)<|aa<|bW O (fun h5=> ?_) (fun h5=> ?_)
 .refine SR<|va (v:=I 0) rfl<|va (v:=B false) rfl<|aa<|ai<|have hn:=alC ‹(!zj n)=true›;?_
  refine jZ O (aJ I ?_) (aJ B ?_) aZ.below<;>rw[LH s hn]
 refine ak<|ag<|SR<|mI rfl<|aE (v:=I 0) rfl<|aa<|ay<|have hn:=alB ‹(!zj n)=false›;bk (G:=Int) (fun k s' w'=>(Fr (rg 4 3 (rg 11 9 [])) _ s')/\(Hp w w' _)/\(s' 11=I k)/\(0<=k)/\(k<=n)/\(∀j:Int,0<=j->j<k->s≠below j)) (fun k=>(n-k).toNat) (0) ⟨Fr.refl _ _,aZ,rfl,J,J,fun j a b=>absurd b J⟩<| ?_
 rintro k sg6 w6 ⟨Qs,iT,Nl,h0,hk,hf⟩
 obtain⟨OF,ajo⟩:=Qs.w2 1 10
 refine SR<|V (aM Nl ajo)<|aa<|ag<|aD O (fun h8=> ?_) (fun h8=> ?_)
 .refine ak<|ag<|ay<|SR<|aE Nl<|aI rfl<|aa<|SR<|aE OF<|mI rfl<|aG O iT (ox _ _) (an HG O)<|fun w9 bV=>V (iZ O O)<|aa<|aD O (fun h12=> ?_) (fun h12=> ?_)
  .refine SR<|mI rfl<|aI rfl<|va (v:=B true) rfl<|aa<|ai<| ?_
   refine jZ O (aJ I ?_) (aJ B ?_) bV.below<;>rw[LI hn h0 J aK hf]
  refine ak<|aq<|V (ax Nl O J)<|mI rfl<|aa<| ?_
  refine⟨k+1,aT,Qs.u4.u4.u1,bV,(aJ I aO),J,J,?_⟩
  exact fun j a b=>if e:j=k then e▸‹¬s=below k›else hf j a J
 refine aY (id:=0) rfl<|SR<|va (v:=I 0) rfl<|va (v:=B false) rfl<|aa<|ai<| ?_
 refine jZ O (aJ I ?_) (aJ B ?_) iT.below<;>rw[EU hn (fun j a b=>hf j a J)]
theorem Qt(i:Int)(w:World):Calls Tryz.prog 250 #[I i] w (Pure (B (zk i)) w):=by
 refine eH func250 rfl rfl fun hH=>SR<|va (v:=B false) rfl<|aa<|SR<|mI rfl<|V (dD O O)<|mB rfl<|bM 5 O (fun h2=> ?_) (fun h2=> ?_)
 .refine mI rfl<|V (aM O O)<|mB rfl<|aB rfl<|aa<|ai<|oB O ?_ hH
  (simp[zk];try omega)
 refine aE (v:=B false) rfl<|aB rfl<|aa<|ai<|oB O ?_ hH
 (simp[zk];try omega)
theorem ZF(s:BitVec 64)(i:Int)(w:World):Calls Tryz.prog 232 #[U s,I i] w (Pure (B (hasB s i)) w):=by
 refine eH func232 rfl rfl fun hH=>SR<|va (v:=B false) rfl<|aa<|SR<|mI rfl<|aG O hH (Qt _ _) (an call250 O)<|fun w1 aZ=>mB rfl<|fO 7 O (fun h4=> ?_) (fun h4=> ?_)
 .refine mU rfl<|mI rfl<|V (ju bf yU O)<|V (BZ O O)<|V (lH O (b:=1#64) O)<|V (iZ O (b:=1#64) O)<|mB rfl<|aB rfl<|aa<|ai<|oB O ?_ aZ
  exact alE s ‹zk i=true›
 refine aE (v:=B false) rfl<|aB rfl<|aa<|ai<|oB O ?_ aZ
 exact(Yj s ‹zk i=false›).symm
theorem CC(s:BitVec 64)(i:Int)(w:World):Calls Tryz.prog 231 #[U s,I i] w (Pure (U (uS s i)) w):=by
 refine eH func231 rfl rfl fun hH=>SR<|va (v:=U 0#64) rfl<|aa<|ag<|SR<|mI rfl<|aG O hH (Qt _ _) (an call250 O)<|fun w1 aZ=>V (bO O)<|aa<|bW O (fun h5=> ?_) (fun h5=> ?_)
 .refine SR<|mU rfl<|aU rfl<|aa<|ai<|oU O ?_ aZ
  simp_all [uS]
 refine ak<|SR<|mU rfl<|mI rfl<|V (ju bf yU O)<|V (FN (a:=1#64) O O)<|V (jH O O)<|aU rfl<|aa<|ai<|oU O ?_ aZ
 simp_all [uS]
theorem Ft(a b:BitVec 64)(w:World):Calls Tryz.prog 140 #[U a,U b] w (Pure (B (dX a b)) w):=by
 refine eH func140 rfl rfl fun hH=>SR<|va (v:=B false) rfl<|aa<|SR<|mU rfl<|mU rfl<|V (TS O O)<|V (iZ O (b:=0#64) O)<|aB rfl<|aa<|ai<|oB O ?_ hH
 rfl
theorem yt(v:Value)(l:List Int)(w:World)(hs:Sl w v 1 l.length (l.map I)):Calls Tryz.prog 203 #[v] w (Pure (U (kO l)) w):=by
 have hm:=hs.small
 unfold maxLen at hm
 refine eH func203 rfl rfl fun hH=>SR<|va (v:=U 0#64) rfl<|aa<|SR<|va (v:=U 0#64) rfl<|aa<|ag<|SR<| ?_
 refine V (run_move bC) ?_
 refine V (aA (hs.hp hH) O bz O)<|aE (v:=I 0) rfl<|aa<|ay<|bk (G:=Int) (fun k s' w'=>(Fr (3::(5::(rg 8 8 []))) _ s')/\(Hp w w' _)/\(s' 3=U (kO (l.take k.toNat)))/\(s' 8=I k)/\(0<=k)/\(k<=l.length)) (fun k=>(l.length-k).toNat) (0) ⟨Fr.refl _ _,hH,(aJ U (by simp[aaw])),rfl,J,J⟩<| ?_
 rintro k sg1 w1 ⟨ug,iI,sr,OG,h0,hk⟩
 obtain⟨OH,VQ⟩:=ug.w2 6 7
 refine SR<|V (aM OG VQ)<|aa<|ag<|aD O (fun h3=> ?_) (fun h3=> ?_)
 .refine ak<|ag<|ay<|SR<|V (ah (hs.hp iI) bz a8 OH OG J)<|V (aC bf O O ((hs.hp iI).cell _ _ (eG J)))<|aI rfl<|aa<|aq<|aE sr<|mI rfl<|aG O iI (CC _ _ _) (aN call231 O O)<|fun w4 bP=>aU rfl<|aa<|aq<|V (ax OG O J)<|mI rfl<|aa<| ?_
  refine⟨k+1,aT,ug.u4.u4.u1.u1,bP,(aJ U (by rw[acE,<-O8 h0 aK])),(aJ I aO),J,J⟩
 refine aY (id:=0) rfl<|SR<|aE sr<|aU rfl<|aa<|ai<|oU O ?_ iI
 rw[LK aK]
theorem s6(s:BitVec 64)(i:Int)(w:World):Calls Tryz.prog 102 #[U s,I i] w (Pure (B (hasB s i)) w):=by
 refine eH func102 rfl rfl fun hH=>SR<|va (v:=B false) rfl<|aa<|ag<|SR<|mI rfl<|V (aM O O)<|mB rfl<|bM 8 O (fun h2=> ?_) (fun h2=> ?_)
 .refine aE (v:=B true) rfl<|aa<|cC rfl<|SR<|va (v:=B false) rfl<|aa<|ai<|oB O ?_ hH
  exact(Yj s (by simp[zk];omega)).symm
 refine mI rfl<|V (cD O O)<|mB rfl<|aa<|aD O (fun h4=> ?_) (fun h4=> ?_)
 .refine SR<|va (v:=B false) rfl<|aa<|ai<|oB O ?_ hH
  exact(Yj s (by simp[zk];omega)).symm
 refine ak<|ag<|SR<|va (v:=I 0) rfl<|aa<|ay<|bk (G:=Int) (fun k s' w'=>(Fr (0::(5::(rg 12 7 []))) _ s')/\(Hp w w' _)/\(s' 0=U (s>>>k.toNat))/\(s' 5=I k)/\(0<=k)/\(k<=i)) (fun k=>(i-k).toNat) (0) ⟨Fr.refl _ _,hH,(aJ U aF),rfl,J,J⟩<| ?_
 rintro k sg5 w5 ⟨OI,bP,Nn,DM,h0,hk⟩
 have asQ:=OI.w1 1
 refine ag<|SR<|aE DM<|aE asQ<|V (aM O O)<|aa<|aD O (fun h7=> ?_) (fun h7=> ?_)
 .refine ak<|ag<|ay<|aq<|aE Nn<|V (Lz O (b:=2#64) O az)<|aU rfl<|aa<|aq<|aE DM<|V (ax O O J)<|aI rfl<|aa<| ?_
  refine⟨k+1,aT,OI.u4.u4.u1,bP,(aJ U XV),(aJ I aO),J,J⟩
 refine aY (id:=0) rfl<|SR<|aE Nn<|V (LA O (b:=2#64) O az)<|V (iZ O (b:=1#64) O)<|aB rfl<|aa<|ai<|oB O ?_ bP
 (rw[hasB,show zk i=true by simp[zk];omega,show k=i by omega];rw[gP];simp only[eo,l8];exact Kk s _)
theorem iC(v:Value)(l:List Int)(w:World)(hs:Sl w v 1 l.length (l.map I)):Calls Tryz.prog 154 #[v] w (Pure (U (kO l)) w):=by
 have hm:=hs.small
 unfold maxLen at hm
 refine eH func154 rfl rfl fun hH=>SR<|va (v:=U 0#64) rfl<|aa<|SR<|va (v:=U 0#64) rfl<|va (v:=U 1#64) rfl<|aa<|ag<|SR<|va (v:=I 0) rfl<|aa<|ay<|bk (G:=Int) (fun i s' w'=>(Fr (rg 3 25 []) _ s')/\(Hp w w' _)/\(s' 3=U (Ax l i.toNat))/\(s' 4=U (1#64<<<i.toNat))/\(s' 5=I i)/\(0<=i)/\(i<=64)) (fun i=>(64-i).toNat) (0) ⟨Fr.refl _ _,hH,(aJ U aO),(aJ U aO),rfl,J,J⟩<| ?_
 rintro i sg1 w1 ⟨ug,iI,sr,zR,No,i0,i1⟩
 obtain⟨lX,ajp⟩:=ug.w2 0 2
 refine ag<|SR<|aE No<|V (aM O O)<|aa<|aD O (fun h3=> ?_) (fun h3=> ?_)
 .refine ak<|ag<|ay<|ag<|SR<|va (v:=I 0) rfl<|aa<|ay<|bk (G:=Int) (fun k s' w'=>(Fr (3::(6::(rg 11 15 []))) _ s')/\(Hp w w' _)/\(s' 3=U (Ax l i.toNat))/\(s' 6=I k)/\(0<=k)/\(k<=l.length)/\(∀j:Int,0<=j->j<k->l.getD j.toNat 0≠i)) (fun k=>(l.length-k).toNat) (0) ⟨Fr.refl _ _,iI,sr,rfl,J,J,fun j a b=>absurd b J⟩<| ?_
  rintro k sg4 w4 ⟨ux,gy,oc,Fu,k0,k1,hf⟩
  obtain⟨aed,uy,GH⟩:=ux.t3 0 lX 4 zR 5 No
  refine ag<|SR<|aE Fu<|aE aed<|V (aA (hs.hp gy) O bz O)<|V (aM O O)<|aa<|aD O (fun h6=> ?_) (fun h6=> ?_)
  .refine ak<|ag<|ay<|SR<|aE aed<|aE Fu<|V (ah (hs.hp gy) bz a8 O O J)<|V (aC bf O O ((hs.hp gy).cell _ _ (eG J)))<|aE GH<|V (bN O O)<|aa<|aD O (fun h8=> ?_) (fun h8=> ?_)
   .refine SR<|aE oc<|aE uy<|V (afC O O)<|aU rfl<|aa<|aY (id:=2) rfl<|aq<|aE uy<|V (Lx O (b:=2#64) O)<|aU rfl<|aa<|aq<|aE GH<|V (ax O O J)<|aI rfl<|aa<| ?_
    refine⟨i+1,aT,(((ug.u1.u1.u1).t ux O)).u4.u4.u4.u4.u4,gy,(aJ U (Yk i0 J k0 J aK)),(aJ U afn),(aJ I aO),J,J⟩
   refine ak<|aq<|aE Fu<|V (ax O O J)<|aI rfl<|aa<| ?_
   refine⟨k+1,aT,ux.u4.u4.u4.u1,gy,oc,(aJ I aO),J,J,?_⟩
   exact fun j a b=>if e:j=k then e▸‹¬l.getD k.toNat 0=i›else hf j a J
  refine aY (id:=2) rfl<|aq<|aE uy<|V (Lx O (b:=2#64) O)<|aU rfl<|aa<|aq<|aE GH<|V (ax O O J)<|aI rfl<|aa<| ?_
  refine⟨i+1,aT,(((ug.u1.u1.u1).t ux O)).u4.u4.u1.u1,gy,(jW oc (aJ U (acH i0 (fun j a b=>hf j a J)))),(aJ U afn),(aJ I aO),J,J⟩
 refine aY (id:=0) rfl<|SR<|aE sr<|aU rfl<|aa<|ai<|oU O ?_ iI
 (rw[show i.toNat=64 by omega];rfl)
theorem Bb(s:BitVec 64)(w:World):Calls Tryz.prog 101 #[U s] w (qB 3 1 (gA s).length ((gA s).map I) w):=by
 refine eH func101 rfl rfl fun hH=>SR<|va (v:= .slice none 0 0) rfl<|have iI:=hH.fx 3 1;aa<|SR<|va (v:= .slice none 0 0) rfl<|have aZ:=iI.fx 3 1;aa<|ag<|SR<|va (v:=I 0) rfl<|aa<|ay<|bk (G:=Int×(List Int)×Value) (fun⟨k,l,v3⟩ s' w'=>(Fr (0::(rg 3 15 [])) _ s')/\(Hp w w' (.row v3 3 1 (l.length) (l.map I)::_))/\(s' 0=U (s>>>k.toNat))/\(s' 3=v3)/\(s' 4=I k)/\(0<=k)/\(k<=64)/\(l=sG s k.toNat)) (fun⟨k,l,v3⟩=>(64-k).toNat) ((0,[],(.slice none 0 0:Value))) ⟨Fr.refl _ _,aZ,(aJ U aF),rfl,rfl,J,J,rfl⟩<| ?_
 rintro⟨k,l,v3⟩ sg3 w3 ⟨fr3,uD,Bc,asR,anH,h0,hk,hl⟩
 refine ag<|SR<|aE anH<|V (aM O O)<|aa<|aD O (fun h5=> ?_) (fun h5=> ?_)
 .refine ak<|ag<|ay<|ag<|SR<|aE Bc<|V (LA O (b:=2#64) O az)<|V (iZ O (b:=1#64) O)<|aa<|aD O (fun h7=> ?_) (fun h7=> ?_)
  .refine aq<|aE asR<|aE anH<|xP 1 1 uD (cA bz O O (sz:=1) (vs:=[I _]) O O az az O O)<|fun b10 w8 iJ=> ?_
   (try simp only[o4]at iJ)
   refine jI O iJ (i:=1) O (iJ.dV (i:=0) (n:=1) (sz:=1) O O az) O O bz O O (size:=1) (bytes:=8) O O O az iF (by have:=HY s k.toNat;rw[<-hl]at this;omega) (by have:=HY s k.toNat;rw[<-hl]at this;simp only[maxLen];omega)<|fun v11 Bv cm=> ?_
   refine V (run_assign bC) ?_
   refine aa<|aq<|aE Bc<|V (Lz O (b:=2#64) O az)<|aU rfl<|aa<|aq<|aE anH<|V (ax O O J)<|aI rfl<|aa<| ?_
   refine⟨(k+1,l++[k],v11),aT,fr3.u4.u4.u4.u4,(Hp.conv (cm.sub (sQ sR)) aF),(aJ U XV),rfl,(aJ I aO),J,J,?_⟩
   rw[hl,acI h0 aK]
  refine ak<|aq<|aE Bc<|V (Lz O (b:=2#64) O az)<|aU rfl<|aa<|aq<|aE anH<|V (ax O O J)<|aI rfl<|aa<| ?_
  refine⟨(k+1,l,v3),aT,fr3.u4.u4.u1.u1.u1,(Hp.conv uD aO),(aJ U XV),asR,(aJ I aO),J,J,?_⟩
  rw[hl,afP h0 aK]
 refine aY (id:=0) rfl<|SR<|aE asR<| ?_
 refine V (run_assign bC) ?_
 refine aa<|ai<|JM O O uD (i:=0) O (by rw[hl,O9 aK hk]) (by rw[hl,O9 aK hk])
theorem qS(n:Int)(w:World):Calls Tryz.prog 119 #[I n] w (Pure (U (below n)) w):=by
 refine eH func119 rfl rfl fun hH=>SR<|va (v:=U 0#64) rfl<|aa<|SR<|va (v:= .slice none 0 0) rfl<|have iI:=hH.fx 3 1;aa<|ag<|SR<|va (v:=I 0) rfl<|aa<|ay<|bk (G:=Int×(List Int)×Value) (fun⟨k,l,v3⟩ s' w'=>(Fr (rg 3 15 []) _ s')/\(Hp w w' (.row v3 3 1 (l.length) (l.map I)::_))/\(s' 3=v3)/\(s' 4=I k)/\(0<=k)/\(k<=64)/\(k<=max n 0)/\(l=upto k)) (fun⟨k,l,v3⟩=>(64-k).toNat) ((0,[],(.slice none 0 0:Value))) ⟨Fr.refl _ _,iI,rfl,rfl,J,J,J,rfl⟩<| ?_
 rintro⟨k,l,v3⟩ sg2 w2 ⟨PD,aZ,J0,anI,h0,hk,hn,hl⟩
 have anJ:=PD.w1 0
 refine ag<|SR<|aE anI<|aE anJ<|V (aM O O)<|mB rfl<|bM 8 O (fun h4=> ?_) (fun h4=> ?_)
 .refine aE anI<|V (aM O O)<|mB rfl<|aa<|aD O (fun h6=> ?_) (fun h6=> ?_)
  .refine ak<|ag<|ay<|aq<|aE J0<|aE anI<|xP 1 1 aZ (cA bz O O (sz:=1) (vs:=[I _]) O O az az O O)<|fun b9 w7 eU=> ?_
   (try simp only[o4]at eU)
   refine jI O eU (i:=1) O (eU.dV (i:=0) (n:=1) (sz:=1) O O az) O O bz O O (size:=1) (bytes:=8) O O O az iF (by have:= @sH k;rw[<-hl]at this;omega) (by have:= @sH k;rw[<-hl]at this;simp only[maxLen];omega)<|fun v10 FK cJ=> ?_
   refine V (run_assign bC) ?_
   refine aa<|aq<|aE anI<|V (ax O O J)<|aI rfl<|aa<| ?_
   refine⟨(k+1,l++[k],v10),aT,PD.u4.u4.u4.u1.u1.u1,(Hp.conv (cJ.sub (sQ sR)) aF),rfl,(aJ I aO),J,J,J,?_⟩
   rw[hl,gT h0]
  refine aY (id:=0) rfl<|SR<|aE J0<|aG O aZ (iC _ _ _ (aZ.sl (i:=0) O)) (an HH O)<|fun Bw cg=>aU rfl<|aa<|ai<|oU O ?_ cg
  exact FT fun i a b=>by rw[hl,cN];omega
 refine aE (v:=B false) rfl<|aa<|cL rfl<|aY (id:=0) rfl<|SR<|aE J0<|aG O aZ (iC _ _ _ (aZ.sl (i:=0) O)) (an HH O)<|fun SY cI=>aU rfl<|aa<|ai<|oU O ?_ cI
 exact FT fun i a b=>by rw[hl,cN];omega
theorem SZ(n:Int)(s:BitVec 64)(w:World):Calls Tryz.prog 178 #[I n,U s] w (Pure (B (level n s).2) w):=by
 refine eH func178 rfl rfl fun hH=>SR<|va (v:=B false) rfl<|aa<|SR<|mI rfl<|mU rfl<|aG O hH (SX _ _ _) (aN call212 O O)<|fun w1 aZ=> ?_
 refine V (run_move bC) ?_
 refine V (bx O (v:=I _) O)<|V (bx O (v:=B _) O)<|aI rfl<|aB rfl<|aa<|SR<|mB rfl<|aB rfl<|aa<|ai<|oB O ?_ aZ
 rfl
theorem Bd(n k:Int)(w:World):Calls Tryz.prog 185 #[I n,I k] w (Pure (.tuple #[U (uR n k).1,B (uR n k).2]) w):=by
 refine eH func185 rfl rfl fun hH=>SR<|va (v:=U 0#64) rfl<|va (v:=B false) rfl<|aa<|ag<|SR<|mI rfl<|V (aM O O)<|mB rfl<|bM 8 O (fun h2=> ?_) (fun h2=> ?_)
 .refine aE (v:=B true) rfl<|mB rfl<|bZ O rfl<|aE (v:=B true) rfl<|mB rfl<|bZ O rfl<|aE (v:=B true) rfl<|aa<|cC rfl<|SR<|va (v:=U 0#64) rfl<|va (v:=B false) rfl<|aa<|ai<| ?_
  refine jZ O (aJ U ?_) (aJ B ?_) hH.below<;>rw[B6 J]
 refine mI rfl<|V (cD O O)<|mB rfl<|mB rfl<|bM 12 O (fun h4=> ?_) (fun h4=> ?_)
 .refine aE (v:=B true) rfl<|mB rfl<|bZ O rfl<|aE (v:=B true) rfl<|aa<|cC rfl<|SR<|va (v:=U 0#64) rfl<|va (v:=B false) rfl<|aa<|ai<| ?_
  refine jZ O (aJ U ?_) (aJ B ?_) hH.below<;>rw[B6 J]
 refine mI rfl<|V (aM O O)<|mB rfl<|mB rfl<|bM 16 O (fun h6=> ?_) (fun h6=> ?_)
 .refine aE (v:=B true) rfl<|aa<|cC rfl<|SR<|va (v:=U 0#64) rfl<|va (v:=B false) rfl<|aa<|ai<| ?_
  refine jZ O (aJ U ?_) (aJ B ?_) hH.below<;>rw[B6 J]
 refine mI rfl<|mI rfl<|V (dD O O)<|mB rfl<|aa<|aD O (fun h8=> ?_) (fun h8=> ?_)
 .refine SR<|va (v:=U 0#64) rfl<|va (v:=B false) rfl<|aa<|ai<| ?_
  refine jZ O (aJ U ?_) (aJ B ?_) hH.below<;>rw[B6 J]
 refine ak<|SR<|mI rfl<|aG O hH (qS _ _) (an call119 O)<|fun w9 bV=>aU rfl<|va (v:=B true) rfl<|aa<|ai<| ?_
 refine jZ O (aJ U ?_) (aJ B ?_) bV.below<;>rw[uA J]
theorem zS(n:Int)(s:BitVec 64)(w:World):Calls Tryz.prog 152 #[I n,U s] w (Pure (.tuple #[I (level n s).1,B (level n s).2]) w):=by
 refine eH func152 rfl rfl fun hH=>SR<|va (v:=I 0) rfl<|va (v:=B false) rfl<|aa<|ag<|SR<|va (v:=I 0) rfl<|aa<|ay<|bk (G:=Int) (fun k s' w'=>(Fr (rg 4 27 []) _ s')/\(Hp w w' _)/\(s' 6=I k)/\(0<=k)/\(k<=n\/k=0)/\(k<=64)/\(n<=64->∀j:Int,0<=j->j<k->s≠below j)) (fun k=>(64-k).toNat) (0) ⟨Fr.refl _ _,hH,rfl,J,J,J,fun _ j a b=>absurd b J⟩<| ?_
 rintro k sg1 w1 ⟨ug,iI,OH,h0,hk,h6,hf⟩
 obtain⟨lX,zT⟩:=ug.w2 0 1
 refine ag<|SR<|aE OH<|aE lX<|V (aM O O)<|mB rfl<|bM 12 O (fun h3=> ?_) (fun h3=> ?_)
 .refine aE OH<|V (aM O O)<|mB rfl<|aa<|aD O (fun h5=> ?_) (fun h5=> ?_)
  .refine ak<|ag<|ay<|SR<|aE lX<|aE OH<|aG O iI (Bd _ _ _) (aN call185 O O)<|fun w6 eN=> ?_
   refine V (run_move bC) ?_
   refine V (bx O (v:=U _) O)<|V (bx O (v:=B _) O)<|aU rfl<|aB rfl<|aa<|SR<|mB rfl<|mB rfl<|fO 25 O (fun h9=> ?_) (fun h9=> ?_)
   .refine mU rfl<|aE zT<|V (iZ O O)<|mB rfl<|aa<|aD O (fun h11=> ?_) (fun h11=> ?_)
    .refine SR<|aE OH<|aI rfl<|va (v:=B true) rfl<|aa<|ai<| ?_
     refine jZ O (aJ I ?_) (aJ B ?_) eN.below<;>rw[acJ h0 aK hf aK]
    refine ak<|aq<|aE OH<|V (ax O O J)<|aI rfl<|aa<| ?_
    refine⟨k+1,aT,ug.u4.u4.u4.u4.u4.u4,eN,(aJ I aO),J,J,J,?_⟩
    exact TZ h0 aK aK hf
   refine aE (v:=B false) rfl<|aa<|cL rfl<|ak<|aq<|aE OH<|V (ax O O J)<|aI rfl<|aa<| ?_
   refine⟨k+1,aT,ug.u4.u4.u4.u4.u4.u4,eN,(aJ I aO),J,J,J,?_⟩
   exact T0 h0 aK hf aK
  refine aY (id:=0) rfl<|SR<|va (v:=I 0) rfl<|va (v:=B false) rfl<|aa<|ai<| ?_
  refine jZ O (aJ I ?_) (aJ B ?_) iI.below<;>rw[DZ h0 hk h6 hf J]
 refine aE (v:=B false) rfl<|aa<|cL rfl<|aY (id:=0) rfl<|SR<|va (v:=I 0) rfl<|va (v:=B false) rfl<|aa<|ai<| ?_
 refine jZ O (aJ I ?_) (aJ B ?_) iI.below<;>rw[DZ h0 hk h6 hf J]
theorem zU(s:BitVec 64)(w:World)(hT:oG w):Calls Tryz.prog 258 #[U s] w (Pure (I (tz s)) w):=by
 refine eH func258 rfl rfl fun hH=>SR<|va (v:=I 0) rfl<|aa<|ag<|SR<|mU rfl<|V (iZ O (b:=0#64) O)<|aa<|aD O (fun h2=> ?_) (fun h2=> ?_)
 .refine SR<|va (v:=I 64) rfl<|aa<|ai<|oI O ?_ hH
  rw[‹s=0#64›];rfl
 refine ak<|SR<|mU rfl<|mU rfl<|V (afD O)<|V (lH O O)<|V (Lx O (b:=285870213051353865#64) O)<|V (BZ O (b:=58#64) O)<|V (bg underlying280 sizeOf5 O O (by exact afS _))<|V (aC underlying5 O O (hT.at _))<|V (Yc underlying5 bf O (alJ (afU _)))<|aI rfl<|aa<|ai<|oI O ?_ hH
 exact av4 aK
theorem VR(f:FuncId)(cap:Array Value)(Inv Stop:List Int->World->Prop)(s:BitVec 64)(w:World)(hf:∀args w,(callFunc f args).run Tryz.prog w= .ok (.enter f args) w)(hm:∀l w w',Inv l w->Below w.heap.size w w'->Inv l w')(hT:∀l w,Inv l w->oG w)(go:∀l i r w,gA s=l++i::r->Inv l w->Calls Tryz.prog f (#[I i]++cap) w (jj fun u w'=>∃c:Bool,u=B c/\(c=true->Inv (l++[i]) w')/\(c=false->Stop (l++[i]) w')))(h0:Inv [] w):Calls Tryz.prog 251 #[U s,.func (.func f) #[] cap] w (jj fun u w'=>u= .tuple #[]/\(Inv (gA s) w'\/∃l i r,gA s=l++i::r/\Stop (l++[i]) w')):=by
 refine eH func251 rfl rfl fun hH=>ay<|bk (G:=(BitVec 64)×(List Int)) (fun⟨s1,l⟩ s' w'=>(Fr (0::(rg 4 11 [])) _ s')/\(Inv l w')/\(s' 0=U s1)/\(gA s=l++gA s1)) (fun⟨s1,l⟩=>(gA s1).length) ((s,[])) ⟨Fr.refl _ _,h0,rfl,aF⟩<| ?_
 rintro⟨s1,l⟩ sg1 w1 ⟨ug,iI,lX,hl⟩
 have hI1:=iI
 clear iI
 have iI:=Hp.start w1
 have zT:=ug.vv 1 (a:= .func _ _ _) rfl rfl
 refine ag<|SR<|aE lX<|V (uN O (b:=0#64) O)<|aa<|aD O (fun h3=> ?_) (fun h3=> ?_)
 .refine ak<|ay<|ag<|SR<|aE zT<|aE lX<|aG O iI (zU _ _ (hT _ _ hI1)) (an call258 O)<|fun w4 bP=>have hI:=hm _ _ _ hI1 bP.below;HS O (Yh hf O (v1:=I (tz s1)) O) (go l (tz s1) (gA (s1&&&(s1-1#64))) _ (by rw[hl,RQ aK]) hI)<| ?_
  rintro u8 w6 ⟨c,rfl,hJ1,hJ2⟩
  have eN:=Hp.start w6
  refine V (bO O)<|aa<|bW O (fun h11=> ?_) (fun h11=> ?_)
  .refine ai<|pK O ⟨rfl,.inr ⟨l,tz s1,gA (s1&&&(s1-1#64)),by rw[hl,RQ aK],hJ2 (by simpa using‹(!c)=true›)⟩⟩
  refine ak<|aq<|aE lX<|aE lX<|V (TR O (b:=1#64) O)<|V (lH O O)<|aU rfl<|aa<| ?_
  refine⟨(s1&&&(s1-1#64),l++[tz s1]),?_,ug.u4.u4.u4,(hJ1 (by simpa using‹(!c)=false›)),rfl,?_⟩
  .exact RR aK
  rw[hl,RQ aK];simp
 refine aY (id:=0) rfl<|have hn:gA s1=[]:=zm.2 (by simpa using‹¬s1≠0#64›);pK O ⟨rfl,.inl (by rw[hl,hn,lY];assumption)⟩
theorem OJ(W0:World)(b:Nat)(v:Value)(l:List Int)(i:Int)(w:World)(hH:Hp W0 w [.row v 3 1 l.length (l.map I),.blk b (.cells #[v] 99 (0,0))])(hlen:l.length<=64):Calls Tryz.prog 252 #[I i,.pointer (some ⟨b,0,none⟩)] w (jj fun u w'=>u=B true/\∃v',Hp W0 w' [.row v' 3 1 (l++[i]).length ((l++[i]).map I),.blk b (.cells #[v'] 99 (0,0))]):=by
 refine en func252 rfl rfl<|SR<|va (v:=B false) rfl<|aa<|SR<|lV bz hH 1 O O rfl<|mI rfl<|xP 1 1 hH (cA bz O O (sz:=1) (vs:=[I _]) O O az az O O)<|fun b3 w1 aZ=> ?_
 (try simp only[o4]at aZ)
 refine jI O aZ (i:=1) O (aZ.dV (i:=0) (n:=1) (sz:=1) O O az) O O bz O O (size:=1) (bytes:=8) O O O az iF J gC<|fun v4 w5 iT=> ?_
 refine bt iT (i:=2) O (bQ O O bC (bj (iT.get (i:=1) O)).1 (bj (iT.get (i:=1) O)).2 (iT.blk (i:=2) O) aF) ?_
 intro w7 eU
 refine aa<|SR<|va (v:=B true) rfl<|aa<|ai<|iY O O ⟨rfl,(v4:Value),Hp.conv eU.tail aF⟩
theorem CD(s:BitVec 64)(w:World)(hT:oG w):Calls Tryz.prog 233 #[U s] w (qB 3 1 (gA s).length ((gA s).map I) w):=by
 refine eH func233 rfl rfl fun hH=>SR<|va (v:= .slice none 0 0) rfl<|aa<|SR<|nu hH (aW Tryz.zeroValue99)<|fun b3 w1 aZ=>have gy:=aZ.fx 3 1;aa<|SR<|mU rfl<| ?_
 refine V (xV bC) ?_
 refine HS O (aN call251 (v1:=U s) O (v2:= .func (.func 252) #[] #[.pointer (some ⟨b3,0,none⟩)]) rfl) (VR 252 _ (fun l w'=>∃v,Hp w w' [.row v 3 1 l.length (l.map I),.blk b3 (.cells #[v] 99 (0,0))]) (fun _ _=>False) s _ call252 (fun l w' w'' h hb=>h.imp fun v h=>h.call hb) (fun l w' h=>h.elim fun v h=>hT.hp h) (fun l i r w' he h=>h.elim fun v h=>by
  have aEu:l.length<=64:=by have:=FQ s;rw[he]at this;simp at this;omega
  have hc:=OJ w b3 v l i w' h aEu
  refine jj.calls hc<|fun u w2 hq=>⟨true,hq.1,fun _=>hq.2,fun h=>oO⟩) ⟨.slice none 0 0,gy⟩) ?_
 rintro u w5 ⟨rfl,hor⟩
 obtain⟨v7,iT⟩:=hor.resolve_right (fun⟨_,_,_,_,h⟩=>h)
 refine aa<|SR<|lV bz iT 1 O O rfl<| ?_
 refine V (run_assign bC) ?_
 refine aa<|ai<|JM O O iT (i:=0) O (O) (O)
theorem CE(a b:BitVec 64)(w:World):Calls Tryz.prog 55 #[U a,U b] w (Pure (B (dX a b)) w):=by
 have hl:=FQ a
 refine eH func55 rfl rfl fun hH=>SR<|va (v:=B false) rfl<|aa<|SR<|mU rfl<|B3 O hH (Bb _ _) (an call101 O)<|fun v3 w1 aZ=> ?_
 refine V (run_assign bC) ?_
 refine aa<|ag<|SR<|va (v:=I 0) rfl<|aa<|ay<|bk (G:=Int) (fun k s' w'=>(Fr (4::(6::(rg 9 13 []))) _ s')/\(Hp w w' _)/\(s' 6=I k)/\(0<=k)/\(k<=(gA a).length)/\(∀j:Int,0<=j->j<k->hasB b ((gA a).getD j.toNat 0)=true)) (fun k=>((gA a).length-k).toNat) (0) ⟨Fr.refl _ _,aZ,rfl,J,J,fun j a b=>absurd b J⟩<| ?_
 rintro k sg4 w4 ⟨ux,gy,Fu,h0,hk,hf⟩
 obtain⟨sv,GH⟩:=ux.w2 1 5
 refine ag<|SR<|aE Fu<|aE GH<|V (aA (gy.sl (i:=0) O) O bz O)<|V (aM O O)<|aa<|aD O (fun h6=> ?_) (fun h6=> ?_)
 .refine ak<|ag<|ay<|SR<|aE sv<|aE GH<|aE Fu<|V (ah (gy.sl (i:=0) O) bz a8 O O J)<|V (aC bf O O ((gy.sl (i:=0) O).cell _ _ (eG J)))<|aG O gy (s6 _ _ _) (aN call102 O O)<|fun w7 eU=>V (bO O)<|aa<|bW O (fun h11=> ?_) (fun h11=> ?_)
  .refine SR<|va (v:=B false) rfl<|aa<|ai<|oB O ?_ eU
   (exact(alI h0 aK aK).symm)
  refine ak<|aq<|aE Fu<|V (ax O O J)<|aI rfl<|aa<| ?_
  refine⟨k+1,aT,ux.u4.u4.u4.u1.u1,eU,(aJ I aO),J,J,?_⟩
  exact fun j x y=>if e:j=k then e▸(by simpa using‹(!hasB b ((gA a).getD k.toNat 0))=false›)else hf j x J
 refine aY (id:=0) rfl<|SR<|va (v:=B true) rfl<|aa<|ai<|oB O ?_ gy
 (exact(afT fun j x y=>hf j x J).symm)
theorem bE(r:Rl)(w:World):Calls Tryz.prog 149 #[.agg (dP r)] w (Pure (I (pts r)) w):=by
 refine eH func149 rfl rfl fun hH=>SR<|gV hH (v:= .agg _) rfl<|fun b3 w1 aZ=>va (v:=I 0) rfl<|aa<|ag<|SR<|V (fA bL 0 O a8 O)<|lV bf aZ 0 O O (fy _)<|V (aM O O)<|aa<|aD O (fun h5=> ?_) (fun h5=> ?_)
 .refine SR<|va (v:=I 0) rfl<|aa<|ai<|oI O ?_ aZ
  (unfold pts;omega)
 refine ak<|ag<|SR<|V (fA bL 0 O a8 O)<|lV bf aZ 0 O O (fy _)<|V (cD O O)<|aa<|aD O (fun h7=> ?_) (fun h7=> ?_)
 .refine SR<|va (v:=I 64) rfl<|aa<|ai<|oI O ?_ aZ
  (unfold pts;omega)
 refine ak<|SR<|V (fA bL 0 O a8 O)<|lV bf aZ 0 O O (fy _)<|aI rfl<|aa<|ai<|oI O ?_ aZ
 (unfold pts;omega)
theorem kK(r:Rl)(w:World):Calls Tryz.prog 199 #[.agg (dP r)] w (Pure (I (pts r)) w):=by
 refine eH func199 rfl rfl fun hH=>SR<|gV hH (v:= .agg _) rfl<|fun b3 w1 aZ=>va (v:=I 0) rfl<|aa<|SR<|V (fA bL 0 O a8 O)<|lV bf aZ 0 O O (fy _)<|V (uP O O)<|V (FO O O)<|aI rfl<|aa<|ai<|oI O ?_ aZ
 rfl
theorem bA(r:Rl)(i j:Int)(w:World):Calls Tryz.prog 150 #[.agg (dP r),I i,I j] w (Pure (B (bH r i j)) w):=by
 have hp:=dr r
 refine eH func150 rfl rfl fun hH=>SR<|gV hH (v:= .agg _) rfl<|fun b3 w1 aZ=>va (v:=B false) rfl<|aa<|SR<|V (aQ bL O O O (aZ.blk (i:=0) O))<|aG O aZ (bE _ _) (an lF O)<|fun w4 bP=>aI rfl<|aa<|SR<|mI rfl<|V (dD O O)<|mB rfl<|bM 12 O (fun h7=> ?_) (fun h7=> ?_)
 .refine mI rfl<|V (dD O O)<|mB rfl<|mB rfl<|bM 16 O (fun h9=> ?_) (fun h9=> ?_)
  .refine mI rfl<|mI rfl<|V (aM O O)<|mB rfl<|mB rfl<|bM 21 O (fun h11=> ?_) (fun h11=> ?_)
   .refine mI rfl<|mI rfl<|V (aM O O)<|mB rfl<|mB rfl<|bM 26 O (fun OK=> ?_) (fun OK=> ?_)
    .refine mI rfl<|V (fA bL 1 O tA O)<|V (bg rL dg O O J)<|lV dZ bP 0 O O (wA _ J)<|mI rfl<|V (ju bf yU O)<|V (BZ O O)<|V (LA O (b:=2#64) O az)<|V (iZ O (b:=1#64) O)<|mB rfl<|aB rfl<|aa<|ai<|oB O ?_ bP
     exact alL J J J J
    refine aE (v:=B false) rfl<|aB rfl<|aa<|ai<|oB O ?_ bP
    exact(Km J).symm
   refine aE (v:=B false) rfl<|mB rfl<|bZ O rfl<|aE (v:=B false) rfl<|aB rfl<|aa<|ai<|oB O ?_ bP
   exact(Km J).symm
  refine aE (v:=B false) rfl<|mB rfl<|bZ O rfl<|aE (v:=B false) rfl<|mB rfl<|bZ O rfl<|aE (v:=B false) rfl<|aB rfl<|aa<|ai<|oB O ?_ bP
  exact(Km J).symm
 refine aE (v:=B false) rfl<|mB rfl<|bZ O rfl<|aE (v:=B false) rfl<|mB rfl<|bZ O rfl<|aE (v:=B false) rfl<|mB rfl<|bZ O rfl<|aE (v:=B false) rfl<|aB rfl<|aa<|ai<|oB O ?_ bP
 exact(Km J).symm
theorem uh(v:Value)(l:List Int)(x:Int)(w:World)(hs:Sl w v 1 l.length (l.map I)):Calls Tryz.prog 110 #[v,I x] w (Pure (B (l.contains x)) w):=by
 have hm:=hs.small
 unfold maxLen at hm
 refine eH func110 rfl rfl fun hH=>SR<|va (v:=B false) rfl<|aa<|ag<|SR<|va (v:=I 0) rfl<|aa<|ay<|bk (G:=Int) (fun k s' w'=>(Fr (rg 4 14 []) _ s')/\(Hp w w' _)/\(s' 5=I k)/\(0<=k)/\(k<=l.length)/\(∀j:Int,0<=j->j<k->l.getD j.toNat 0≠x)) (fun k=>(l.length-k).toNat) (0) ⟨Fr.refl _ _,hH,rfl,J,J,fun j a b=>absurd b J⟩<| ?_
 rintro k sg1 w1 ⟨ug,iI,No,h0,hk,hf⟩
 obtain⟨lX,zT⟩:=ug.w2 0 1
 refine ag<|SR<|aE No<|aE lX<|V (aA (hs.hp iI) O bz O)<|V (aM O O)<|aa<|aD O (fun h3=> ?_) (fun h3=> ?_)
 .refine ak<|ag<|ay<|SR<|aE lX<|aE No<|V (ah (hs.hp iI) bz a8 O O J)<|V (aC bf O O ((hs.hp iI).cell _ _ (eG J)))<|aE zT<|V (bN O O)<|aa<|aD O (fun h5=> ?_) (fun h5=> ?_)
  .refine SR<|va (v:=B true) rfl<|aa<|ai<|oB O ?_ iI
   (exact(aq1 h0 aK aK).symm)
  refine ak<|aq<|aE No<|V (ax O O J)<|aI rfl<|aa<| ?_
  refine⟨k+1,aT,ug.u4.u4.u4.u1,iI,(aJ I aO),J,J,?_⟩
  exact fun j a b=>if e:j=k then e▸‹¬l.getD k.toNat 0=x›else hf j a J
 refine aY (id:=0) rfl<|SR<|va (v:=B false) rfl<|aa<|ai<|oB O ?_ iI
 (exact(av6 fun j a b=>hf j a J).symm)
theorem zV(r:Rl)(i:Int)(hi:0<=i/\i<64)(w:World):Calls Tryz.prog 200 #[.agg (dP r),I i] w (Pure (U (uT r i)) w):=by
 refine eH func200 rfl rfl fun hH=>SR<|gV hH (v:= .agg _) rfl<|fun b3 w1 aZ=>va (v:=U 0#64) rfl<|aa<|ag<|ed aP aZ<|fun w4 bP=>have OL:=bP;AQ 0 O OL (mV (I _) O)<|AQ 1 O OL (fA bL 1 O tA O)<|AQ 2 O OL (bg rL dg O O J)<|tV 3 O OL dZ 0 O O (wA _ J)<|AT 4 O OL (fun w hS=>aQ bL O O O (hS.blk (i:=0) O))<|A1 5<|bX O aH O bP sR (kK _ _) (an HI O)<|fun w6 eN=>A1 6<|bX O aH O eN sR (ox _ _) (an HG O)<|fun w8 iJ=>AQ 7 O iJ (lH O O)<|AQ 8 O iJ (aV (U _) O)<|AD<|ai<|oU O ?_ iJ
 rfl
theorem qT(r:Rl)(w:World):Calls Tryz.prog 165 #[.agg (dP r)] w (Pure (.agg (dP (ey r))) w):=by
 have hp:=dr r
 refine eH func165 rfl rfl fun hH=>SR<|gV hH (v:= .agg _) rfl<|fun b3 w1 aZ=>nu aZ (aW pq)<|fun b6 w4 bP=>aa<|SR<|V (aQ bL O O O (bP.blk (i:=1) O))<|aG O bP (kK _ _) (an HI O)<|fun w7 eU=>V (dx (vs:=[(0,I _)]) O (yp _))<|nu eU (aW pq)<|fun VT w9 bV=>bt bV (i:=0) O (mN O O O (bV.blk (i:=0) O))<|fun Bv cm=>aa<|ag<|SR<|V (fA bL 0 O a8 O)<|lV bf cm 0 O O (fy _)<|aE (v:=I 0) rfl<|aa<|ay<|have hz:(⟨pts r,fun _=>0#64⟩:Rl).n=pts r:=rfl;bk (G:=Int×Rl) (fun⟨k,r1⟩ s' w'=>(Fr (4::(rg 10 10 [])) _ s')/\(Hp w w' (.blk VT (.cells (dP r1) 86 (0,0))::_))/\(s' 10=I k)/\(0<=k)/\(k<=pts r)/\(r1=D0 (pts r) (fun i=>uT r i) k)) (fun⟨k,r1⟩=>(pts r-k).toNat) ((0,⟨pts r,fun _=>0#64⟩)) ⟨Fr.refl _ _,cm,rfl,J,J,H7 _ _⟩<| ?_
 rintro⟨k,r1⟩ VU Np ⟨kq,cg,Nq,h0,hk,hr⟩
 obtain⟨Nr,AP,jt,AR⟩:=kq.w4 1 2 3 9
 have hn:r1.n=pts r:=by rw[hr];rfl
 refine SR<|V (aM Nq AR)<|aa<|ag<|aD O (fun wc=> ?_) (fun wc=> ?_)
 .refine ak<|ag<|ay<|SR<|aE Nq<|aI rfl<|aa<|aq<|mI rfl<|V (aQ bL O O Nr (cg.blk (i:=2) O))<|mI rfl<|aG O cg (zV _ _ J _) (aN call200 O O)<|fun OM dQ=>V (fA bL 1 O tA jt)<|V (bg rL dg O O J)<|bt dQ (i:=0) O (bQ O O (v:=U _) O O O (dQ.blk (i:=0) O) HO)<|fun VV cS=> ?_
  rw[xX]at cS
  refine aa<|aq<|V (ax Nq O J)<|mI rfl<|aa<| ?_
  refine⟨(k+1,_),aT,kq.u4.u4.u1.u1.u1,cS,(aJ I aO),J,J,?_⟩
  rw[hr];exact LL h0 (by rw[fW h0])
 refine aY (id:=0) rfl<|SR<|V (aQ bL O O jt (cg.blk (i:=0) O))<|bt cg (i:=1) O (mN O AP O (cg.blk (i:=1) O))<|fun Qu dm=>aa<|ai<|af4 O AP dm (i:=1) O bL O O ⟨?_,dm.below⟩
 (rw[hr,show k=pts r by omega];rfl)
theorem CF(r:Rl)(s:BitVec 64)(w:World)(hT:oG w):Calls Tryz.prog 209 #[.agg (dP r),U s] w (Pure (U (upR r s)) w):=by
 have hp:=dr r
 refine eH func209 rfl rfl fun hH=>SR<|gV hH (v:= .agg _) rfl<|fun b3 w1 aZ=>va (v:=U 0#64) rfl<|aa<|SR<|va (v:=U 0#64) rfl<|aa<|ag<|SR<|mU rfl<|V (aQ bL O O O (aZ.blk (i:=0) O))<|aG O aZ (kK _ _) (an HI O)<|fun w4 bP=>aG O bP (ox _ _) (an HG O)<|fun w6 eN=>V (lH O O)<|B3 O eN (CD _ _ (hT.hp eN)) (an call233 O)<|fun v10 w8 iJ=>V (aA (iJ.sl (i:=0) O) O bz O)<|aE (v:=I 0) rfl<|aa<|ay<|have hl:=FQ (s&&&below (pts r));bk (G:=Int) (fun k s' w'=>(Fr (5::(7::(rg 15 10 []))) _ s')/\(Hp w w' _)/\(s' 5=U (wz (uT r) ((gA (s&&&below (pts r))).take k.toNat)))/\(s' 15=I k)/\(0<=k)/\(k<=(gA (s&&&below (pts r))).length)) (fun k=>((gA (s&&&below (pts r))).length-k).toNat) (0) ⟨Fr.refl _ _,iJ,(aJ U (by simp[wz])),rfl,J,J⟩<| ?_
 rintro k axH FK ⟨S0,dJ,VW,ZG,h0,hk⟩
 obtain⟨apC,asS,asT⟩:=S0.w3 2 13 14
 refine SR<|V (aM ZG asT)<|aa<|ag<|aD O (fun OK=> ?_) (fun OK=> ?_)
 .refine ak<|ag<|ay<|SR<|V (ah (dJ.sl (i:=0) O) bz a8 asS ZG J)<|V (aC bf O O ((dJ.sl (i:=0) O).cell _ _ (eG J)))<|aI rfl<|aa<|aq<|aE VW<|V (aQ bL O O apC (dJ.blk (i:=1) O))<|mI rfl<|aG O dJ (zV _ _ (by exact Pb nU nU) _) (aN call200 O O)<|fun Np fp=>V (jH O O)<|aU rfl<|aa<|aq<|V (ax ZG O J)<|mI rfl<|aa<| ?_
  refine⟨k+1,aT,S0.u4.u4.u4,fp,(aJ U (LM h0 aK)),(aJ I aO),J,J⟩
 refine aY (id:=0) rfl<|SR<|aE VW<|aU rfl<|aa<|ai<|oU O ?_ dJ
 (rw[LK aK];rfl)
theorem xD(r:Rl)(s:BitVec 64)(w:World):Calls Tryz.prog 211 #[.agg (dP r),U s] w (Pure (U (D1 r s)) w):=by
 have hp:=dr r
 refine eH func211 rfl rfl fun hH=>SR<|gV hH (v:= .agg _) rfl<|fun b3 w1 aZ=>va (v:=U 0#64) rfl<|aa<|SR<|va (v:=U 0#64) rfl<|aa<|ag<|SR<|V (aQ bL O O O (aZ.blk (i:=0) O))<|aG O aZ (kK _ _) (an HI O)<|fun w4 bP=>aE (v:=I 0) rfl<|aa<|ay<|bk (G:=Int) (fun k s' w'=>(Fr (5::6::(rg 9 13 [])) _ s')/\(Hp w w' _)/\(s' 5=U (xp r s k))/\(s' 9=I k)/\(0<=k)/\(k<=pts r)) (fun k=>(pts r-k).toNat) (0) ⟨Fr.refl _ _,bP,(aJ U (by simp[xp,nX])),rfl,J,J⟩<| ?_
 rintro k sg6 w6 ⟨Qs,iT,asU,anK,h0,hk⟩
 obtain⟨OF,ajr,aEv⟩:=Qs.w3 1 2 8
 refine SR<|V (aM anK aEv)<|aa<|ag<|aD O (fun h8=> ?_) (fun h8=> ?_)
 .refine ak<|ag<|ay<|SR<|aE anK<|aI rfl<|aa<|SR<|V (aQ bL O O ajr (iT.blk (i:=0) O))<|mI rfl<|aG O iT (zV _ _ J _) (aN call200 O O)<|fun w9 bV=>aE OF<|V (lH O O)<|V (uN O (b:=0#64) O)<|aa<|aD O (fun h12=> ?_) (fun h12=> ?_)
  .refine aq<|aE asU<|mI rfl<|aG O bV (CC _ _ _) (aN call231 O O)<|fun Bw cg=>aU rfl<|aa<|aq<|V (ax anK O J)<|mI rfl<|aa<| ?_
   refine⟨k+1,aT,Qs.u4.u4.u4.u1.u1.u1,cg,(aJ U (by exact afZ h0 J aK)),(aJ I aO),J,J⟩
  refine ak<|aq<|V (ax anK O J)<|mI rfl<|aa<| ?_
  refine⟨k+1,aT,Qs.u4.u4.u1.u1.u1,bV,(jW asU (aJ U (by exact af0 h0 aK))),(aJ I aO),J,J⟩
 refine aY (id:=0) rfl<|SR<|aE asU<|aU rfl<|aa<|ai<|oU O ?_ iT
 (rw[show k=pts r by omega];rfl)
theorem qU(r:Rl)(w:World):Calls Tryz.prog 242 #[.agg (dP r)] w (Pure (.agg (dP (ey r))) w):=by
 have hp:=dr r
 refine eH func242 rfl rfl fun hH=>SR<|gV hH (v:= .agg _) rfl<|fun b3 w1 aZ=>nu aZ (aW pq)<|fun b6 w4 bP=>aa<|SR<|V (aQ bL O O O (bP.blk (i:=1) O))<|aG O bP (bE _ _) (an lF O)<|fun w7 eU=>V (dx (vs:=[(0,I _)]) O (yp _))<|nu eU (aW pq)<|fun VT w9 bV=>bt bV (i:=0) O (mN O O O (bV.blk (i:=0) O))<|fun Bv cm=>aa<|ag<|SR<|va (v:=I 0) rfl<|aa<|ay<|have hz:(⟨pts r,fun _=>0#64⟩:Rl).n=pts r:=rfl;bk (G:=Int×Rl) (fun⟨k,r1⟩ s' w'=>(Fr (rg 4 3 (rg 10 25 [])) _ s')/\(Hp w w' (.blk VT (.cells (dP r1) 86 (0,0))::_))/\(s' 4=I k)/\(0<=k)/\(k<=pts r)/\(r1=D0 (pts r) (fun i=>uT r i) k)) (fun⟨k,r1⟩=>(pts r-k).toNat) ((0,⟨pts r,fun _=>0#64⟩)) ⟨Fr.refl _ _,cm,rfl,J,J,H7 _ _⟩<| ?_
 rintro⟨k,r1⟩ VU Np ⟨kq,cg,yu,h0,hk,hr⟩
 obtain⟨Nr,AP,jt⟩:=kq.w3 1 2 3
 have hn:r1.n=pts r:=by rw[hr];rfl
 refine ag<|SR<|aE yu<|V (fA bL 0 O a8 jt)<|lV bf cg 0 O O (fy _)<|V (aM O O)<|aa<|aD O (fun wc=> ?_) (fun wc=> ?_)
 .refine ak<|ag<|ay<|SR<|va (v:= .slice none 0 0) rfl<|have dS:=cg.fx 3 1;aa<|ag<|SR<|va (v:=I 0) rfl<|aa<|ay<|bk (G:=Int×(List Int)×Value) (fun⟨j,l,v5⟩ s' w'=>(Fr (5::6::(rg 16 14 [])) _ s')/\(Hp w w' (.row v5 3 1 (l.length) (l.map I)::_))/\(s' 5=v5)/\(s' 6=I j)/\(0<=j)/\(j<=pts r)/\(l=qD r k j)) (fun⟨j,l,v5⟩=>(pts r-j).toNat) ((0,[],(.slice none 0 0:Value))) ⟨Fr.refl _ _,dS,rfl,rfl,J,J,rfl⟩<| ?_
  rintro⟨j,l,v5⟩ asV Ou ⟨xE,dQ,ajs,VX,j0,j1,hl⟩
  obtain⟨abR,Ns,Nt⟩:=xE.t3 1 Nr 3 jt 4 yu
  refine ag<|SR<|aE VX<|V (fA bL 0 O a8 Ns)<|lV bf dQ 1 O O (fy _)<|V (aM O O)<|aa<|aD O (fun KP=> ?_) (fun KP=> ?_)
  .refine ak<|ag<|ay<|SR<|V (aQ bL O O abR (dQ.blk (i:=3) O))<|aE Nt<|aE VX<|aG O dQ (bA _ _ _ _) (bB iX O O O)<|fun Qu dm=>aa<|bW O (fun AM=> ?_) (fun AM=> ?_)
   .refine aq<|aE ajs<|aE VX<|xP 1 1 dm (cA bz O O (sz:=1) (vs:=[I _]) O O az az O O)<|fun b27 w25 kG=> ?_
    (try simp only[o4]at kG)
    refine jI O kG (i:=1) O (kG.dV (i:=0) (n:=1) (sz:=1) O O az) O O bz O O (size:=1) (bytes:=8) O O O az iF (by have:= @Pa r k j;rw[<-hl]at this;omega) (by have:= @Pa r k j;rw[<-hl]at this;simp only[maxLen];omega)<|fun v28 w29 jf=> ?_
    refine V (run_assign bC) ?_
    refine aa<|aq<|aE VX<|V (ax O O J)<|aI rfl<|aa<| ?_
    refine⟨(j+1,l++[j],v28),aT,xE.u4.u4.u4.u4,(Hp.conv (jf.sub (sQ sR)) aF),rfl,(aJ I aO),J,J,?_⟩
    (rw[hl];exact acM j0 aK)
   refine ak<|aq<|aE VX<|V (ax O O J)<|aI rfl<|aa<| ?_
   refine⟨(j+1,l,v5),aT,xE.u4.u4.u1.u1.u1,(Hp.conv dm aO),ajs,(aJ I aO),J,J,?_⟩
   (rw[hl];exact acN j0 aK)
  refine aY (id:=2) rfl<|aq<|aE Nt<|aE ajs<|aG O dQ (iC _ _ _ (dQ.sl (i:=0) O)) (an HH O)<|fun w31 fJ=>V (fA bL 1 O tA Ns)<|V (bg rL dg O O J)<|bt fJ (i:=1) O (bQ O O (v:=U _) O O O (fJ.blk (i:=1) O) HO)<|fun w33 ni=> ?_
  rw[xX]at ni
  refine aa<|aq<|aE Nt<|V (ax O O J)<|aI rfl<|aa<| ?_
  refine⟨(k+1,_),aT,(((kq.u4.u1.u1).t xE O)).u4.u4.u4,(ni.sub (sQ sR)),(aJ I aO),J,J,?_⟩
  rw[hr];exact LL h0 (by rw[fW h0,hl,show j=pts r by omega];exact acO ⟨h0,J⟩)
 refine aY (id:=0) rfl<|SR<|V (aQ bL O O jt (cg.blk (i:=0) O))<|bt cg (i:=1) O (mN O AP O (cg.blk (i:=1) O))<|fun w35 oe=>aa<|ai<|af4 O AP oe (i:=1) O bL O O ⟨?_,oe.below⟩
 (rw[hr,show k=pts r by omega];rfl)
theorem IQ(r:Rl)(w:World):Calls Tryz.prog 201 #[.agg (dP r)] w (Pure (.agg (dP (gX r))) w):=by
 have hp:=dr r
 have hn0:(ey r).n=pts r:=rfl
 refine eH func201 rfl rfl fun hH=>SR<|gV hH (v:= .agg _) rfl<|fun b3 w1 aZ=>nu aZ (aW pq)<|fun b6 w4 bP=>aa<|SR<|V (aQ bL O O O (bP.blk (i:=1) O))<|aG O bP (qT _ _) (an call165 O)<|fun w7 eU=>nu eU (aW pq)<|fun VT w9 bV=>bt bV (i:=0) O (mN O O O (bV.blk (i:=0) O))<|fun Bv cm=>aa<|ag<|SR<|V (fA bL 0 O a8 O)<|lV bf cm 0 O O (fy _)<|aE (v:=I 0) rfl<|aa<|ay<|bk (G:=Int×Rl) (fun⟨k,r1⟩ s' w'=>(Fr (4::(rg 11 13 [])) _ s')/\(Hp w w' (.blk VT (.cells (dP r1) 86 (0,0))::_))/\(s' 11=I k)/\(0<=k)/\(k<=pts r)/\(r1=⟨pts r,pL (ey r).up k⟩)) (fun⟨k,r1⟩=>(pts r-k).toNat) ((0,ey r)) ⟨Fr.refl _ _,cm,rfl,J,J,acP _ _⟩<| ?_
 rintro⟨k,r1⟩ VU Np ⟨kq,cg,Nu,h0,hk,hr⟩
 obtain⟨AP,jt,Nq⟩:=kq.w3 2 3 10
 have hn:r1.n=pts r:=by rw[hr]
 refine SR<|V (aM Nu Nq)<|aa<|ag<|aD O (fun wc=> ?_) (fun wc=> ?_)
 .refine ak<|ag<|ay<|SR<|aE Nu<|aI rfl<|aa<|aq<|mI rfl<|mI rfl<|V (fA bL 1 O tA jt)<|V (bg rL dg O O J)<|lV dZ cg 0 O O (wA _ J)<|mI rfl<|aG O cg (CC _ _ _) (aN call231 O O)<|fun OM dQ=>V (fA bL 1 O tA jt)<|V (bg rL dg O O J)<|bt dQ (i:=0) O (bQ O O (v:=U _) O O O (dQ.blk (i:=0) O) HO)<|fun VV cS=> ?_
  rw[xX]at cS
  refine aa<|aq<|V (ax Nu O J)<|mI rfl<|aa<| ?_
  refine⟨(k+1,_),aT,kq.u4.u4.u4.u1.u1,cS,(aJ I aO),J,J,?_⟩
  rw[hr];exact af1 h0
 refine aY (id:=0) rfl<|ag<|SR<|V (fA bL 0 O a8 jt)<|lV bf cg 0 O O (fy _)<|aE (v:=I 0) rfl<|aa<|ay<|bk (G:=Int×Rl) (fun⟨m,r2⟩ s' w'=>(Fr (5::6::(rg 26 27 [])) _ s')/\(Hp w w' (.blk VT (.cells (dP r2) 86 (0,0))::_))/\(s' 26=I m)/\(0<=m)/\(m<=pts r)/\(r2=⟨pts r,wall (pts r) (pL (ey r).up (pts r)) m.toNat⟩)) (fun⟨m,r2⟩=>(pts r-m).toNat) ((0,r1)) ⟨Fr.refl _ _,cg,rfl,J,J,(by rw[hr,show k=pts r by omega];rfl)⟩<| ?_
 rintro⟨m,r2⟩ aEw Qu ⟨aee,fB,ZH,m0,m1,hr2⟩
 have asX:=aee.w1 25
 obtain⟨apD,Nv⟩:=aee.t2 2 AP 3 jt
 have PU:r2.n=pts r:=by rw[hr2]
 refine SR<|V (aM ZH asX)<|aa<|ag<|aD O (fun DN=> ?_) (fun DN=> ?_)
 .refine ak<|ag<|ay<|SR<|aE ZH<|aI rfl<|aa<|SR<|V (fA bL 0 O a8 Nv)<|lV bf fB 0 O O (fy _)<|aE (v:=I 0) rfl<|aa<|ay<|bk (G:=Int×Rl) (fun⟨i,r3⟩ s' w'=>(Fr (6::(rg 31 21 [])) _ s')/\(Hp w w' (.blk VT (.cells (dP r3) 86 (0,0))::_))/\(s' 31=I i)/\(0<=i)/\(i<=pts r)/\(r3=⟨pts r,jJ m.toNat i r2.up⟩)) (fun⟨i,r3⟩=>(pts r-i).toNat) ((0,r2)) ⟨Fr.refl _ _,fB,rfl,J,J,(by rw[hr2];exact acQ _ _ _)⟩<| ?_
  rintro⟨i,r3⟩ aNd w24 ⟨aef,mK,Nw,i0,i1,hr3⟩
  obtain⟨apE,asY⟩:=aef.w2 5 30
  obtain⟨abS,asZ⟩:=aef.t2 3 Nv 26 ZH
  have hn3:r3.n=pts r:=by rw[hr3]
  refine SR<|V (aM Nw asY)<|aa<|ag<|aD O (fun VY=> ?_) (fun VY=> ?_)
  .refine ak<|ag<|ay<|SR<|aE Nw<|aI rfl<|aa<|SR<|mI rfl<|V (fA bL 1 O tA abS)<|V (bg rL dg O O J)<|lV dZ mK 0 O O (wA _ J)<|aE apE<|aG O mK (ZF _ _ _) (aN call232 O O)<|fun w27 gk=>aa<|bW O (fun GI=> ?_) (fun GI=> ?_)
   .refine gK aP gk (sQ sR)<|fun w31 fJ=>have DO:=fJ.sub (sQ sR);AQ 0 O DO (mV (I _) O)<|AQ 1 O DO (fA bL 1 O tA abS)<|AQ 2 O DO (bg rL dg O O J)<|AQ 4 O DO (run_move apE)<|AQ 5 O DO (fA bL 1 O tA abS)<|AQ 6 O DO (bg rL dg O O J)<|AQ 9 O DO (fA bL 1 O tA abS)<|gD 3 7 aP ?_ ?_
    .refine cr O aH O fJ (sQ sR) (aC dZ O O (fJ.cell (i:=0) O (wA _ J)))<|A1 7<|cr O aH O fJ (sQ sR) (aC dZ O O (fJ.cell (i:=0) O (wA _ J)))<|AQ 8 O DO (jH O O)<|AQ 10 O DO (bg rL dg O O J)<|A1 11<|dU O aH fJ (j:=0) O (sQ sR) (bQ O O (v:=U _) O O O (fJ.blk (i:=0) O) HO)<|fun w39 oy=> ?_
     rw[xX]at oy
     refine AD<|aq<|V (ax Nw O J)<|mI rfl<|aa<| ?_
     refine⟨(i+1,_),aT,aef.u4.u4.u4.u4.u4.u1.u1,oy,(aJ I aO),J,J,?_⟩
     (rw[hr3]at*;exact T2 m0 i0 aK)
    refine cr O aH O fJ (sQ sR) (aC dZ O O (fJ.cell (i:=0) O (wA _ J)))<|A1 3<|cr O aH O fJ (sQ sR) (aC dZ O O (fJ.cell (i:=0) O (wA _ J)))<|AQ 8 O DO (jH O O)<|AQ 10 O DO (bg rL dg O O J)<|A1 11<|dU O aH fJ (j:=0) O (sQ sR) (bQ O O (v:=U _) O O O (fJ.blk (i:=0) O) HO)<|fun w47 nj=> ?_
    rw[xX]at nj
    refine AD<|aq<|V (ax Nw O J)<|mI rfl<|aa<| ?_
    refine⟨(i+1,_),aT,aef.u4.u4.u4.u4.u4.u1.u1,nj,(aJ I aO),J,J,?_⟩
    (rw[hr3]at*;exact T2 m0 i0 aK)
   refine ak<|aq<|V (ax Nw O J)<|mI rfl<|aa<| ?_
   refine⟨(i+1,_),aT,aef.u4.u4.u1.u1.u1,gk,(aJ I aO),J,J,?_⟩
   (rw[hr3]at*;exact af3 ⟨m0,J⟩ i0 aK)
  refine aY (id:=4) rfl<|aq<|V (ax asZ O J)<|mI rfl<|aa<| ?_
  refine⟨(m+1,_),aT,(((aee.u4.u1.u1).t aef O)).u1.u1.u1,mK,(aJ I aO),J,J,?_⟩
  rw[hr3,hr2,show i=pts r by omega];exact acR m0
 refine aY (id:=2) rfl<|SR<|V (aQ bL O O Nv (fB.blk (i:=0) O))<|bt fB (i:=1) O (mN O apD O (fB.blk (i:=1) O))<|fun w49 eT=>aa<|ai<|af4 O apD eT (i:=1) O bL O O ⟨?_,eT.below⟩
 (rw[hr2,show m=pts r by omega];rfl)
theorem zX(r:Rl)(i:Int)(w:World):Calls Tryz.prog 215 #[.agg (dP r),I i] w (qB 3 1 (xq r i).length ((xq r i).map I) w):=by
 have hp:=dr r
 refine eH func215 rfl rfl fun hH=>SR<|gV hH (v:= .agg _) rfl<|fun b3 w1 aZ=>va (v:= .slice none 0 0) rfl<|have gy:=aZ.fx 3 1;aa<|ag<|SR<|mI rfl<|V (aM O O)<|mB rfl<|bM 10 O (fun h6=> ?_) (fun h6=> ?_)
 .refine aE (v:=B true) rfl<|aa<|cC rfl<|SR<|va (v:= .slice none 0 0) rfl<|have eN:=gy.fx 3 1;aa<|ai<|JM O O eN (i:=0) O RF RF
 refine mI rfl<|V (aQ bL O O O (gy.blk (i:=1) O))<|aG O gy (bE _ _) (an lF O)<|fun w8 iJ=>V (dD O O)<|mB rfl<|aa<|aD O (fun h11=> ?_) (fun h11=> ?_)
 .refine SR<|va (v:= .slice none 0 0) rfl<|have cJ:=iJ.fx 3 1;aa<|ai<|JM O O cJ (i:=0) O RF RF
 refine ak<|SR<|mI rfl<|xP 1 1 iJ (cA bz O O (sz:=1) (vs:=[I _]) O O az az O O)<|fun b15 Bw cg=> ?_
 (try simp only[o4]at cg)
 have cI:=cg.EV 1 1 O az
 refine V (run_assign bC) ?_
 refine aa<|ag<|SR<|va (v:=I 0) rfl<|aa<|ay<|bk (G:=Int×(List Int)×Value) (fun⟨a,l,v5⟩ s' w'=>(Fr (rg 5 3 (rg 18 29 [])) _ s')/\(Hp w w' (.row v5 3 1 (l.length) (l.map I)::_))/\(s' 5=v5)/\(s' 6=I a)/\(0<=a)/\(a<=l.length)/\(T4 r l)/\(WO r (65-a.toNat) a.toNat l=xq r i)) (fun⟨a,l,v5⟩=>((65:Int)-a).toNat) ((0,[i],(.slice (some ⟨b15,0,none⟩) 1 1:Value))) ⟨Fr.refl _ _,cI,rfl,rfl,J,aF,T4.one J,(by rw[xq,aS (qC.2 J)];rfl)⟩<| ?_
 rintro⟨a,l,v5⟩ axJ OM ⟨ON,dS,Jz,abT,a0,a1,hok,hl⟩
 obtain⟨apG,apH⟩:=ON.w2 2 4
 refine ag<|SR<|aE abT<|aE Jz<|V (aA (dS.sl (i:=0) O) O bz O)<|V (aM O O)<|aa<|aD O (fun J1=> ?_) (fun J1=> ?_)
 .refine ak<|ag<|ay<|SR<|va (v:=I 0) rfl<|aa<|ay<|bk (G:=Int×(List Int)×Value) (fun⟨b,l2,v5⟩ s' w'=>(Fr (5::(7::(rg 24 23 []))) _ s')/\(Hp w w' (.row v5 3 1 (l2.length) (l2.map I)::_))/\(s' 5=v5)/\(s' 7=I b)/\(0<=b)/\(b<=pts r)/\(l2=scan r (l.getD a.toNat 0) l b.toNat)/\(T4 r l2)/\(l.length<=l2.length)/\(l2.getD a.toNat 0=l.getD a.toNat 0)) (fun⟨b,l2,v5⟩=>(pts r-b).toNat) ((0,l,(v5:Value))) ⟨Fr.refl _ _,dS,Jz,rfl,J,J,rfl,hok,er _,rfl⟩<| ?_
  rintro⟨b,l2,v5⟩ aNe w20 ⟨aju,cS,Qv,Nx,b0,b1,h2,VZ,hle,T6⟩
  obtain⟨apI,apJ⟩:=aju.t2 2 apG 6 abT
  refine ag<|SR<|aE Nx<|V (aQ bL O O apI (cS.blk (i:=2) O))<|aG O cS (bE _ _) (an lF O)<|fun Qu dm=>V (aM O O)<|aa<|aD O (fun AM=> ?_) (fun AM=> ?_)
  .refine ak<|ag<|ay<|ag<|ed aP dm<|fun w25 kG=>have J2:=kG;AT 0 O J2 (fun w hS=>aQ bL O O apI (hS.blk (i:=2) O))<|AQ 1 O J2 (run_move Qv)<|AQ 2 O J2 (run_move apJ)<|AT 3 O J2 (fun w hS=>ah (hS.sl (i:=0) O) bz a8 O O J)<|AT 4 O J2 (fun w hS=>aC bf O O ((hS.sl (i:=0) O).cell _ _ (eG J)))<|AQ 5 O J2 (run_move Nx)<|A1 6<|bX O aH O kG sR (bA r (l2.getD a.toNat 0) b _) (bB iX O O O)<|fun w27 gk=>have Fv:=gk;AQ 7 O Fv (mV (B _) O)<|Jj (dj:=37) O (fun GI=> ?_) (fun GI=> ?_)
   .refine BQ 8 O O (bR (c:=true) GI) gk (run_move Qv)<|BQ 9 O O (bR (c:=true) GI) gk (run_move Nx)<|A1 10<|bX O (Aw O (bR (c:=true) GI)) O gk sR (uh _ _ _ _ (gk.sl (i:=0) O)) (aN call110 O O)<|fun w31 fJ=>BQ 11 O O (bR (c:=true) GI) fJ (bO O)<|AQ 12 O fJ (fZ (bR (c:=true) GI) (v:=B _) O)<|AD<|bW O (fun DP=> ?_) (fun DP=> ?_)
    .refine aq<|aE Qv<|aE Nx<|xP 1 1 fJ (cA bz O O (sz:=1) (vs:=[I _]) O O az az O O)<|fun b38 w36 yw=> ?_
     (try simp only[o4]at yw)
     refine jI O yw (i:=1) O (yw.dV (i:=0) (n:=1) (sz:=1) O O az) O O bz O O (size:=1) (bytes:=8) O O O az iF (by have:=VZ.len;omega) (by have:=VZ.len;simp only[maxLen];omega)<|fun v39 w40 iU=> ?_
     refine V (run_assign bC) ?_
     refine aa<|aq<|aE Nx<|V (ax O O J)<|aI rfl<|aa<| ?_
     refine⟨(b+1,l2++[b],v39),aT,aju.u4.u4.u4.u4.u4.u4.u1,(Hp.conv (iU.sub (sQ sR)) aF),rfl,(aJ I aO),J,J,?_,?_,Lu,?_⟩
     .rw[T6]at*;((rw[h2]at*;exact af7 b0 aK (nt aK)))
     .exact VZ.add ⟨b0,aK⟩ (nt aK)
     (rw[<-T6,eS,eS,yK J])
    refine ak<|aq<|aE Nx<|V (ax O O J)<|aI rfl<|aa<| ?_
    refine⟨(b+1,l2,v5),aT,aju.u4.u4.u4.u4.u4,(Hp.conv fJ aO),Qv,(aJ I aO),J,J,?_,?_,?_,?_⟩
    .rw[T6]at*;((rw[h2]at*;exact af9 b0 (nf aK)))
    .exact VZ
    .exact hle
    exact T6
   refine AK 8 O O (bR (c:=false) GI) gk<|AK 9 O O (bR (c:=false) GI) gk<|AK 10 O O (bR (c:=false) GI) gk<|AK 11 O O (bR (c:=false) GI) gk<|AQ 12 O Fv (dM (bR (c:=false) GI) (v:=B false) O)<|AD<|cL rfl<|ak<|aq<|aE Nx<|V (ax O O J)<|aI rfl<|aa<| ?_
   refine⟨(b+1,l2,v5),aT,aju.u4.u4.u4.u4.u4,(Hp.conv gk aO),Qv,(aJ I aO),J,J,?_,?_,?_,?_⟩
   .rw[T6]at*;((rw[h2]at*;exact af8 b0 aK))
   .exact VZ
   .exact hle
   exact T6
  refine aY (id:=2) rfl<|aq<|aE apJ<|V (ax O O (by have:=hok.len;omega))<|aI rfl<|aa<| ?_
  refine⟨(a+1,l2,v5),?_,(((ON.u4.u1).t aju O)).u4.u1.u1.u1,(Hp.conv dm aO),Qv,(aJ I aO),J,J,?_,?_⟩
  .have:=hok.len;(try dsimp only);omega
  .exact VZ
  (rw[h2,show b=pts r by omega,<-af6 a0 aK hok.len];exact hl)
 refine aY (id:=0) rfl<|SR<|aE Jz<| ?_
 refine V (run_assign bC) ?_
 refine aa<|ai<|JM O O dS (i:=0) O (by rw[<-hl,aaC a0 aK]) (by rw[<-hl,aaC a0 aK])
theorem pu(r:Rl)(w:World):Calls Tryz.prog 183 #[.agg (dP r)] w (Pure (.agg (dP (gX r))) w):=by
 have hp:=dr r
 refine eH func183 rfl rfl fun hH=>SR<|gV hH (v:= .agg _) rfl<|fun b3 w1 aZ=>nu aZ (aW pq)<|fun b6 w4 bP=>aa<|SR<|V (aQ bL O O O (bP.blk (i:=1) O))<|aG O bP (bE _ _) (an lF O)<|fun w7 eU=>V (dx (vs:=[(0,I _)]) O (yp _))<|nu eU (aW pq)<|fun VT w9 bV=>bt bV (i:=0) O (mN O O O (bV.blk (i:=0) O))<|fun Bv cm=>aa<|ag<|SR<|va (v:=I 0) rfl<|aa<|ay<|have hz:(⟨pts r,fun _=>0#64⟩:Rl).n=pts r:=rfl;bk (G:=Int×Rl) (fun⟨k,r1⟩ s' w'=>(Fr (4::(rg 8 13 [])) _ s')/\(Hp w w' (.blk VT (.cells (dP r1) 86 (0,0))::_))/\(s' 4=I k)/\(0<=k)/\(k<=pts r)/\(r1=D0 (pts r) (fun i=>kO (xq r i)) k)) (fun⟨k,r1⟩=>(pts r-k).toNat) ((0,⟨pts r,fun _=>0#64⟩)) ⟨Fr.refl _ _,cm,rfl,J,J,H7 _ _⟩<| ?_
 rintro⟨k,r1⟩ VU Np ⟨kq,cg,yu,h0,hk,hr⟩
 obtain⟨Nr,AP,jt⟩:=kq.w3 1 2 3
 have hn:r1.n=pts r:=by rw[hr];rfl
 refine ag<|SR<|aE yu<|V (fA bL 0 O a8 jt)<|lV bf cg 0 O O (fy _)<|V (aM O O)<|aa<|aD O (fun wc=> ?_) (fun wc=> ?_)
 .refine ak<|ag<|ay<|aq<|aE yu<|V (aQ bL O O Nr (cg.blk (i:=2) O))<|aE yu<|B3 O cg (zX _ _ _) (aN call215 O O)<|fun v19 OM dQ=>aG O dQ (iC _ _ _ (dQ.sl (i:=0) O)) (an HH O)<|fun w20 fB=>V (fA bL 1 O tA jt)<|V (bg rL dg O O J)<|bt fB (i:=1) O (bQ O O (v:=U _) O O O (fB.blk (i:=1) O) HO)<|fun OO eO=> ?_
  rw[xX]at eO
  refine aa<|aq<|aE yu<|V (ax O O J)<|aI rfl<|aa<| ?_
  refine⟨(k+1,_),aT,kq.u4.u4.u4.u1.u1,(eO.sub (sQ sR)),(aJ I aO),J,J,?_⟩
  rw[hr];exact LL h0 (by rw[fW h0])
 refine aY (id:=0) rfl<|SR<|V (aQ bL O O jt (cg.blk (i:=0) O))<|bt cg (i:=1) O (mN O AP O (cg.blk (i:=1) O))<|fun w24 og=>aa<|ai<|af4 O AP og (i:=1) O bL O O ⟨?_,og.below⟩
 (rw[hr,show k=pts r by omega,alO])
theorem Ee(a b:Rl)(w:World):Calls Tryz.prog 136 #[.agg (dP a),.agg (dP b)] w (Pure (B (decide ((ey a).eq (ey b)))) w):=by
 refine eH func136 rfl rfl fun hH=>SR<|gV hH (v:= .agg _) rfl<|fun b3 w1 aZ=>gV aZ (v:= .agg _) rfl<|fun b6 w4 bP=>va (v:=B false) rfl<|aa<|ag<|ed aP bP<|fun w7 eU=>AT 0 O eU (fun w hS=>aQ bL O O O (hS.blk (i:=1) O))<|AT 2 O eU (fun w hS=>aQ bL O O O (hS.blk (i:=0) O))<|A1 1<|bX O aH O eU sR (qT _ _) (an call165 O)<|fun w9 bV=>A1 3<|bX O aH O bV sR (qT _ _) (an call165 O)<|fun FK cJ=>AQ 4 O cJ (EW IP O O)<|AQ 5 O cJ (aV (B _) O)<|AD<|ai<|oB O ?_ cJ
 rfl
theorem Be(a b:Rl)(w:World):Calls Tryz.prog 214 #[.agg (dP a),.agg (dP b)] w (Pure (B (decide ((ey a).eq (ey b)))) w):=by
 refine eH func214 rfl rfl fun hH=>SR<|gV hH (v:= .agg _) rfl<|fun b3 w1 aZ=>gV aZ (v:= .agg _) rfl<|fun b6 w4 bP=>va (v:=B false) rfl<|aa<|ag<|ed aP bP<|fun w7 eU=>AT 0 O eU (fun w hS=>aQ bL O O O (hS.blk (i:=1) O))<|AT 2 O eU (fun w hS=>aQ bL O O O (hS.blk (i:=0) O))<|A1 1<|bX O aH O eU sR (qU _ _) (an call242 O)<|fun w9 bV=>A1 3<|bX O aH O bV sR (qU _ _) (an call242 O)<|fun FK cJ=>AQ 4 O cJ (EW IP O O)<|AQ 5 O cJ (aV (B _) O)<|AD<|ai<|oB O ?_ cJ
 rfl
theorem AS(r:Rl)(w:World):Calls Tryz.prog 166 #[.agg (dP r)] w (Pure (B (decide ((ey r).eq (gX r)))) w):=by
 refine eH func166 rfl rfl fun hH=>SR<|gV hH (v:= .agg _) rfl<|fun b3 w1 aZ=>va (v:=B false) rfl<|aa<|ag<|ed aP aZ<|fun w4 bP=>AT 0 O bP (fun w hS=>aQ bL O O O (hS.blk (i:=0) O))<|AT 2 O bP (fun w hS=>aQ bL O O O (hS.blk (i:=0) O))<|A1 1<|bX O aH O bP sR (qT _ _) (an call165 O)<|fun w6 eN=>A1 3<|bX O aH O eN sR (IQ _ _) (an call201 O)<|fun w8 iJ=>AQ 4 O iJ (EW IP O O)<|AQ 5 O iJ (aV (B _) O)<|AD<|ai<|oB O ?_ iJ
 rfl
theorem qd(r:Rl)(w:World):Calls Tryz.prog 182 #[.agg (dP r)] w (Pure (B (decide ((ey r).eq (gX r)))) w):=by
 refine eH func182 rfl rfl fun hH=>SR<|gV hH (v:= .agg _) rfl<|fun b3 w1 aZ=>va (v:=B false) rfl<|aa<|ag<|ed aP aZ<|fun w4 bP=>AT 0 O bP (fun w hS=>aQ bL O O O (hS.blk (i:=0) O))<|AT 1 O bP (fun w hS=>aQ bL O O O (hS.blk (i:=0) O))<|A1 2<|bX O aH O bP sR (pu _ _) (an call183 O)<|fun w6 eN=>A1 3<|bX O aH O eN sR (Be _ _ _) (aN call214 O O)<|fun w8 iJ=>AQ 4 O iJ (aV (B _) O)<|AD<|ai<|oB O ?_ iJ
 rw[acV]
theorem zY(n:Int)(w:World):Calls Tryz.prog 208 #[I n] w (Pure (.agg (dP (aga n))) w):=by
 refine eH func208 rfl rfl fun hH=>SR<|nu hH (aW pq)<|fun b3 w1 aZ=>aa<|SR<|mI rfl<|V (dx (vs:=[(0,I _)]) O (yp _))<|aG O aZ (kK _ _) (an HI O)<|fun w4 bP=>V (dx (vs:=[(0,I _)]) O (yp _))<|bt bP (i:=0) O (mN O O O (bP.blk (i:=0) O))<|fun w6 eN=>aa<|ai<|af4 O O eN (i:=0) O bL O O ⟨?_,eN.below⟩
 rfl
theorem J3(r:Rl)(i:Int)(w:World)(hT:oG w):Calls Tryz.prog 202 #[.agg (dP r),I i] w (Pure (U (Dd r i)) w):=by
 refine eH func202 rfl rfl fun hH=>SR<|gV hH (v:= .agg _) rfl<|fun b3 w1 aZ=>va (v:=U 0#64) rfl<|aa<|SR<|mI rfl<|xP 1 1 aZ (cA bz O O (sz:=1) (vs:=[I _]) O O az az O O)<|fun b6 w4 bP=> ?_
 (try simp only[o4]at bP)
 refine aG O bP (yt _ [i] _ (bP.dV (i:=0) (n:=1) (sz:=1) O O az)) (an call203 O)<|fun w7 eU=>aU rfl<|aa<|ag<|ed aP eU<|fun w9 bV=>have zZ:=bV;AT 0 O zZ (fun w hS=>aQ bL O O O (hS.blk (i:=1) O))<|AQ 1 O zZ (mV (U _) O)<|AT 3 O zZ (fun w hS=>aQ bL O O O (hS.blk (i:=1) O))<|AQ 4 O zZ (mV (U _) O)<|A1 2<|bX O aH O bV sR (CF _ _ _ (hT.hp bV)) (aN call209 O O)<|fun FK cJ=>A1 5<|bX O aH O cJ sR (xD _ _ _) (aN call211 O O)<|fun Bw cg=>AQ 6 O cg (lH O O)<|AQ 7 O cg (aV (U _) O)<|AD<|ai<|oU O ?_ cg
 rfl
theorem Ny(r:Rl)(w:World)(hT:oG w):Calls Tryz.prog 167 #[.agg (dP r)] w (Pure (B (eW r)) w):=by
 have hp:=dr r
 refine eH func167 rfl rfl fun hH=>SR<|gV hH (v:= .agg _) rfl<|fun b3 w1 aZ=>va (v:=B false) rfl<|aa<|ag<|SR<|V (aQ bL O O O (aZ.blk (i:=0) O))<|aG O aZ (AS _ _) (an call166 O)<|fun w4 bP=>V (uO O)<|aa<|aD O (fun h9=> ?_) (fun h9=> ?_)
 .refine SR<|va (v:=B false) rfl<|aa<|ai<|oB O ?_ bP
  exact(acX aK).symm
 refine ak<|ag<|SR<|V (aQ bL O O O (bP.blk (i:=0) O))<|aG O bP (kK _ _) (an HI O)<|fun GJ dJ=>aE (v:=I 0) rfl<|aa<|ay<|have hc:=Ht ‹¬¬(ey r).eq (gX r)›;bk (G:=Int) (fun k s' w'=>(Fr (2::3::(rg 9 11 [])) _ s')/\(Hp w w' _)/\(s' 9=I k)/\(0<=k)/\(k<=pts r)/\(∀j:Int,0<=j->j<k->Dd r j=kO [j])) (fun k=>(pts r-k).toNat) (0) ⟨Fr.refl _ _,dJ,rfl,J,J,fun j a b=>absurd b J⟩<| ?_
 rintro k aeg Bv ⟨oz,cJ,ajv,h0,hk,hf⟩
 obtain⟨qV,Nz⟩:=oz.w2 1 8
 refine SR<|V (aM ajv Nz)<|aa<|ag<|aD O (fun KQ=> ?_) (fun KQ=> ?_)
 .refine ak<|ag<|ay<|SR<|aE ajv<|aI rfl<|aa<|SR<|V (aQ bL O O qV (cJ.blk (i:=0) O))<|mI rfl<|aG O cJ (J3 _ _ _ (hT.hp cJ)) (aN call202 O O)<|fun SY cI=>mI rfl<|xP 1 1 cI (cA bz O O (sz:=1) (vs:=[I _]) O O az az O O)<|fun ZI OM dQ=> ?_
  (try simp only[o4]at dQ)
  refine aG O dQ (yt _ [k] _ (dQ.dV (i:=0) (n:=1) (sz:=1) O O az)) (an call203 O)<|fun w20 fB=>V (uN O O)<|aa<|aD O (fun DN=> ?_) (fun DN=> ?_)
  .refine SR<|va (v:=B false) rfl<|aa<|ai<|oB O ?_ fB
   exact(agc hc ⟨h0,J⟩ aK).symm
  refine ak<|aq<|V (ax ajv O J)<|mI rfl<|aa<| ?_
  refine⟨k+1,aT,oz.u4.u4.u4,(fB.sub (sQ sR)),(aJ I aO),J,J,?_⟩
  exact fun j a b=>if e:j=k then e▸Ht ‹_›else hf j a J
 refine aY (id:=0) rfl<|SR<|va (v:=B true) rfl<|aa<|ai<|oB O ?_ cJ
 exact(acY hc fun j a b=>hf j a J).symm
theorem qW(r:Rl)(w:World):Calls Tryz.prog 148 #[.agg (dP r)] w (Pure (B (eW r)) w):=by
 have hp:=dr r
 refine eH func148 rfl rfl fun hH=>SR<|gV hH (v:= .agg _) rfl<|fun b3 w1 aZ=>va (v:=B false) rfl<|aa<|ag<|SR<|va (v:=I 0) rfl<|aa<|ay<|bk (G:=Int) (fun k s' w'=>(Fr (rg 2 24 []) _ s')/\(Hp w w' _)/\(s' 3=I k)/\(0<=k)/\(k<=pts r)/\(∀i j:Int,0<=j->j<i->i<k->(bH r i j&&bH r j i)=false)) (fun k=>(pts r-k).toNat) (0) ⟨Fr.refl _ _,aZ,rfl,J,J,fun i j a b c=>absurd c J⟩<| ?_
 rintro k sg4 w4 ⟨ux,gy,oc,k0,k1,hf⟩
 have sv:=ux.w1 1
 refine ag<|SR<|aE oc<|V (aQ bL O O sv (gy.blk (i:=0) O))<|aG O gy (bE _ _) (an lF O)<|fun w5 iT=>V (aM O O)<|aa<|aD O (fun h8=> ?_) (fun h8=> ?_)
 .refine ak<|ag<|ay<|SR<|va (v:=I 0) rfl<|aa<|ay<|bk (G:=Int) (fun j s' w'=>(Fr (2::(4::(rg 11 15 []))) _ s')/\(Hp w w' _)/\(s' 4=I j)/\(0<=j)/\(j<=k)/\(∀x:Int,0<=x->x<j->(bH r k x&&bH r x k)=false)) (fun j=>(k-j).toNat) (0) ⟨Fr.refl _ _,iT,rfl,J,J,fun x a b=>absurd b J⟩<| ?_
  rintro j sg9 w9 ⟨fr9,iJ,OP,j0,j1,hg⟩
  obtain⟨ZJ,ZK⟩:=fr9.t2 1 sv 3 oc
  refine ag<|SR<|aE OP<|aE ZK<|V (aM O O)<|aa<|aD O (fun h11=> ?_) (fun h11=> ?_)
  .refine ak<|ag<|ay<|SR<|V (aQ bL O O ZJ (iJ.blk (i:=0) O))<|aE ZK<|aE OP<|aG O iJ (bA _ _ _ _) (bB iX O O O)<|fun Bv cm=>mB rfl<|fO 20 O (fun J4=> ?_) (fun J4=> ?_)
   .refine V (aQ bL O O ZJ (cm.blk (i:=0) O))<|aE OP<|aE ZK<|aG O cm (bA _ _ _ _) (bB iX O O O)<|fun J5 dS=>mB rfl<|aa<|bW O (fun J1=> ?_) (fun J1=> ?_)
    .refine SR<|va (v:=B false) rfl<|aa<|ai<|oB O ?_ dS
     exact(Ub ‹bH r k j=true› ‹bH r j k=true› aK).symm
    refine ak<|aq<|aE OP<|V (ax O O J)<|aI rfl<|aa<| ?_
    refine⟨j+1,aT,fr9.u4.u4.u4.u4,dS,(aJ I aO),J,J,?_⟩
    exact fun x u v=>if e:x=j then e▸(by rw[‹bH r j k=false›];simp)else hg x u J
   refine aE (v:=B false) rfl<|aa<|cL rfl<|ak<|aq<|aE OP<|V (ax O O J)<|aI rfl<|aa<| ?_
   refine⟨j+1,aT,fr9.u4.u4.u4.u4,cm,(aJ I aO),J,J,?_⟩
   exact fun x u v=>if e:x=j then e▸(by rw[‹bH r k j=false›];rfl)else hg x u J
  refine aY (id:=2) rfl<|aq<|aE ZK<|V (ax O O J)<|aI rfl<|aa<| ?_
  refine⟨k+1,aT,(((ux.u4.u1).t fr9 O)).u4.u1.u1,iJ,(aJ I aO),J,J,?_⟩
  exact fun i x u v y=>if e:i=k then e▸hg x u (by omega)else hf i x u v J
 refine aY (id:=0) rfl<|SR<|V (aQ bL O O sv (iT.blk (i:=0) O))<|aG O iT (qd _ _) (an call182 O)<|fun w20 fB=>aB rfl<|aa<|ai<|oB O ?_ fB
 exact(acZ aK hf).symm
theorem pw(r:Rl)(w:World):Calls Tryz.prog 147 #[.agg (dP r)] w (Pure (I (kx r (pts r))) w):=by
 have hp:=dr r
 have TJ:(gX r).n=pts r:=rfl
 refine eH func147 rfl rfl fun hH=>SR<|gV hH (v:= .agg _) rfl<|fun b3 w1 aZ=>va (v:=I 0) rfl<|aa<|SR<|V (aQ bL O O O (aZ.blk (i:=0) O))<|aG O aZ (pu _ _) (an call183 O)<|fun w4 bP=>nu bP (aW pq)<|fun b8 w6 eN=>bt eN (i:=0) O (mN O O O (eN.blk (i:=0) O))<|fun w9 bV=>aa<|SR<|va (v:=I 0) rfl<|aa<|ag<|SR<|va (v:=I 0) rfl<|aa<|ay<|bk (G:=Int) (fun k s' w'=>(Fr (rg 4 4 (rg 10 24 [])) _ s')/\(Hp w w' _)/\(s' 4=I (kx r k))/\(s' 5=I k)/\(0<=k)/\(k<=pts r)) (fun k=>(pts r-k).toNat) (0) ⟨Fr.refl _ _,bV,rfl,rfl,J,J⟩<| ?_
 rintro k axH FK ⟨S0,dJ,apL,VW,h0,hk⟩
 obtain⟨apC,Qw⟩:=S0.w2 2 3
 refine ag<|SR<|aE VW<|V (fA bL 0 O a8 Qw)<|lV bf dJ 0 O O (fy _)<|V (aM O O)<|aa<|aD O (fun OK=> ?_) (fun OK=> ?_)
 .refine ak<|ag<|ay<|SR<|va (v:=B true) rfl<|aa<|ag<|SR<|va (v:=I 0) rfl<|aa<|ay<|bk (G:=Int) (fun j s' w'=>(Fr (6::7::(rg 16 15 [])) _ s')/\(Hp w w' _)/\(s' 6=B (pY (gX r) k j))/\(s' 7=I j)/\(0<=j)/\(j<=k)) (fun j=>(k-j).toNat) (0) ⟨Fr.refl _ _,dJ,rfl,rfl,J,J⟩<| ?_
  rintro j VU Np ⟨kq,cg,kB,Qx,j0,j1⟩
  obtain⟨jt,yu,qe⟩:=kq.t3 3 Qw 4 apL 5 VW
  refine ag<|SR<|aE Qx<|aE qe<|V (aM O O)<|aa<|aD O (fun J6=> ?_) (fun J6=> ?_)
  .refine ak<|ag<|ay<|SR<|V (aQ bL O O jt (cg.blk (i:=0) O))<|aE qe<|aE Qx<|aG O cg (bA _ _ _ _) (bB iX O O O)<|fun Ou gW=>mB rfl<|fO 25 O (fun NA=> ?_) (fun NA=> ?_)
   .refine V (aQ bL O O jt (gW.blk (i:=0) O))<|aE Qx<|aE qe<|aG O gW (bA _ _ _ _) (bB iX O O O)<|fun OO eO=>mB rfl<|aa<|bW O (fun GK=> ?_) (fun GK=> ?_)
    .refine aq<|va (v:=B false) rfl<|aa<|aq<|aE Qx<|V (ax O O HK)<|aI rfl<|aa<| ?_
     refine⟨j+1,aT,kq.u4.u4.u4.u4.u1,eO,(aJ B XQ),(aJ I ec),J,J⟩
    refine ak<|aq<|aE Qx<|V (ax O O HK)<|aI rfl<|aa<| ?_
    refine⟨j+1,aT,kq.u4.u4.u4.u4,eO,(jW kB (aJ B XQ)),(aJ I ec),J,J⟩
   refine aE (v:=B false) rfl<|aa<|cL rfl<|ak<|aq<|aE Qx<|V (ax O O HK)<|aI rfl<|aa<| ?_
   refine⟨j+1,aT,kq.u4.u4.u4.u4,gW,(jW kB (aJ B XQ)),(aJ I ec),J,J⟩
  refine aY (id:=2) rfl<|SR<|aE kB<|aa<|bW O (fun VY=> ?_) (fun VY=> ?_)
  .refine aq<|aE yu<|V (ax O O HK)<|aI rfl<|aa<|aq<|aE qe<|V (ax O O HK)<|aI rfl<|aa<| ?_
   refine⟨k+1,aT,(((S0.u4.u1.u1).t kq O)).u4.u4.u1.u1,cg,(aJ I afa),(aJ I ec),J,J⟩
  refine ak<|aq<|aE qe<|V (ax O O HK)<|aI rfl<|aa<| ?_
  refine⟨k+1,aT,(((S0.u4.u1.u1).t kq O)).u4.u1.u1.u1,cg,(jW yu (aJ I afa)),(aJ I ec),J,J⟩
 refine aY (id:=0) rfl<|SR<|aE apL<|aI rfl<|aa<|ai<|oI O ?_ dJ
 rw[show k=pts r by omega]
theorem kf(r:Rl)(w:World):Calls Tryz.prog 109 #[.agg (dP r)] w (Pure (.tuple #[I (qx r).1,B (qx r).2]) w):=by
 have hp:=dr r
 refine eH func109 rfl rfl fun hH=>SR<|gV hH (v:= .agg _) rfl<|fun b3 w1 aZ=>va (v:=I 0) rfl<|va (v:=B false) rfl<|aa<|ag<|SR<|V (aQ bL O O O (aZ.blk (i:=0) O))<|aG O aZ (qW _ _) (an call148 O)<|fun w4 bP=>V (bO O)<|aa<|bW O (fun h8=> ?_) (fun h8=> ?_)
 .refine SR<|va (v:=I 0) rfl<|va (v:=B false) rfl<|aa<|ai<|have alu:eW r=false:=nt aK;?_
  refine jZ O (aJ I ?_) (aJ B ?_) bP.below<;>rw[qx,alu]<;>rfl
 refine ak<|SR<|nu bP (aW ajn)<|fun VT w9 bV=>aa<|SR<|va (v:=I 0) rfl<|aa<|ag<|SR<|va (v:=I 0) rfl<|aa<|ay<|have alu:eW r=true:=nf aK;bk (G:=Int×(Nat->Int)) (fun⟨k,F⟩ s' w'=>(Fr (rg 6 3 (rg 13 42 [])) _ s')/\(Hp w w' (.blk VT (.cells (LY F) 214 (0,0))::_))/\(s' 6=I k)/\(0<=k)/\(k<=pts r)/\(FZ r F)/\(Uc r F k)) (fun⟨k,F⟩=>(pts r-k).toNat) ((0,fun _=>0)) ⟨Fr.refl _ _,bV,rfl,J,J,aaE r,alS (aaE r)⟩<| ?_
 rintro⟨k,F⟩ aeg Bv ⟨oz,cJ,V0,k0,k1,hF0,hU⟩
 obtain⟨qV,AV,CG,Ef,mL⟩:=oz.w5 1 2 3 4 5
 refine ag<|SR<|aE V0<|V (aQ bL O O qV (cJ.blk (i:=1) O))<|aG O cJ (bE _ _) (an lF O)<|fun Bw cg=>V (aM O O)<|aa<|aD O (fun wc=> ?_) (fun wc=> ?_)
 .refine ak<|ag<|ay<|SR<|va (v:=I 0) rfl<|aa<|ay<|bk (G:=Int×(Nat->Int)) (fun⟨i,F1⟩ s' w'=>(Fr (7::8::(rg 19 36 [])) _ s')/\(Hp w w' (.blk VT (.cells (LY F1) 214 (0,0))::_))/\(s' 7=I i)/\(0<=i)/\(i<=pts r)/\(FZ r F1)/\(Az F F1)/\(rS r F F1 i)) (fun⟨i,F1⟩=>(pts r-i).toNat) ((0,F)) ⟨Fr.refl _ _,cg,rfl,J,J,hF0,Az.refl _,rS.none _ _ _⟩<| ?_
  rintro⟨i,F1⟩ axJ OM ⟨ON,dS,V1,i0,i1,hF1,hge,hall⟩
  obtain⟨aEx,aEy,aEz,aEA⟩:=ON.w4 13 14 15 16
  obtain⟨abV,apG,apM,apH,Jz,abT⟩:=ON.t6 1 qV 2 AV 3 CG 4 Ef 5 mL 6 V0
  refine ag<|SR<|aE V1<|V (aQ bL O O abV (dS.blk (i:=1) O))<|aG O dS (bE _ _) (an lF O)<|fun Ou gW=>V (aM O O)<|aa<|aD O (fun NA=> ?_) (fun NA=> ?_)
  .refine ak<|ag<|ay<|SR<|va (v:=I 0) rfl<|aa<|ay<|bk (G:=Int×(Nat->Int)) (fun⟨j,F2⟩ s' w'=>(Fr (8::(rg 25 30 [])) _ s')/\(Hp w w' (.blk VT (.cells (LY F2) 214 (0,0))::_))/\(s' 8=I j)/\(0<=j)/\(j<=pts r)/\(FZ r F2)/\(Az F F2)/\(rS r F F2 i)/\(j4 r F F2 i j)) (fun⟨j,F2⟩=>(pts r-j).toNat) ((0,F1)) ⟨Fr.refl _ _,gW,rfl,J,J,hF1,hge,hall,j4.none _ _ _ _⟩<| ?_
   rintro⟨j,F2⟩ axK OO ⟨J7,dm,GL,j0,j1,hF,CH,Ck,hrow⟩
   obtain⟨apN,abW,V2⟩:=J7.t3 1 abV 4 apH 7 V1
   refine ag<|SR<|aE GL<|V (aQ bL O O apN (dm.blk (i:=1) O))<|aG O dm (bE _ _) (an lF O)<|fun w23 mK=>V (aM O O)<|aa<|aD O (fun VY=> ?_) (fun VY=> ?_)
   .refine ak<|ag<|ay<|ag<|ed aP mK<|fun w27 gk=>have Fv:=gk;AQ 0 O Fv (run_move V2)<|AQ 1 O Fv (run_move GL)<|AQ 2 O Fv (ke O O)<|AQ 3 O Fv (mV (B _) O)<|B5 (dj:=34) O (fun GI=> ?_) (fun GI=> ?_)
    .refine AG 4 O O (bT GI) gk (fun w hS=>aQ bL O O apN (hS.blk (i:=1) O))<|BQ 5 O O (bT GI) gk (run_move V2)<|BQ 6 O O (bT GI) gk (run_move GL)<|A1 7<|bX O (Aw O (bT GI)) O gk sR (bA _ _ _ _) (bB iX O O O)<|fun w31 fJ=>have DO:=fJ;AQ 8 O DO (fZ (bT GI) (v:=B _) O)<|AQ 9 O DO (mV (B _) O)<|Jj (dj:=40) O (fun IS=> ?_) (fun IS=> ?_)
     .refine BQ 10 O O (bR (c:=true) IS) fJ (run_move GL)<|BQ 11 O O (bR (c:=true) IS) fJ (bg Hz a8 abW O J)<|AG 12 O O (bR (c:=true) IS) fJ (fun w hS=>aC bf O O (hS.cell (i:=0) O (F4 _ J)))<|BQ 13 O O (bR (c:=true) IS) fJ (run_move V2)<|BQ 14 O O (bR (c:=true) IS) fJ (bg Hz a8 abW O J)<|AG 15 O O (bR (c:=true) IS) fJ (fun w hS=>aC bf O O (hS.cell (i:=0) O (F4 _ J)))<|BQ 16 O O (bR (c:=true) IS) fJ (uk O O)<|AQ 17 O DO (fZ (bR (c:=true) IS) (v:=B _) O)<|AD<|aD O (fun h36=> ?_) (fun h36=> ?_)
      .refine aq<|aE GL<|aE V2<|V (bg Hz a8 abW O J)<|lV bf fJ 0 O O (F4 _ J)<|V (ax O O ze)<|V (bg Hz a8 abW O J)<|bt fJ (i:=0) O (bQ O O (v:=I _) O O O (fJ.blk (i:=0) O) (by rw[ac0];omega))<|fun w37 we=> ?_
       rw[agj]at we
       refine aa<|aq<|aE GL<|V (ax O O ze)<|aI rfl<|aa<| ?_
       refine⟨(j+1,_),aT,J7.u4.u4.u4.u4.u4.u4.u4.u1.u1.u1,we,(aJ I ec),J,J,?_,?_,?_,?_⟩
       .first|exact hF|exact Kq hF ‹bH r i j=true› aK
       .first|exact CH|exact CH.put J
       .first|exact Ck|exact Ck.put J
       first|exact Di hrow aK|exact Dh hrow aK|exact Dg hrow CH aK|exact Df hrow CH aK
      refine ak<|aq<|aE GL<|V (ax O O ze)<|aI rfl<|aa<| ?_
      refine⟨(j+1,_),aT,J7.u4.u4.u4.u4.u4.u4.u1,fJ,(aJ I ec),J,J,?_,?_,?_,?_⟩
      .first|exact hF|exact Kq hF ‹bH r i j=true› aK
      .first|exact CH|exact CH.put J
      .first|exact Ck|exact Ck.put J
      first|exact Di hrow aK|exact Dh hrow aK|exact Dg hrow CH aK|exact Df hrow CH aK
     refine AK 10 O O (bR (c:=false) IS) fJ<|AK 11 O O (bR (c:=false) IS) fJ<|AK 12 O O (bR (c:=false) IS) fJ<|AK 13 O O (bR (c:=false) IS) fJ<|AK 14 O O (bR (c:=false) IS) fJ<|AK 15 O O (bR (c:=false) IS) fJ<|AK 16 O O (bR (c:=false) IS) fJ<|AQ 17 O DO (dM (bR (c:=false) IS) (v:=B false) O)<|AD<|cL rfl<|ak<|aq<|aE GL<|V (ax O O ze)<|aI rfl<|aa<| ?_
     refine⟨(j+1,_),aT,J7.u4.u4.u4.u4.u4.u4.u1,fJ,(aJ I ec),J,J,?_,?_,?_,?_⟩
     .first|exact hF|exact Kq hF ‹bH r i j=true› aK
     .first|exact CH|exact CH.put J
     .first|exact Ck|exact Ck.put J
     first|exact Di hrow aK|exact Dh hrow aK|exact Dg hrow CH aK|exact Df hrow CH aK
    refine AK 4 O O (bF GI) gk<|AK 5 O O (bF GI) gk<|AK 6 O O (bF GI) gk<|AK 7 O O (bF GI) gk<|AQ 8 O Fv (dM (bF GI) (v:=B false) O)<|AQ 9 O Fv (mV (B _) O)<|AK 10 O O O gk<|AK 11 O O O gk<|AK 12 O O O gk<|AK 13 O O O gk<|AK 14 O O O gk<|AK 15 O O O gk<|AK 16 O O O gk<|AQ 17 O Fv (dM O (v:=B false) O)<|AD<|cL rfl<|ak<|aq<|aE GL<|V (ax O O ze)<|aI rfl<|aa<| ?_
    refine⟨(j+1,_),aT,J7.u4.u4.u4.u4.u4.u4.u1,gk,(aJ I ec),J,J,?_,?_,?_,?_⟩
    .first|exact hF|exact Kq hF ‹bH r i j=true› aK
    .first|exact CH|exact CH.put J
    .first|exact Ck|exact Ck.put J
    first|exact Di hrow aK|exact Dh hrow aK|exact Dg hrow CH aK|exact Df hrow CH aK
   refine aY (id:=4) rfl<|aq<|aE V2<|V (ax O O ze)<|aI rfl<|aa<| ?_
   refine⟨(i+1,_),aT,(((ON.u4.u1).t J7 O)).u4.u1.u1.u1,mK,(aJ I ec),J,J,?_,?_,?_⟩
   .exact hF
   .exact CH
   exact Ck.next aK hrow
  refine aY (id:=2) rfl<|aq<|aE abT<|V (ax O O ze)<|aI rfl<|aa<| ?_
  refine⟨(k+1,_),aT,(((oz.u4.u1).t ON O)).u4.u1.u1.u1,gW,(aJ I ec),J,J,?_,?_⟩
  .exact hF1
  exact alT k0 hU hge hall aK
 refine aY (id:=0) rfl<|ag<|SR<|va (v:=I 0) rfl<|aa<|ay<|bk (G:=Int×Int) (fun⟨i,best⟩ s' w'=>(Fr (5::(9::(rg 55 14 []))) _ s')/\(Hp w w' _)/\(s' 5=I best)/\(s' 9=I i)/\(0<=i)/\(i<=pts r)/\(0<=best)/\(best=0\/∃j:Int,0<=j/\j<pts r/\F j.toNat=best)/\(∀j:Int,0<=j->j<i->F j.toNat<=best)) (fun⟨i,best⟩=>(pts r-i).toNat) ((0,0)) ⟨Fr.refl _ _,cg,mL,rfl,J,J,J,Or.inl O,fun j a b=>absurd b J⟩<| ?_
 rintro⟨i,best⟩ aNf w39 ⟨as3,m5,ajw,V3,i0,i1,b0,hb,hm⟩
 obtain⟨axM,apP⟩:=as3.t2 1 qV 4 Ef
 refine ag<|SR<|aE V3<|V (aQ bL O O axM (m5.blk (i:=1) O))<|aG O m5 (bE _ _) (an lF O)<|fun w40 iU=>V (aM O O)<|aa<|aD O (fun h43=> ?_) (fun h43=> ?_)
 .refine ak<|ag<|ay<|SR<|aE V3<|V (bg Hz a8 apP O J)<|lV bf iU 0 O O (F4 _ J)<|aE ajw<|V (cD O O)<|aa<|aD O (fun h45=> ?_) (fun h45=> ?_)
  .refine aq<|aE V3<|V (bg Hz a8 apP O J)<|lV bf iU 0 O O (F4 _ J)<|aI rfl<|aa<|aq<|aE V3<|V (ax O O ze)<|aI rfl<|aa<| ?_
   refine⟨(i+1,_),aT,as3.u4.u4.u4.u4,iU,(aJ I ec),(aJ I ec),J,J,J,?_,?_⟩
   .first|exact hb|exact .inr ⟨i,i0,J,rfl⟩
   exact fun j u v=>if e:j=i then(by rw[e];omega)else(by have:=hm j u J;omega)
  refine ak<|aq<|aE V3<|V (ax O O ze)<|aI rfl<|aa<| ?_
  refine⟨(i+1,_),aT,as3.u4.u4.u4,iU,ajw,(aJ I ec),J,J,J,?_,?_⟩
  .first|exact hb|exact .inr ⟨i,i0,J,rfl⟩
  exact fun j u v=>if e:j=i then(by rw[e];omega)else(by have:=hm j u J;omega)
 refine aY (id:=6) rfl<|SR<|aE ajw<|aI rfl<|va (v:=B true) rfl<|aa<|ai<| ?_
 refine jZ O (aJ I ?_) (aJ B ?_) iU.below<;>rw[agi alu hF0 hU ‹¬k<pts r› ‹¬i<pts r› hb hm b0]
theorem ZL(r:Rl)(i:Int)(w:World):Calls Tryz.prog 210 #[.agg (dP r),I i] w (Pure (B (A2 r i)) w):=by
 have hp:=dr r
 have hnn:(aga r.n).n=pts r:=rfl
 refine eH func210 rfl rfl fun hH=>SR<|gV hH (v:= .agg _) rfl<|fun b3 w1 aZ=>va (v:=B false) rfl<|aa<|SR<|mI rfl<|V (dD O O)<|mB rfl<|bM 7 O (fun h5=> ?_) (fun h5=> ?_)
 .refine mI rfl<|V (fA bL 0 O a8 O)<|lV bf aZ 0 O O (fy _)<|aG O aZ (zY _ _) (an call208 O)<|fun w6 eN=>V (HV bL O isAgg3 O (fy _))<|V (aM O O)<|mB rfl<|aB rfl<|aa<|ai<|oB O ?_ eN
  (rw[A2,gP];simp only[eo,tR,yV];omega)
 refine aE (v:=B false) rfl<|aB rfl<|aa<|ai<|oB O ?_ aZ
 (rw[A2,gP];simp only[eo,tR,yV];omega)
theorem Eg(r:Rl)(i:Int)(w:World)(hT:oG w):Calls Tryz.prog 176 #[.agg (dP r),I i] w (Pure (U (iL r i)) w):=by
 refine eH func176 rfl rfl fun hH=>SR<|gV hH (v:= .agg _) rfl<|fun b3 w1 aZ=>va (v:=U 0#64) rfl<|aa<|ag<|ed aP aZ<|fun w4 bP=>AT 0 O bP (fun w hS=>aQ bL O O O (hS.blk (i:=0) O))<|AQ 1 O bP (mV (I _) O)<|A1 2<|cK O aH O bP sR (f:=fun b=> .slice (some ⟨b,0,none⟩) 1 1) (cA bz O O (sz:=1) (vs:=[I _]) O O az az O O)<|fun b8 w6 eN=> ?_
 (try simp only[o4]at eN)
 refine A1 3<|bX O aH O eN (sQ sR) (yt _ [i] _ (eN.dV (i:=0) (n:=1) (sz:=1) O O az)) (an call203 O)<|fun w9 bV=>A1 4<|bX O aH O bV (sQ sR) (CF _ _ _ (hT.hp bV)) (aN call209 O O)<|fun FK cJ=>AQ 5 O (cJ.sub (sQ sR)) (aV (U _) O)<|AD<|ai<|oU O ?_ cJ
 rfl
theorem Eh(r:Rl)(i:Int)(w:World)(hT:oG w):Calls Tryz.prog 177 #[.agg (dP r),I i] w (Pure (U (bU r i)) w):=by
 refine eH func177 rfl rfl fun hH=>SR<|gV hH (v:= .agg _) rfl<|fun b3 w1 aZ=>va (v:=U 0#64) rfl<|aa<|ag<|SR<|V (aQ bL O O O (aZ.blk (i:=0) O))<|mI rfl<|aG O aZ (ZL _ _ _) (aN call210 O O)<|fun w4 bP=>V (bO O)<|aa<|bW O (fun h8=> ?_) (fun h8=> ?_)
 .refine SR<|va (v:=U 0#64) rfl<|aa<|ai<|oU O ?_ bP
  rw[bU,aR (by simpa using‹(!A2 r i)=true›)]
 refine ak<|ag<|ed aP bP<|fun w9 bV=>AT 0 O bV (fun w hS=>aQ bL O O O (hS.blk (i:=0) O))<|AQ 1 O bV (mV (I _) O)<|A1 2<|cK O aH O bV sR (f:=fun b=> .slice (some ⟨b,0,none⟩) 1 1) (cA bz O O (sz:=1) (vs:=[I _]) O O az az O O)<|fun KR FK cJ=> ?_
 (try simp only[o4]at cJ)
 refine A1 3<|bX O aH O cJ (sQ sR) (yt _ [i] _ (cJ.dV (i:=0) (n:=1) (sz:=1) O O az)) (an call203 O)<|fun Np fp=>A1 4<|bX O aH O fp (sQ sR) (xD _ _ _) (aN call211 O O)<|fun J5 dS=>AQ 5 O (dS.sub (sQ sR)) (aV (U _) O)<|AD<|ai<|oU O ?_ dS
 rw[bU,aS (by simpa using‹(!A2 r i)=false›)]
theorem AW(r:Rl)(i j:Int)(f:FuncId)(gg:Int->BitVec 64)(w:World)(hf:∀args w,(callFunc f args).run Tryz.prog w= .ok (.enter f args) w)(go:∀i w,oG w->Calls Tryz.prog f #[.agg (dP r),I i] w (Pure (U (gg i)) w))(hn:∀u,hasB (gg i&&&gg j) u=true->u<pts r)(hT:oG w):Calls Tryz.prog 204 #[.agg (dP r),I i,I j,.func (.func f) #[] #[]] w (Pure (.tuple #[I (AA gg (pts r) i j).1,B (AA gg (pts r) i j).2]) w):=by
 have hl:=FQ (gg i&&&gg j)
 refine eH func204 rfl rfl fun hH=>SR<|gV hH (v:= .agg _) rfl<|fun b3 w1 aZ=>va (v:=I 0) rfl<|va (v:=B false) rfl<|aa<|ag<|ed aP aZ<|fun w4 bP=>have OL:=bP;AQ 0 O OL (mV (.func _ _ _) rfl)<|AT 1 rfl OL (fun w hS=>aQ bL O O O (hS.blk (i:=0) O))<|AQ 2 O OL (mV (I _) O)<|AQ 4 O OL (mV (.func _ _ _) O)<|AT 5 O OL (fun w hS=>aQ bL O O O (hS.blk (i:=0) O))<|AQ 6 O OL (mV (I _) O)<|A1 3<|bX O aH O bP sR (go _ _ (hT.hp bP)) (iQ hf (cs:=[]) O O O)<|fun w6 eN=>A1 7<|bX O aH O eN sR (go _ _ (hT.hp eN)) (iQ hf (cs:=[]) O O O)<|fun w8 iJ=>AQ 8 O iJ (lH O O)<|AQ 9 O iJ (aV (U _) O)<|AD<|ag<|SR<|mU rfl<|B3 O iJ (CD _ _ (hT.hp iJ)) (an call233 O)<|fun v12 GJ dJ=>V (aA (dJ.sl (i:=0) O) O bz O)<|aE (v:=I 0) rfl<|aa<|ay<|bk (G:=Int) (fun a s' w'=>(Fr (8::9::(12::(rg 25 12 []))) _ s')/\(Hp w w' _)/\(s' 25=I a)/\(0<=a)/\(a<=(gA (gg i&&&gg j)).length)/\(∀b:Int,0<=b->b<a->dX (gg i&&&gg j) (gg ((gA (gg i&&&gg j)).getD b.toNat 0))=false)) (fun a=>((gA (gg i&&&gg j)).length-a).toNat) (0) ⟨Fr.refl _ _,dJ,rfl,J,J,fun b x y=>absurd y J⟩<| ?_
 rintro a aeh Bw ⟨tH,cm,NB,a0,a1,hg⟩
 have AX:=tH.vv 3 (a:= .func _ _ _) rfl rfl
 obtain⟨GM,as5,ZM,NC⟩:=tH.w4 4 10 23 24
 refine SR<|V (aM NB NC)<|aa<|ag<|aD O (fun J4=> ?_) (fun J4=> ?_)
 .refine ak<|ag<|ay<|SR<|V (ah (cm.sl (i:=0) O) bz a8 ZM NB J)<|V (aC bf O O ((cm.sl (i:=0) O).cell _ _ (eG J)))<|aI rfl<|aa<|SR<|aE as5<|aE AX<|V (aQ bL O O GM (cm.blk (i:=1) O))<|mI rfl<|aG O cm (go _ _ (hT.hp cm)) (iQ hf (cs:=[]) O O O)<|fun J5 dS=>aG O dS (Ft _ _ _) (aN call140 O O)<|fun Ou gW=>aa<|bW O (fun NA=> ?_) (fun NA=> ?_)
  .refine SR<|mI rfl<|aI rfl<|va (v:=B true) rfl<|aa<|ai<| ?_
   refine jZ O (aJ I ?_) (aJ B ?_) gW.below<;>rw[agl hn a0 aK aK hg]
  refine ak<|aq<|V (ax NB O J)<|mI rfl<|aa<| ?_
  refine⟨a+1,aT,tH.u4.u4.u4,gW,(aJ I aO),J,J,?_⟩
  exact fun b x y=>if e:b=a then e▸‹_›else hg b x J
 refine aY (id:=0) rfl<|SR<|va (v:=I 0) rfl<|va (v:=B false) rfl<|aa<|ai<| ?_
 refine jZ O (aJ I ?_) (aJ B ?_) cm.below<;>rw[alU aK hg]
theorem z6(r:Rl)(i j:Int)(w:World)(hT:oG w):Calls Tryz.prog 168 #[.agg (dP r),I i,I j] w (Pure (.tuple #[I (iS r i j).1,B (iS r i j).2]) w):=by
 refine eH func168 rfl rfl fun hH=>SR<|gV hH (v:= .agg _) rfl<|fun b3 w1 aZ=>va (v:=I 0) rfl<|va (v:=B false) rfl<|aa<|SR<|V (aQ bL O O O (aZ.blk (i:=0) O))<|mI rfl<|mI rfl<|aG O aZ (AW r i j 176 (iL r) _ call176 (fun i w h=>Eg r i w h) (fun u h=>agm h) (hT.hp aZ)) (jm call204 O O O O)<|fun w4 bP=>V (bx O (v:=I _) O)<|V (bx O (v:=B _) O)<|aI rfl<|aB rfl<|aa<|ai<|jZ O (aJ I ?_) (aJ B ?_) bP.below
 all_goals rfl
theorem S1(r:Rl)(i j:Int)(w:World)(hT:oG w):Calls Tryz.prog 169 #[.agg (dP r),I i,I j] w (Pure (.tuple #[I (qz r i j).1,B (qz r i j).2]) w):=by
 refine eH func169 rfl rfl fun hH=>SR<|gV hH (v:= .agg _) rfl<|fun b3 w1 aZ=>va (v:=I 0) rfl<|va (v:=B false) rfl<|aa<|SR<|V (aQ bL O O O (aZ.blk (i:=0) O))<|mI rfl<|mI rfl<|aG O aZ (AW r i j 177 (bU r) _ call177 (fun i w h=>Eh r i w h) (fun u h=>ac3 h) (hT.hp aZ)) (jm call204 O O O O)<|fun w4 bP=>V (bx O (v:=I _) O)<|V (bx O (v:=B _) O)<|aI rfl<|aB rfl<|aa<|ai<|jZ O (aJ I ?_) (aJ B ?_) bP.below
 all_goals rfl
theorem oA(r:Rl)(i:Int)(w:World)(hT:oG w):Calls Tryz.prog 144 #[.agg (dP r),I i] w (Pure (U (bU r i)) w):=by
 refine eH func144 rfl rfl fun hH=>SR<|gV hH (v:= .agg _) rfl<|fun b3 w1 aZ=>va (v:=U 0#64) rfl<|aa<|SR<|V (aQ bL O O O (aZ.blk (i:=0) O))<|mI rfl<|aG O aZ (Eh _ _ _ (hT.hp aZ)) (aN call177 O O)<|fun w4 bP=>aU rfl<|aa<|ai<|oU O ?_ bP
 rfl
theorem xF(r:Rl)(s:BitVec 64)(w:World)(hT:oG w):Calls Tryz.prog 181 #[.agg (dP r),U s] w (Pure (.tuple #[I (eM r s).1,B (eM r s).2]) w):=by
 have hp:=dr r
 have hnn:(aga r.n).n=pts r:=rfl
 refine eH func181 rfl rfl fun hH=>SR<|gV hH (v:= .agg _) rfl<|fun b3 w1 aZ=>va (v:=I 0) rfl<|va (v:=B false) rfl<|aa<|ag<|SR<|V (fA bL 0 O a8 O)<|lV bf aZ 0 O O (fy _)<|aG O aZ (zY _ _) (an call208 O)<|fun w4 bP=>V (HV bL O isAgg3 O (fy _))<|aE (v:=I 0) rfl<|aa<|ay<|bk (G:=Int) (fun k s' w'=>(Fr (rg 4 3 (rg 11 10 [])) _ s')/\(Hp w w' _)/\(s' 11=I k)/\(0<=k)/\(k<=pts r)/\(∀j:Int,0<=j->j<k->bU r j≠s)) (fun k=>(pts r-k).toNat) (0) ⟨Fr.refl _ _,bP,rfl,J,J,fun j x y=>absurd y J⟩<| ?_
 rintro k sg6 w6 ⟨Qs,iT,Nl,h0,hk,hg⟩
 obtain⟨OF,ajr,ajo⟩:=Qs.w3 1 2 10
 refine SR<|V (aM Nl ajo)<|aa<|ag<|aD O (fun h8=> ?_) (fun h8=> ?_)
 .refine ak<|ag<|ay<|SR<|aE Nl<|aI rfl<|aa<|SR<|V (aQ bL O O ajr (iT.blk (i:=0) O))<|mI rfl<|aG O iT (oA _ _ _ (hT.hp iT)) (aN HJ O O)<|fun w9 bV=>aE OF<|V (iZ O O)<|aa<|aD O (fun h12=> ?_) (fun h12=> ?_)
  .refine SR<|mI rfl<|aI rfl<|va (v:=B true) rfl<|aa<|ai<| ?_
   refine jZ O (aJ I ?_) (aJ B ?_) bV.below<;>rw[Dj h0 J aK hg]
  refine ak<|aq<|V (ax Nl O J)<|mI rfl<|aa<| ?_
  refine⟨k+1,aT,Qs.u4.u4.u1.u1,bV,(aJ I aO),J,J,?_⟩
  exact fun j x y=>if e:j=k then e▸‹¬bU r k=s›else hg j x J
 refine aY (id:=0) rfl<|SR<|va (v:=I 0) rfl<|va (v:=B false) rfl<|aa<|ai<| ?_
 refine jZ O (aJ I ?_) (aJ B ?_) iT.below<;>rw[F5 J hg]
theorem OQ(r:Rl)(a b:BitVec 64)(w:World)(hT:oG w):Calls Tryz.prog 205 #[.agg (dP r),U a,U b] w (Pure (U (jL r a b)) w):=by
 refine eH func205 rfl rfl fun hH=>SR<|gV hH (v:= .agg _) rfl<|fun b3 w1 aZ=>va (v:=U 0#64) rfl<|aa<|ag<|SR<|V (aQ bL O O O (aZ.blk (i:=0) O))<|mU rfl<|aG O aZ (xF _ _ _ (hT.hp aZ)) (aN call181 O O)<|fun w4 bP=> ?_
 refine V (run_move bC) ?_
 refine V (bx O (v:=I _) O)<|V (bx O (v:=B _) O)<|aI rfl<|aB rfl<|aa<|SR<|mB rfl<|aa<|bW O (fun h7=> ?_) (fun h7=> ?_)
 .refine SR<|V (aQ bL O O O (bP.blk (i:=0) O))<|mU rfl<|aG O bP (xF _ _ _ (hT.hp bP)) (aN call181 O O)<|fun w8 iJ=> ?_
  refine V (run_move bC) ?_
  refine V (bx O (v:=I _) O)<|V (bx O (v:=B _) O)<|aI rfl<|aB rfl<|aa<|SR<|mB rfl<|aa<|bW O (fun h11=> ?_) (fun h11=> ?_)
  .refine SR<|V (aQ bL O O O (iJ.blk (i:=0) O))<|mI rfl<|mI rfl<|aG O iJ (z6 _ _ _ _ (hT.hp iJ)) (bB call168 O O O)<|fun Bv cm=> ?_
   refine V (run_move bC) ?_
   refine V (bx O (v:=I _) O)<|V (bx O (v:=B _) O)<|aI rfl<|aB rfl<|aa<|SR<|mB rfl<|aa<|bW O (fun J4=> ?_) (fun J4=> ?_)
   .refine SR<|V (aQ bL O O O (cm.blk (i:=0) O))<|mI rfl<|aG O cm (oA _ _ _ (hT.hp cm)) (aN HJ O O)<|fun J5 dS=>aU rfl<|aa<|ai<|oU O ?_ dS
    rw[Pc aK aK aK]
   refine ak<|SR<|mU rfl<|mU rfl<|V (jH O O)<|aU rfl<|aa<|ai<|oU O ?_ cm
   rw[ac4 aK]
  refine ak<|SR<|mU rfl<|mU rfl<|V (jH O O)<|aU rfl<|aa<|ai<|oU O ?_ iJ
  rw[Pe aK]
 refine ak<|SR<|mU rfl<|mU rfl<|V (jH O O)<|aU rfl<|aa<|ai<|oU O ?_ bP
 rw[Pd aK]
theorem V4(r:Rl)(f:FuncId)(gg:Int->BitVec 64)(w:World)(hf:∀args w,(callFunc f args).run Tryz.prog w= .ok (.enter f args) w)(go:∀i w,oG w->Calls Tryz.prog f #[.agg (dP r),I i] w (Pure (U (gg i)) w))(hT:oG w):Calls Tryz.prog 175 #[.agg (dP r),.func (.func f) #[] #[]] w (Pure (.tuple #[I (E0 r gg).1,B (E0 r gg).2]) w):=by
 have hp:=dr r
 have hnn:(aga r.n).n=pts r:=rfl
 refine eH func175 rfl rfl fun hH=>SR<|gV hH (v:= .agg _) rfl<|fun b3 w1 aZ=>va (v:=I 0) rfl<|va (v:=B false) rfl<|aa<|SR<|V (fA bL 0 O a8 O)<|lV bf aZ 0 O O (fy _)<|aG O aZ (zY _ _) (an call208 O)<|fun w4 bP=>V (HV bL O isAgg3 O (fy _))<|aI rfl<|aa<|ag<|SR<|mI rfl<|aE (v:=I 0) rfl<|aa<|ay<|bk (G:=Int) (fun k s' w'=>(Fr (4::5::(7::(rg 13 12 []))) _ s')/\(Hp w w' _)/\(s' 13=I k)/\(0<=k)/\(k<=pts r)/\(∀j:Int,0<=j->j<k->gg j≠below (pts r))) (fun k=>(pts r-k).toNat) (0) ⟨Fr.refl _ _,bP,rfl,J,J,fun j x y=>absurd y J⟩<| ?_
 rintro k sg6 w6 ⟨Qs,iT,ajx,h0,hk,hg⟩
 have OF:=Qs.vv 1 (a:= .func _ _ _) rfl rfl
 obtain⟨ajr,aEB,axO⟩:=Qs.w3 2 6 12
 refine SR<|V (aM ajx axO)<|aa<|ag<|aD O (fun h8=> ?_) (fun h8=> ?_)
 .refine ak<|ag<|ay<|SR<|aE ajx<|aI rfl<|aa<|SR<|aE OF<|V (aQ bL O O ajr (iT.blk (i:=0) O))<|mI rfl<|aG O iT (go _ _ (hT.hp iT)) (iQ hf (cs:=[]) O O O)<|fun w9 bV=>aE aEB<|aG O bV (ox _ _) (an HG O)<|fun FK cJ=>V (iZ O O)<|aa<|aD O (fun KQ=> ?_) (fun KQ=> ?_)
  .refine SR<|mI rfl<|aI rfl<|va (v:=B true) rfl<|aa<|ai<| ?_
   refine jZ O (aJ I ?_) (aJ B ?_) cJ.below<;>rw[alX h0 J aK hg]
  refine ak<|aq<|V (ax ajx O J)<|mI rfl<|aa<| ?_
  refine⟨k+1,aT,Qs.u4.u4.u4,cJ,(aJ I aO),J,J,?_⟩
  exact fun j x y=>if e:j=k then e▸‹¬gg k=below _›else hg j x J
 refine aY (id:=0) rfl<|SR<|va (v:=I 0) rfl<|va (v:=B false) rfl<|aa<|ai<| ?_
 refine jZ O (aJ I ?_) (aJ B ?_) iT.below<;>rw[aq4 J hg]
theorem ND(r:Rl)(w:World)(hT:oG w):Calls Tryz.prog 143 #[.agg (dP r)] w (Pure (.tuple #[I (E0 r (iL r)).1,B (E0 r (iL r)).2]) w):=by
 refine eH func143 rfl rfl fun hH=>SR<|gV hH (v:= .agg _) rfl<|fun b3 w1 aZ=>va (v:=I 0) rfl<|va (v:=B false) rfl<|aa<|SR<|V (aQ bL O O O (aZ.blk (i:=0) O))<|aG O aZ (V4 r 176 (iL r) _ call176 (fun i w h=>Eg r i w h) (hT.hp aZ)) (aN call175 O O)<|fun w4 bP=>V (bx O (v:=I _) O)<|V (bx O (v:=B _) O)<|aI rfl<|aB rfl<|aa<|ai<|jZ O (aJ I ?_) (aJ B ?_) bP.below
 all_goals rfl
theorem J8(r:Rl)(w:World)(hT:oG w):Calls Tryz.prog 138 #[.agg (dP r)] w (Pure (B (sL r)) w):=by
 have hp:=dr r
 refine eH func138 rfl rfl fun hH=>SR<|gV hH (v:= .agg _) rfl<|fun b3 w1 aZ=>va (v:=B false) rfl<|aa<|ag<|SR<|V (fA bL 0 O a8 O)<|lV bf aZ 0 O O (fy _)<|V (aM O O)<|mB rfl<|bM 12 O (fun h5=> ?_) (fun h5=> ?_)
 .refine aE (v:=B true) rfl<|mB rfl<|bZ O rfl<|aE (v:=B true) rfl<|aa<|cC rfl<|SR<|va (v:=B false) rfl<|aa<|ai<|oB O ?_ aZ
  exact(Ks J).symm
 refine V (fA bL 0 O a8 O)<|lV bf aZ 0 O O (fy _)<|V (cD O O)<|mB rfl<|mB rfl<|bM 17 O (fun h7=> ?_) (fun h7=> ?_)
 .refine aE (v:=B true) rfl<|aa<|cC rfl<|SR<|va (v:=B false) rfl<|aa<|ai<|oB O ?_ aZ
  exact(Ks J).symm
 refine V (aQ bL O O O (aZ.blk (i:=0) O))<|aG O aZ (Ny _ _ (hT.hp aZ)) (an call167 O)<|fun w8 iJ=>V (bO O)<|mB rfl<|aa<|bW O (fun h12=> ?_) (fun h12=> ?_)
 .refine SR<|va (v:=B false) rfl<|aa<|ai<|oB O ?_ iJ
  exact(aaG (nt aK)).symm
 refine ak<|ag<|SR<|V (fA bL 0 O a8 O)<|lV bf iJ 0 O O (fy _)<|aE (v:=I 0) rfl<|aa<|ay<|have hn:1<=r.n/\r.n<=64:=J;have ho:eW r=true:=nf aK;bk (G:=Int) (fun i s' w'=>(Fr (rg 2 7 (rg 24 29 [])) _ s')/\(Hp w w' _)/\(s' 24=I i)/\(0<=i)/\(i<=r.n)/\(∀a b:Int,0<=b->b<a->a<i->tU r a b=true)) (fun i=>(r.n-i).toNat) (0) ⟨Fr.refl _ _,iJ,rfl,J,J,fun a b x y z=>absurd z J⟩<| ?_
 rintro i aeh Bw ⟨tH,cm,NC,i0,i1,hg⟩
 obtain⟨GN,ZM⟩:=tH.w2 1 23
 refine SR<|V (aM NC ZM)<|aa<|ag<|aD O (fun J4=> ?_) (fun J4=> ?_)
 .refine ak<|ag<|ay<|SR<|aE NC<|aI rfl<|aa<|SR<|mI rfl<|aE (v:=I 0) rfl<|aa<|ay<|bk (G:=Int) (fun j s' w'=>(Fr (2::(rg 4 5 (rg 28 24 []))) _ s')/\(Hp w w' _)/\(s' 28=I j)/\(0<=j)/\(j<=i)/\(∀b:Int,0<=b->b<j->tU r i b=true)) (fun j=>(i-j).toNat) (0) ⟨Fr.refl _ _,cm,rfl,J,J,fun b x y=>absurd y J⟩<| ?_
  rintro j aei J5 ⟨px,cI,ZN,j0,j1,hh⟩
  obtain⟨qX,as6⟩:=px.w2 3 27
  obtain⟨wS,as7⟩:=px.t2 1 GN 24 NC
  refine SR<|V (aM ZN as6)<|aa<|ag<|aD O (fun pS=> ?_) (fun pS=> ?_)
  .refine ak<|ag<|ay<|SR<|aE ZN<|aI rfl<|aa<|SR<|V (aQ bL O O wS (cI.blk (i:=0) O))<|aE qX<|mI rfl<|aG O cI (z6 _ _ _ _ (hT.hp cI)) (bB call168 O O O)<|fun VV cS=> ?_
   refine V (run_move bC) ?_
   refine V (bx O (v:=I _) O)<|V (bx O (v:=B _) O)<|aI rfl<|aB rfl<|aa<|SR<|V (aQ bL O O wS (cS.blk (i:=0) O))<|aE qX<|mI rfl<|aG O cS (S1 _ _ _ _ (hT.hp cS)) (bB call169 O O O)<|fun OO eO=> ?_
   refine V (run_move bC) ?_
   refine V (bx O (v:=I _) O)<|V (bx O (v:=B _) O)<|aI rfl<|aB rfl<|aa<|SR<|mB rfl<|V (bO O)<|mB rfl<|fO 47 O (fun VY=> ?_) (fun VY=> ?_)
   .refine aE (v:=B true) rfl<|aa<|cC rfl<|SR<|va (v:=B false) rfl<|aa<|ai<|oB O ?_ eO
    exact(Kt ‹i<r.n› j0 ‹j<i› afo).symm
   refine mB rfl<|V (bO O)<|mB rfl<|aa<|bW O (fun h28=> ?_) (fun h28=> ?_)
   .refine SR<|va (v:=B false) rfl<|aa<|ai<|oB O ?_ eO
    exact(Kt ‹i<r.n› j0 ‹j<i› afk).symm
   refine ak<|aq<|V (ax ZN O J)<|mI rfl<|aa<| ?_
   refine⟨j+1,aT,px.u4.u4.u4.u4.u4.u4.u4.u1,eO,(aJ I aO),J,J,?_⟩
   exact fun b x y=>if e:b=j then e▸(by rw[tU,cG];exact⟨nf ‹(!(iS r i j).2)=false›,nf ‹(!(qz r i j).2)=false›⟩)else hh b x J
  refine aY (id:=2) rfl<|aq<|V (ax as7 O J)<|mI rfl<|aa<| ?_
  refine⟨i+1,aT,(((tH.u4.u1).t px O)).u1.u1.u1,cI,(aJ I aO),J,J,?_⟩
  exact fun a b x y z=>if e:a=i then e▸hh b x (by omega)else hg a b x y J
 refine aY (id:=0) rfl<|SR<|va (v:=B true) rfl<|aa<|ai<|oB O ?_ cm
 exact(aaH hn ho aK hg).symm
theorem Bf(r:Rl)(i j:Int)(w:World):Calls Tryz.prog 121 #[.agg (dP r),I i,I j] w (Pure (.tuple #[I (iS r i j).1,B (iS r i j).2]) w):=by
 have hp:=dr r
 refine eH func121 rfl rfl fun hH=>SR<|gV hH (v:= .agg _) rfl<|fun b3 w1 aZ=>va (v:=I 0) rfl<|va (v:=B false) rfl<|aa<|ag<|SR<|va (v:=I 0) rfl<|aa<|ay<|bk (G:=Int) (fun u s' w'=>(Fr (rg 6 46 []) _ s')/\(Hp w w' _)/\(s' 8=I u)/\(0<=u)/\(u<=pts r)/\(∀x:Int,0<=x->x<u->nZ (iL r) i j x=false)) (fun u=>(pts r-u).toNat) (0) ⟨Fr.refl _ _,aZ,rfl,J,J,fun x a b=>absurd b J⟩<| ?_
 rintro u sg4 w4 ⟨ux,gy,IT,u0,u1,hg⟩
 obtain⟨sv,J9,oc⟩:=ux.w3 1 2 3
 refine ag<|SR<|aE IT<|V (aQ bL O O oc (gy.blk (i:=0) O))<|aG O gy (bE _ _) (an lF O)<|fun w5 iT=>V (aM O O)<|aa<|aD O (fun h8=> ?_) (fun h8=> ?_)
 .refine ak<|ag<|ay<|SR<|V (aQ bL O O oc (iT.blk (i:=0) O))<|aE sv<|aE IT<|aG O iT (bA _ _ _ _) (bB iX O O O)<|fun w9 bV=>mB rfl<|fO 21 O (fun h12=> ?_) (fun h12=> ?_)
  .refine V (aQ bL O O oc (bV.blk (i:=0) O))<|aE J9<|aE IT<|aG O bV (bA _ _ _ _) (bB iX O O O)<|fun Bw cg=>mB rfl<|aB rfl<|aa<|ag<|SR<|va (v:=I 0) rfl<|aa<|ay<|bk (G:=Int) (fun v s' w'=>(Fr (9::10::(rg 27 23 [])) _ s')/\(Hp w w' _)/\(s' 9=B (D2 r i j u v))/\(s' 10=I v)/\(0<=v)/\(v<=pts r)) (fun v=>(pts r-v).toNat) (0) ⟨Fr.refl _ _,cg,(aJ B (by simp[D2,upto, *])),rfl,J,J⟩<| ?_
   rintro v aei J5 ⟨px,cI,GO,oh,v0,v1⟩
   obtain⟨wS,V5,qX,NE⟩:=px.t4 1 sv 2 J9 3 oc 8 IT
   refine ag<|SR<|aE oh<|V (aQ bL O O qX (cI.blk (i:=0) O))<|aG O cI (bE _ _) (an lF O)<|fun Ou gW=>V (aM O O)<|aa<|aD O (fun NA=> ?_) (fun NA=> ?_)
   .refine ak<|ag<|ay<|SR<|V (aQ bL O O qX (gW.blk (i:=0) O))<|aE wS<|aE oh<|aG O gW (bA _ _ _ _) (bB iX O O O)<|fun OO eO=>mB rfl<|fO 37 O (fun GK=> ?_) (fun GK=> ?_)
    .refine V (aQ bL O O qX (eO.blk (i:=0) O))<|aE V5<|aE oh<|aG O eO (bA _ _ _ _) (bB iX O O O)<|fun V6 dK=>mB rfl<|mB rfl<|fO 43 O (fun rp=> ?_) (fun rp=> ?_)
     .refine V (aQ bL O O qX (dK.blk (i:=0) O))<|aE NE<|aE oh<|aG O dK (bA _ _ _ _) (bB iX O O O)<|fun w30 mo=>V (bO O)<|mB rfl<|aa<|bW O (fun IS=> ?_) (fun IS=> ?_)
      .refine aq<|va (v:=B false) rfl<|aa<|aq<|aE oh<|V (ax O O J)<|aI rfl<|aa<| ?_
       refine⟨v+1,aT,px.u4.u4.u4.u4.u4.u4.u1,mo,(aJ B BV),(aJ I aO),J,J⟩
      refine ak<|aq<|aE oh<|V (ax O O J)<|aI rfl<|aa<| ?_
      refine⟨v+1,aT,px.u4.u4.u4.u4.u4.u4,mo,(jW GO (aJ B BV)),(aJ I aO),J,J⟩
     refine aE (v:=B false) rfl<|aa<|cL rfl<|ak<|aq<|aE oh<|V (ax O O J)<|aI rfl<|aa<| ?_
     refine⟨v+1,aT,px.u4.u4.u4.u4.u4.u4,dK,(jW GO (aJ B BV)),(aJ I aO),J,J⟩
    refine aE (v:=B false) rfl<|mB rfl<|bZ O rfl<|aE (v:=B false) rfl<|aa<|cL rfl<|ak<|aq<|aE oh<|V (ax O O J)<|aI rfl<|aa<| ?_
    refine⟨v+1,aT,px.u4.u4.u4.u4.u4.u4,eO,(jW GO (aJ B BV)),(aJ I aO),J,J⟩
   refine aY (id:=2) rfl<|SR<|aE GO<|aa<|bW O (fun DP=> ?_) (fun DP=> ?_)
   .refine SR<|aE NE<|aI rfl<|va (v:=B true) rfl<|aa<|ai<| ?_
    (refine jZ O (aJ I ?_) (aJ B ?_) gW.below<;>rw[Ud u0 aK (show v=pts r by omega) aK hg])
   refine ak<|aq<|aE NE<|V (ax O O J)<|aI rfl<|aa<| ?_
   refine⟨u+1,aT,(((ux.u4.u4.u4.u4).t px O)).u4.u4,gW,(aJ I aO),J,J,?_⟩
   exact fun x a b=>if e:x=u then e▸(by rw[Ic r i j u (show v=pts r by omega)];assumption)else hg x a J
  refine aE (v:=B false) rfl<|aB rfl<|aa<|ag<|SR<|va (v:=I 0) rfl<|aa<|ay<|bk (G:=Int) (fun v s' w'=>(Fr (9::10::(rg 27 23 [])) _ s')/\(Hp w w' _)/\(s' 9=B (D2 r i j u v))/\(s' 10=I v)/\(0<=v)/\(v<=pts r)) (fun v=>(pts r-v).toNat) (0) ⟨Fr.refl _ _,bV,(aJ B (by simp[D2,upto, *])),rfl,J,J⟩<| ?_
  rintro v aEC w36 ⟨IU,oe,GQ,om,v0,v1⟩
  obtain⟨ajy,ajz,GR,NG⟩:=IU.t4 1 sv 2 J9 3 oc 8 IT
  refine ag<|SR<|aE om<|V (aQ bL O O GR (oe.blk (i:=0) O))<|aG O oe (bE _ _) (an lF O)<|fun w38 m5=>V (aM O O)<|aa<|aD O (fun h41=> ?_) (fun h41=> ?_)
  .refine ak<|ag<|ay<|SR<|V (aQ bL O O GR (m5.blk (i:=0) O))<|aE ajy<|aE om<|aG O m5 (bA _ _ _ _) (bB iX O O O)<|fun w42 kZ=>mB rfl<|fO 37 O (fun h45=> ?_) (fun h45=> ?_)
   .refine V (aQ bL O O GR (kZ.blk (i:=0) O))<|aE ajz<|aE om<|aG O kZ (bA _ _ _ _) (bB iX O O O)<|fun w46 oC=>mB rfl<|mB rfl<|fO 43 O (fun h49=> ?_) (fun h49=> ?_)
    .refine V (aQ bL O O GR (oC.blk (i:=0) O))<|aE NG<|aE om<|aG O oC (bA _ _ _ _) (bB iX O O O)<|fun w50 wg=>V (bO O)<|mB rfl<|aa<|bW O (fun h54=> ?_) (fun h54=> ?_)
     .refine aq<|va (v:=B false) rfl<|aa<|aq<|aE om<|V (ax O O J)<|aI rfl<|aa<| ?_
      refine⟨v+1,aT,IU.u4.u4.u4.u4.u4.u4.u1,wg,(aJ B BV),(aJ I aO),J,J⟩
     refine ak<|aq<|aE om<|V (ax O O J)<|aI rfl<|aa<| ?_
     refine⟨v+1,aT,IU.u4.u4.u4.u4.u4.u4,wg,(jW GQ (aJ B BV)),(aJ I aO),J,J⟩
    refine aE (v:=B false) rfl<|aa<|cL rfl<|ak<|aq<|aE om<|V (ax O O J)<|aI rfl<|aa<| ?_
    refine⟨v+1,aT,IU.u4.u4.u4.u4.u4.u4,oC,(jW GQ (aJ B BV)),(aJ I aO),J,J⟩
   refine aE (v:=B false) rfl<|mB rfl<|bZ O rfl<|aE (v:=B false) rfl<|aa<|cL rfl<|ak<|aq<|aE om<|V (ax O O J)<|aI rfl<|aa<| ?_
   refine⟨v+1,aT,IU.u4.u4.u4.u4.u4.u4,kZ,(jW GQ (aJ B BV)),(aJ I aO),J,J⟩
  refine aY (id:=2) rfl<|SR<|aE GQ<|aa<|bW O (fun h55=> ?_) (fun h55=> ?_)
  .refine SR<|aE NG<|aI rfl<|va (v:=B true) rfl<|aa<|ai<| ?_
   (refine jZ O (aJ I ?_) (aJ B ?_) m5.below<;>rw[Ud u0 aK (show v=pts r by omega) aK hg])
  refine ak<|aq<|aE NG<|V (ax O O J)<|aI rfl<|aa<| ?_
  refine⟨u+1,aT,(((ux.u4.u4.u4.u4).t IU O)).u4.u4,m5,(aJ I aO),J,J,?_⟩
  exact fun x a b=>if e:x=u then e▸(by rw[Ic r i j u (show v=pts r by omega)];assumption)else hg x a J
 refine aY (id:=0) rfl<|SR<|va (v:=I 0) rfl<|va (v:=B false) rfl<|aa<|ai<| ?_
 (refine jZ O (aJ I ?_) (aJ B ?_) iT.below<;>rw[alV aK hg])
theorem Bg(r:Rl)(i j:Int)(w:World):Calls Tryz.prog 184 #[.agg (dP r),I i,I j] w (Pure (.tuple #[I (qz r i j).1,B (qz r i j).2]) w):=by
 have hp:=dr r
 refine eH func184 rfl rfl fun hH=>SR<|gV hH (v:= .agg _) rfl<|fun b3 w1 aZ=>va (v:=I 0) rfl<|va (v:=B false) rfl<|aa<|ag<|SR<|va (v:=I 0) rfl<|aa<|ay<|bk (G:=Int) (fun u s' w'=>(Fr (rg 6 46 []) _ s')/\(Hp w w' _)/\(s' 8=I u)/\(0<=u)/\(u<=pts r)/\(∀x:Int,0<=x->x<u->nZ (bU r) i j x=false)) (fun u=>(pts r-u).toNat) (0) ⟨Fr.refl _ _,aZ,rfl,J,J,fun x a b=>absurd b J⟩<| ?_
 rintro u sg4 w4 ⟨ux,gy,IT,u0,u1,hg⟩
 obtain⟨sv,J9,oc⟩:=ux.w3 1 2 3
 refine ag<|SR<|aE IT<|V (aQ bL O O oc (gy.blk (i:=0) O))<|aG O gy (bE _ _) (an lF O)<|fun w5 iT=>V (aM O O)<|aa<|aD O (fun h8=> ?_) (fun h8=> ?_)
 .refine ak<|ag<|ay<|SR<|V (aQ bL O O oc (iT.blk (i:=0) O))<|aE IT<|aE sv<|aG O iT (bA _ _ _ _) (bB iX O O O)<|fun w9 bV=>mB rfl<|fO 21 O (fun h12=> ?_) (fun h12=> ?_)
  .refine V (aQ bL O O oc (bV.blk (i:=0) O))<|aE IT<|aE J9<|aG O bV (bA _ _ _ _) (bB iX O O O)<|fun Bw cg=>mB rfl<|aB rfl<|aa<|ag<|SR<|va (v:=I 0) rfl<|aa<|ay<|bk (G:=Int) (fun v s' w'=>(Fr (9::10::(rg 27 23 [])) _ s')/\(Hp w w' _)/\(s' 9=B (D3 r i j u v))/\(s' 10=I v)/\(0<=v)/\(v<=pts r)) (fun v=>(pts r-v).toNat) (0) ⟨Fr.refl _ _,cg,(aJ B (by simp[D3,upto, *])),rfl,J,J⟩<| ?_
   rintro v aei J5 ⟨px,cI,GO,oh,v0,v1⟩
   obtain⟨wS,V5,qX,NE⟩:=px.t4 1 sv 2 J9 3 oc 8 IT
   refine ag<|SR<|aE oh<|V (aQ bL O O qX (cI.blk (i:=0) O))<|aG O cI (bE _ _) (an lF O)<|fun Ou gW=>V (aM O O)<|aa<|aD O (fun NA=> ?_) (fun NA=> ?_)
   .refine ak<|ag<|ay<|SR<|V (aQ bL O O qX (gW.blk (i:=0) O))<|aE oh<|aE wS<|aG O gW (bA _ _ _ _) (bB iX O O O)<|fun OO eO=>mB rfl<|fO 37 O (fun GK=> ?_) (fun GK=> ?_)
    .refine V (aQ bL O O qX (eO.blk (i:=0) O))<|aE oh<|aE V5<|aG O eO (bA _ _ _ _) (bB iX O O O)<|fun V6 dK=>mB rfl<|mB rfl<|fO 43 O (fun rp=> ?_) (fun rp=> ?_)
     .refine V (aQ bL O O qX (dK.blk (i:=0) O))<|aE oh<|aE NE<|aG O dK (bA _ _ _ _) (bB iX O O O)<|fun w30 mo=>V (bO O)<|mB rfl<|aa<|bW O (fun IS=> ?_) (fun IS=> ?_)
      .refine aq<|va (v:=B false) rfl<|aa<|aq<|aE oh<|V (ax O O J)<|aI rfl<|aa<| ?_
       refine⟨v+1,aT,px.u4.u4.u4.u4.u4.u4.u1,mo,(aJ B BW),(aJ I aO),J,J⟩
      refine ak<|aq<|aE oh<|V (ax O O J)<|aI rfl<|aa<| ?_
      refine⟨v+1,aT,px.u4.u4.u4.u4.u4.u4,mo,(jW GO (aJ B BW)),(aJ I aO),J,J⟩
     refine aE (v:=B false) rfl<|aa<|cL rfl<|ak<|aq<|aE oh<|V (ax O O J)<|aI rfl<|aa<| ?_
     refine⟨v+1,aT,px.u4.u4.u4.u4.u4.u4,dK,(jW GO (aJ B BW)),(aJ I aO),J,J⟩
    refine aE (v:=B false) rfl<|mB rfl<|bZ O rfl<|aE (v:=B false) rfl<|aa<|cL rfl<|ak<|aq<|aE oh<|V (ax O O J)<|aI rfl<|aa<| ?_
    refine⟨v+1,aT,px.u4.u4.u4.u4.u4.u4,eO,(jW GO (aJ B BW)),(aJ I aO),J,J⟩
   refine aY (id:=2) rfl<|SR<|aE GO<|aa<|bW O (fun DP=> ?_) (fun DP=> ?_)
   .refine SR<|aE NE<|aI rfl<|va (v:=B true) rfl<|aa<|ai<| ?_
    (refine jZ O (aJ I ?_) (aJ B ?_) gW.below<;>rw[Ue u0 aK (show v=pts r by omega) aK hg])
   refine ak<|aq<|aE NE<|V (ax O O J)<|aI rfl<|aa<| ?_
   refine⟨u+1,aT,(((ux.u4.u4.u4.u4).t px O)).u4.u4,gW,(aJ I aO),J,J,?_⟩
   exact fun x a b=>if e:x=u then e▸(by rw[Ie r i j u (show v=pts r by omega)];assumption)else hg x a J
  refine aE (v:=B false) rfl<|aB rfl<|aa<|ag<|SR<|va (v:=I 0) rfl<|aa<|ay<|bk (G:=Int) (fun v s' w'=>(Fr (9::10::(rg 27 23 [])) _ s')/\(Hp w w' _)/\(s' 9=B (D3 r i j u v))/\(s' 10=I v)/\(0<=v)/\(v<=pts r)) (fun v=>(pts r-v).toNat) (0) ⟨Fr.refl _ _,bV,(aJ B (by simp[D3,upto, *])),rfl,J,J⟩<| ?_
  rintro v aEC w36 ⟨IU,oe,GQ,om,v0,v1⟩
  obtain⟨ajy,ajz,GR,NG⟩:=IU.t4 1 sv 2 J9 3 oc 8 IT
  refine ag<|SR<|aE om<|V (aQ bL O O GR (oe.blk (i:=0) O))<|aG O oe (bE _ _) (an lF O)<|fun w38 m5=>V (aM O O)<|aa<|aD O (fun h41=> ?_) (fun h41=> ?_)
  .refine ak<|ag<|ay<|SR<|V (aQ bL O O GR (m5.blk (i:=0) O))<|aE om<|aE ajy<|aG O m5 (bA _ _ _ _) (bB iX O O O)<|fun w42 kZ=>mB rfl<|fO 37 O (fun h45=> ?_) (fun h45=> ?_)
   .refine V (aQ bL O O GR (kZ.blk (i:=0) O))<|aE om<|aE ajz<|aG O kZ (bA _ _ _ _) (bB iX O O O)<|fun w46 oC=>mB rfl<|mB rfl<|fO 43 O (fun h49=> ?_) (fun h49=> ?_)
    .refine V (aQ bL O O GR (oC.blk (i:=0) O))<|aE om<|aE NG<|aG O oC (bA _ _ _ _) (bB iX O O O)<|fun w50 wg=>V (bO O)<|mB rfl<|aa<|bW O (fun h54=> ?_) (fun h54=> ?_)
     .refine aq<|va (v:=B false) rfl<|aa<|aq<|aE om<|V (ax O O J)<|aI rfl<|aa<| ?_
      refine⟨v+1,aT,IU.u4.u4.u4.u4.u4.u4.u1,wg,(aJ B BW),(aJ I aO),J,J⟩
     refine ak<|aq<|aE om<|V (ax O O J)<|aI rfl<|aa<| ?_
     refine⟨v+1,aT,IU.u4.u4.u4.u4.u4.u4,wg,(jW GQ (aJ B BW)),(aJ I aO),J,J⟩
    refine aE (v:=B false) rfl<|aa<|cL rfl<|ak<|aq<|aE om<|V (ax O O J)<|aI rfl<|aa<| ?_
    refine⟨v+1,aT,IU.u4.u4.u4.u4.u4.u4,oC,(jW GQ (aJ B BW)),(aJ I aO),J,J⟩
   refine aE (v:=B false) rfl<|mB rfl<|bZ O rfl<|aE (v:=B false) rfl<|aa<|cL rfl<|ak<|aq<|aE om<|V (ax O O J)<|aI rfl<|aa<| ?_
   refine⟨v+1,aT,IU.u4.u4.u4.u4.u4.u4,kZ,(jW GQ (aJ B BW)),(aJ I aO),J,J⟩
  refine aY (id:=2) rfl<|SR<|aE GQ<|aa<|bW O (fun h55=> ?_) (fun h55=> ?_)
  .refine SR<|aE NG<|aI rfl<|va (v:=B true) rfl<|aa<|ai<| ?_
   (refine jZ O (aJ I ?_) (aJ B ?_) m5.below<;>rw[Ue u0 aK (show v=pts r by omega) aK hg])
  refine ak<|aq<|aE NG<|V (ax O O J)<|aI rfl<|aa<| ?_
  refine⟨u+1,aT,(((ux.u4.u4.u4.u4).t IU O)).u4.u4,m5,(aJ I aO),J,J,?_⟩
  exact fun x a b=>if e:x=u then e▸(by rw[Ie r i j u (show v=pts r by omega)];assumption)else hg x a J
 refine aY (id:=0) rfl<|SR<|va (v:=I 0) rfl<|va (v:=B false) rfl<|aa<|ai<| ?_
 (refine jZ O (aJ I ?_) (aJ B ?_) iT.below<;>rw[alW aK hg])
theorem xG(r:Rl)(w:World):Calls Tryz.prog 151 #[.agg (dP r)] w (Pure (B (sL r)) w):=by
 have hp:=dr r
 refine eH func151 rfl rfl fun hH=>SR<|gV hH (v:= .agg _) rfl<|fun b3 w1 aZ=>va (v:=B false) rfl<|aa<|ag<|SR<|V (fA bL 0 O a8 O)<|lV bf aZ 0 O O (fy _)<|V (aM O O)<|mB rfl<|bM 12 O (fun h5=> ?_) (fun h5=> ?_)
 .refine aE (v:=B true) rfl<|mB rfl<|bZ O rfl<|aE (v:=B true) rfl<|aa<|cC rfl<|SR<|va (v:=B false) rfl<|aa<|ai<|oB O ?_ aZ
  exact(Ks J).symm
 refine V (fA bL 0 O a8 O)<|lV bf aZ 0 O O (fy _)<|V (cD O O)<|mB rfl<|mB rfl<|bM 17 O (fun h7=> ?_) (fun h7=> ?_)
 .refine aE (v:=B true) rfl<|aa<|cC rfl<|SR<|va (v:=B false) rfl<|aa<|ai<|oB O ?_ aZ
  exact(Ks J).symm
 refine V (aQ bL O O O (aZ.blk (i:=0) O))<|aG O aZ (qW _ _) (an call148 O)<|fun w8 iJ=>V (bO O)<|mB rfl<|aa<|bW O (fun h12=> ?_) (fun h12=> ?_)
 .refine SR<|va (v:=B false) rfl<|aa<|ai<|oB O ?_ iJ
  exact(aaG (nt aK)).symm
 refine ak<|ag<|SR<|va (v:=I 0) rfl<|aa<|ay<|have hn:1<=r.n/\r.n<=64:=J;have ho:eW r=true:=nf aK;bk (G:=Int) (fun i s' w'=>(Fr (rg 2 7 (rg 22 31 [])) _ s')/\(Hp w w' _)/\(s' 3=I i)/\(0<=i)/\(i<=r.n)/\(∀a b:Int,0<=b->b<a->a<i->tU r a b=true)) (fun i=>(r.n-i).toNat) (0) ⟨Fr.refl _ _,iJ,rfl,J,J,fun a b x y z=>absurd z J⟩<| ?_
 rintro i aeh Bw ⟨tH,cm,AX,i0,i1,hg⟩
 have GN:=tH.w1 1
 refine ag<|SR<|aE AX<|V (fA bL 0 O a8 GN)<|lV bf cm 0 O O (fy _)<|V (aM O O)<|aa<|aD O (fun J4=> ?_) (fun J4=> ?_)
 .refine ak<|ag<|ay<|SR<|va (v:=I 0) rfl<|aa<|ay<|bk (G:=Int) (fun j s' w'=>(Fr (2::(rg 4 5 (rg 28 25 []))) _ s')/\(Hp w w' _)/\(s' 4=I j)/\(0<=j)/\(j<=i)/\(∀b:Int,0<=b->b<j->tU r i b=true)) (fun j=>(i-j).toNat) (0) ⟨Fr.refl _ _,cm,rfl,J,J,fun b x y=>absurd y J⟩<| ?_
  rintro j aei J5 ⟨px,cI,NH,j0,j1,hh⟩
  obtain⟨wS,qX⟩:=px.t2 1 GN 3 AX
  refine ag<|SR<|aE NH<|aE qX<|V (aM O O)<|aa<|aD O (fun pS=> ?_) (fun pS=> ?_)
  .refine ak<|ag<|ay<|SR<|V (aQ bL O O wS (cI.blk (i:=0) O))<|aE qX<|aE NH<|aG O cI (Bf _ _ _ _) (bB call121 O O O)<|fun VV cS=> ?_
   refine V (run_move bC) ?_
   refine V (bx O (v:=I _) O)<|V (bx O (v:=B _) O)<|aI rfl<|aB rfl<|aa<|SR<|V (aQ bL O O wS (cS.blk (i:=0) O))<|aE qX<|aE NH<|aG O cS (Bg _ _ _ _) (bB call184 O O O)<|fun OO eO=> ?_
   refine V (run_move bC) ?_
   refine V (bx O (v:=I _) O)<|V (bx O (v:=B _) O)<|aI rfl<|aB rfl<|aa<|SR<|mB rfl<|V (bO O)<|mB rfl<|fO 49 O (fun VY=> ?_) (fun VY=> ?_)
   .refine aE (v:=B true) rfl<|aa<|cC rfl<|SR<|va (v:=B false) rfl<|aa<|ai<|oB O ?_ eO
    exact(Kt ‹i<r.n› j0 ‹j<i› afo).symm
   refine mB rfl<|V (bO O)<|mB rfl<|aa<|bW O (fun h28=> ?_) (fun h28=> ?_)
   .refine SR<|va (v:=B false) rfl<|aa<|ai<|oB O ?_ eO
    exact(Kt ‹i<r.n› j0 ‹j<i› afk).symm
   refine ak<|aq<|aE NH<|V (ax O O J)<|aI rfl<|aa<| ?_
   refine⟨j+1,aT,px.u4.u4.u4.u4.u4.u4.u4.u1.u1,eO,(aJ I aO),J,J,?_⟩
   exact fun b x y=>if e:b=j then e▸(by rw[tU,cG];exact⟨nf ‹(!(iS r i j).2)=false›,nf ‹(!(qz r i j).2)=false›⟩)else hh b x J
  refine aY (id:=2) rfl<|aq<|aE qX<|V (ax O O J)<|aI rfl<|aa<| ?_
  refine⟨i+1,aT,(((tH.u4.u1).t px O)).u4.u1.u1,cI,(aJ I aO),J,J,?_⟩
  exact fun a b x y z=>if e:a=i then e▸hh b x (by omega)else hg a b x y J
 refine aY (id:=0) rfl<|SR<|va (v:=B true) rfl<|aa<|ai<|oB O ?_ cm
 exact(aaH hn ho aK hg).symm
theorem Bh(r:Rl)(i:Int)(w:World):Calls Tryz.prog 117 #[.agg (dP r),I i] w (Pure (U (bU r i)) w):=by
 have hp:=dr r
 refine eH func117 rfl rfl fun hH=>SR<|gV hH (v:= .agg _) rfl<|fun b3 w1 aZ=>va (v:=U 0#64) rfl<|aa<|SR<|va (v:= .slice none 0 0) rfl<|have gy:=aZ.fx 3 1;aa<|ag<|SR<|va (v:=I 0) rfl<|aa<|ay<|bk (G:=Int×(List Int)×Value) (fun⟨k,l,v5⟩ s' w'=>(Fr (rg 5 16 []) _ s')/\(Hp w w' (.row v5 3 1 (l.length) (l.map I)::_))/\(s' 5=v5)/\(s' 6=I k)/\(0<=k)/\(k<=pts r)/\(l=qF r i k)) (fun⟨k,l,v5⟩=>(pts r-k).toNat) ((0,[],(.slice none 0 0:Value))) ⟨Fr.refl _ _,gy,rfl,rfl,J,J,rfl⟩<| ?_
 rintro⟨k,l,v5⟩ sg5 w5 ⟨OI,bP,DM,ajA,k0,k1,hl⟩
 obtain⟨asQ,atb⟩:=OI.w2 1 2
 refine ag<|SR<|aE ajA<|V (aQ bL O O atb (bP.blk (i:=1) O))<|aG O bP (bE _ _) (an lF O)<|fun w6 eN=>V (aM O O)<|aa<|aD O (fun h9=> ?_) (fun h9=> ?_)
 .refine ak<|ag<|ay<|SR<|V (aQ bL O O atb (eN.blk (i:=1) O))<|aE ajA<|aE asQ<|aG O eN (bA _ _ _ _) (bB iX O O O)<|fun GJ dJ=>aa<|bW O (fun OK=> ?_) (fun OK=> ?_)
  .refine aq<|aE DM<|aE ajA<|xP 1 1 dJ (cA bz O O (sz:=1) (vs:=[I _]) O O az az O O)<|fun b16 Np fp=> ?_
   (try simp only[o4]at fp)
   refine jI O fp (i:=1) O (fp.dV (i:=0) (n:=1) (sz:=1) O O az) O O bz O O (size:=1) (bytes:=8) O O O az iF (by have:= @Pf r i k;rw[<-hl]at this;omega) (by have:= @Pf r i k;rw[<-hl]at this;simp only[maxLen];omega)<|fun v17 Ou gW=> ?_
   refine V (run_assign bC) ?_
   refine aa<|aq<|aE ajA<|V (ax O O J)<|aI rfl<|aa<| ?_
   refine⟨(k+1,l++[k],v17),aT,OI.u4.u4.u4.u4,(Hp.conv (gW.sub (sQ sR)) aF),rfl,(aJ I aO),J,J,?_⟩
   (rw[hl];exact ac5 k0 aK)
  refine ak<|aq<|aE ajA<|V (ax O O J)<|aI rfl<|aa<| ?_
  refine⟨(k+1,l,v5),aT,OI.u4.u4.u1.u1.u1,(Hp.conv dJ aO),DM,(aJ I aO),J,J,?_⟩
  (rw[hl];exact agn k0 aK)
 refine aY (id:=0) rfl<|SR<|aE DM<|aG O eN (iC _ _ _ (eN.sl (i:=0) O)) (an HH O)<|fun w20 fB=>aU rfl<|aa<|ai<|oU O ?_ fB
 (rw[hl];exact ac6 J)
theorem z7(r:Rl)(s:BitVec 64)(w:World):Calls Tryz.prog 120 #[.agg (dP r),U s] w (Pure (.tuple #[I (eM r s).1,B (eM r s).2]) w):=by
 have hp:=dr r
 refine eH func120 rfl rfl fun hH=>SR<|gV hH (v:= .agg _) rfl<|fun b3 w1 aZ=>va (v:=I 0) rfl<|va (v:=B false) rfl<|aa<|ag<|SR<|va (v:=I 0) rfl<|aa<|ay<|bk (G:=Int) (fun k s' w'=>(Fr (rg 4 15 []) _ s')/\(Hp w w' _)/\(s' 6=I k)/\(0<=k)/\(k<=pts r)/\(∀j:Int,0<=j->j<k->bU r j≠s)) (fun k=>(pts r-k).toNat) (0) ⟨Fr.refl _ _,aZ,rfl,J,J,fun j x y=>absurd y J⟩<| ?_
 rintro k sg4 w4 ⟨ux,gy,Fu,h0,hk,hg⟩
 obtain⟨sv,J9⟩:=ux.w2 1 2
 refine ag<|SR<|aE Fu<|V (aQ bL O O J9 (gy.blk (i:=0) O))<|aG O gy (bE _ _) (an lF O)<|fun w5 iT=>V (aM O O)<|aa<|aD O (fun h8=> ?_) (fun h8=> ?_)
 .refine ak<|ag<|ay<|SR<|V (aQ bL O O J9 (iT.blk (i:=0) O))<|aE Fu<|aG O iT (Bh _ _ _) (aN call117 O O)<|fun w9 bV=>aE sv<|V (iZ O O)<|aa<|aD O (fun h12=> ?_) (fun h12=> ?_)
  .refine SR<|aE Fu<|aI rfl<|va (v:=B true) rfl<|aa<|ai<| ?_
   refine jZ O (aJ I ?_) (aJ B ?_) bV.below<;>rw[Dj h0 aK aK hg]
  refine ak<|aq<|aE Fu<|V (ax O O J)<|aI rfl<|aa<| ?_
  refine⟨k+1,aT,ux.u4.u4.u4,bV,(aJ I aO),J,J,?_⟩
  exact fun j x y=>if e:j=k then e▸‹¬bU r k=s›else hg j x J
 refine aY (id:=0) rfl<|SR<|va (v:=I 0) rfl<|va (v:=B false) rfl<|aa<|ai<| ?_
 refine jZ O (aJ I ?_) (aJ B ?_) iT.below<;>rw[F5 aK hg]
theorem z8(r:Rl)(w:World):Calls Tryz.prog 137 #[.agg (dP r)] w (Pure (B (de r)) w):=by
 refine eH func137 rfl rfl fun hH=>SR<|gV hH (v:= .agg _) rfl<|fun b3 w1 aZ=>va (v:=B false) rfl<|aa<|SR<|V (fA bL 0 O a8 O)<|lV bf aZ 0 O O (fy _)<|V (dD O O)<|mB rfl<|bM 6 O (fun h5=> ?_) (fun h5=> ?_)
 .refine V (fA bL 0 O a8 O)<|lV bf aZ 0 O O (fy _)<|V (uk O O)<|mB rfl<|mB rfl<|bM 11 O (fun h7=> ?_) (fun h7=> ?_)
  .refine V (aQ bL O O O (aZ.blk (i:=0) O))<|aG O aZ (AS _ _) (an call166 O)<|fun w8 iJ=>mB rfl<|aB rfl<|aa<|ai<|oB O ?_ iJ
   rw[de,gQ (show 1<=r.n/\r.n<=8 by omega),l8]
  refine aE (v:=B false) rfl<|aB rfl<|aa<|ai<|oB O ?_ aZ
  rw[de,gO (show¬(1<=r.n/\r.n<=8)by omega),qu]
 refine aE (v:=B false) rfl<|mB rfl<|bZ O rfl<|aE (v:=B false) rfl<|aB rfl<|aa<|ai<|oB O ?_ aZ
 rw[de,gO (show¬(1<=r.n/\r.n<=8)by omega),qu]
theorem ZO(r:Rl)(s:BitVec 64)(o:Int)(ho:0<=o/\o<8)(w:World):Calls Tryz.prog 241 #[.agg (dP r),U s,I o] w (Pure (U (Jm r s o)) w):=by
 refine eH func241 rfl rfl fun hH=>SR<|gV hH (v:= .agg _) rfl<|fun b3 w1 aZ=>va (v:=U 0#64) rfl<|aa<|SR<|mU rfl<|mI rfl<|V (ww O O J)<|V (ju bf yU O)<|V (BZ O O)<|V (fA bL 0 O a8 O)<|lV bf aZ 0 O O (fy _)<|aG O aZ (ox _ _) (an HG O)<|fun w4 bP=>V (lH O O)<|aU rfl<|aa<|ai<|oU O ?_ bP
 rfl
theorem V7(r:Rl)(f:FuncId)(cs:List Value)(ff:Int->BitVec 64)(hn:1<=r.n/\r.n<=8)(w:World)(hf:∀args w,(callFunc f args).run Tryz.prog w= .ok (.enter f args) w)(go:∀i w',Below w.heap.size w w'->0<=i->i<r.n->Calls Tryz.prog f (I i::cs).toArray w' (Pure (U (ff i)) w')):Calls Tryz.prog 239 #[.agg (dP r),.func (.func f) #[] cs.toArray] w (Pure (U (wD ff r.n)) w):=by
 refine eH func239 rfl rfl fun hH=>SR<|gV hH (v:= .agg _) rfl<|fun b3 w1 aZ=>va (v:=U 0#64) rfl<|aa<|SR<|va (v:=U 0#64) rfl<|aa<|ag<|SR<|V (fA bL 0 O a8 O)<|lV bf aZ 0 O O (fy _)<|aE (v:=I 0) rfl<|aa<|ay<|bk (G:=Int) (fun k s' w'=>(Fr (5::6::(rg 9 13 [])) _ s')/\(Hp w w' _)/\(s' 5=U (wD ff k))/\(s' 9=I k)/\(0<=k)/\(k<=r.n)) (fun k=>(r.n-k).toNat) (0) ⟨Fr.refl _ _,aZ,rfl,rfl,J,J⟩<| ?_
 rintro k sg4 w4 ⟨ux,gy,GH,aek,h0,hk⟩
 have sv:=ux.vv 1 (a:= .func _ _ _) rfl rfl
 have IT:=ux.w1 8
 refine SR<|V (aM aek IT)<|aa<|ag<|aD O (fun h6=> ?_) (fun h6=> ?_)
 .refine ak<|ag<|ay<|SR<|aE aek<|aI rfl<|aa<|aq<|aE GH<|aE sv<|mI rfl<|aG O gy (go _ _ gy.below J J) (l9 hf (cs:=cs) O O)<|fun w7 eU=>mI rfl<|V (ww O O J)<|V (ju bf yU O)<|V (FN O O)<|V (jH O O)<|aU rfl<|aa<|aq<|V (ax aek O J)<|mI rfl<|aa<| ?_
  refine⟨k+1,aT,ux.u4.u4.u4.u1.u1.u1,eU,(aJ U (Ih h0)),(aJ I aO),J,J⟩
 refine aY (id:=0) rfl<|SR<|aE GH<|aU rfl<|aa<|ai<|oU O ?_ gy
 (rw[show k=r.n by omega])
theorem NJ(b c:Nat)(r:Rl)(s:BitVec 64)(o:Int)(hr:de r=true)(w:World)(hb:w.heap[b]?=some (.cells (dP r) 86 (0,0)))(hc:w.heap[c]?=some (.cells #[U s] 35 (0,0)))(hT:oG w):Calls Tryz.prog 240 #[I o,.pointer (some ⟨b,0,none⟩),.pointer (some ⟨c,0,none⟩)] w (Pure (U (Ii r s o)) w):=by
 have hl:=FQ (upR r (kO [o]))
 refine eH func240 rfl rfl fun hH=>SR<|va (v:=U 0#64) rfl<|aa<|SR<|va (v:=U 0#64) rfl<|aa<|ag<|ag<|ed aP hH<|fun w1 aZ=>have kH:=aZ;AT 0 O kH (fun w hS=>aQ bL O O O (hS.ext hb))<|AQ 1 O kH (mV (I _) O)<|AQ 7 O kH (mV (I 0) O)<|A1 2<|cK O aH O aZ sR (f:=fun b=> .slice (some ⟨b,0,none⟩) 1 1) (cA bz O O (sz:=1) (vs:=[I _]) O O az az O O)<|fun b5 w3 gy=> ?_
 (try simp only[o4]at gy)
 have iT:=gy.EV 1 1 O az
 refine A1 3<|bX O aH O iT (sQ sR) (yt _ [o] _ (iT.sl (i:=0) O)) (an call203 O)<|fun w7 eU=>A1 4<|bX O aH O eU (sQ sR) (CF _ _ _ (hT.hp eU)) (aN call209 O O)<|fun w9 bV=>A1 5<|HW O aH O bV (sQ sR) (CD _ _ (hT.hp bV)) (an call233 O)<|fun v13 FK cJ=>A1 6<|cr O aH O cJ (sQ (sQ sR)) (aA (cJ.sl (i:=0) O) O bz O)<|AD<|ay<|bk (G:=Int) (fun k s' w'=>(Fr (5::(7::(rg 15 13 []))) _ s')/\(Hp w w' _)/\(s' 5=U (wz (fun p=>D1 r (Jm r s p)) ((gA (upR r (kO [o]))).take k.toNat)))/\(s' 15=I k)/\(0<=k)/\(k<=(gA (upR r (kO [o]))).length)) (fun k=>((gA (upR r (kO [o]))).length-k).toNat) (0) ⟨Fr.refl _ _,cJ,(aJ U (by simp[wz])),rfl,J,J⟩<| ?_
 rintro k aei J5 ⟨px,cI,Ei,ZP,h0,hk⟩
 obtain⟨wS,V5,atc,atd⟩:=px.w4 1 2 13 14
 refine SR<|V (aM ZP atd)<|aa<|ag<|aD O (fun pS=> ?_) (fun pS=> ?_)
 .refine ak<|ag<|ay<|SR<|V (ah (cI.sl (i:=0) O) bz a8 atc ZP J)<|V (aC bf O O ((cI.sl (i:=0) O).cell _ _ (eG J)))<|aI rfl<|aa<|ed aP cI<|fun VV cS=>have Aa:=cS;AQ 0 O Aa (run_move Ei)<|AT 1 O Aa (fun w hS=>aQ bL O O wS (hS.ext hb))<|AT 2 O Aa (fun w hS=>aQ bL O O wS (hS.ext hb))<|AT 3 O Aa (fun w hS=>aC dZ O V5 (hS.eE hc (v:=U _) O))<|AQ 4 O Aa (mV (I _) O)<|A1 5<|bX O aH O cS sR (ZO _ _ _ (ags hr (Yo h0 aK)) _) (bB call241 O O O)<|fun Qu dm=>A1 6<|bX O aH O dm sR (xD _ _ _) (aN call211 O O)<|fun w23 mK=>AQ 7 O mK (jH O O)<|AQ 8 O mK (aV (U _) O)<|AD<|aq<|V (ax ZP O J)<|mI rfl<|aa<| ?_
  refine⟨k+1,aT,px.u4.u4.u4.u1.u1.u1,mK,(aJ U (LM (f:=fun p=>D1 r (Jm r s p)) h0 aK)),(aJ I aO),J,J⟩
 refine aY (id:=0) rfl<|SR<|aE Ei<|aU rfl<|aa<|ai<|oU O ?_ cI
 (rw[LK aK];rfl)
theorem S2(r:Rl)(s:BitVec 64)(w:World)(hT:oG w):Calls Tryz.prog 213 #[.agg (dP r),U s] w (Pure (U (fP r s)) w):=by
 refine eH func213 rfl rfl fun hH=>SR<|gV hH (v:= .agg _) rfl<|fun b3 w1 aZ=>gV aZ (v:=U _) rfl<|fun b6 w4 bP=>va (v:=U 0#64) rfl<|aa<|ag<|SR<|V (aQ bL O O O (bP.blk (i:=1) O))<|aG O bP (z8 _ _) (an call137 O)<|fun w7 eU=>V (bO O)<|aa<|bW O (fun h11=> ?_) (fun h11=> ?_)
 .refine SR<|va (v:=U 0#64) rfl<|aa<|ai<|oU O ?_ eU
  exact(Ul (nt aK)).symm
 refine ak<|SR<|V (aQ bL O O O (eU.blk (i:=1) O))<| ?_
 refine V (nV bC bC) ?_
 refine aG O eU (V7 r 240 [.pointer (some ⟨b3,0,none⟩),.pointer (some ⟨b6,0,none⟩)] (Ii r s) (gm (nf ‹(!de r)=false›)).1 _ call240 (fun i w h _ _=>NJ b3 b6 r s i (nf ‹(!de r)=false›) w (keep h (eU.blk (i:=1) O)) (keep h (eU.blk (i:=0) O)) ((hT.hp eU).below h))) (aN call239 O O)<|fun Bv cm=>aU rfl<|aa<|ai<|oU O ?_ cm
 exact ac9 (nf aK)
theorem OR(r:Rl)(s:BitVec 64)(w:World)(hT:oG w):Calls Tryz.prog 180 #[.agg (dP r),U s] w (Pure (B (pA r s)) w):=by
 refine eH func180 rfl rfl fun hH=>SR<|gV hH (v:= .agg _) rfl<|fun b3 w1 aZ=>va (v:=B false) rfl<|aa<|SR<|V (aQ bL O O O (aZ.blk (i:=0) O))<|aG O aZ (z8 _ _) (an call137 O)<|fun w4 bP=>mB rfl<|fO 7 O (fun h7=> ?_) (fun h7=> ?_)
 .refine V (aQ bL O O O (bP.blk (i:=0) O))<|mU rfl<|aG O bP (S2 _ _ _ (hT.hp bP)) (aN call213 O O)<|fun w8 iJ=>mU rfl<|V (iZ O O)<|mB rfl<|aB rfl<|aa<|ai<|oB O ?_ iJ
  (rw[pA,‹de r=true›];rfl)
 refine aE (v:=B false) rfl<|aB rfl<|aa<|ai<|oB O ?_ bP
 (rw[pA,‹de r=false›];rfl)
theorem mq(r:Rl)(w:World):Calls Tryz.prog 146 #[.agg (dP r)] w (Pure (B (de r)) w):=by
 refine eH func146 rfl rfl fun hH=>SR<|gV hH (v:= .agg _) rfl<|fun b3 w1 aZ=>va (v:=B false) rfl<|aa<|SR<|V (fA bL 0 O a8 O)<|lV bf aZ 0 O O (fy _)<|V (dD O O)<|mB rfl<|bM 6 O (fun h5=> ?_) (fun h5=> ?_)
 .refine V (fA bL 0 O a8 O)<|lV bf aZ 0 O O (fy _)<|V (uk O O)<|mB rfl<|mB rfl<|bM 11 O (fun h7=> ?_) (fun h7=> ?_)
  .refine V (aQ bL O O O (aZ.blk (i:=0) O))<|aG O aZ (qd _ _) (an call182 O)<|fun w8 iJ=>mB rfl<|aB rfl<|aa<|ai<|oB O ?_ iJ
   rw[de,gQ (show 1<=r.n/\r.n<=8 by omega),l8]
  refine aE (v:=B false) rfl<|aB rfl<|aa<|ai<|oB O ?_ aZ
  rw[de,gO (show¬(1<=r.n/\r.n<=8)by omega),qu]
 refine aE (v:=B false) rfl<|mB rfl<|bZ O rfl<|aE (v:=B false) rfl<|aB rfl<|aa<|ai<|oB O ?_ aZ
 rw[de,gO (show¬(1<=r.n/\r.n<=8)by omega),qu]
theorem CI(r:Rl)(s:BitVec 64)(o x:Int)(hn:1<=r.n/\r.n<=8)(w:World):Calls Tryz.prog 216 #[.agg (dP r),U s,I o,I x] w (Pure (B (F6 r s o x)) w):=by
 refine eH func216 rfl rfl fun hH=>SR<|gV hH (v:= .agg _) rfl<|fun b3 w1 aZ=>va (v:=B false) rfl<|aa<|SR<|mI rfl<|V (dD O O)<|mB rfl<|bM 11 O (fun h5=> ?_) (fun h5=> ?_)
 .refine mI rfl<|V (dD O O)<|mB rfl<|mB rfl<|bM 15 O (fun h7=> ?_) (fun h7=> ?_)
  .refine mI rfl<|V (fA bL 0 O a8 O)<|lV bf aZ 0 O O (fy _)<|V (aM O O)<|mB rfl<|mB rfl<|bM 21 O (fun h9=> ?_) (fun h9=> ?_)
   .refine mI rfl<|V (fA bL 0 O a8 O)<|lV bf aZ 0 O O (fy _)<|V (aM O O)<|mB rfl<|mB rfl<|bM 27 O (fun h11=> ?_) (fun h11=> ?_)
    .refine mU rfl<|mI rfl<|V (ww O O J)<|mI rfl<|V (ax O O J)<|aG O aZ (s6 _ _ _) (aN call102 O O)<|fun Bv cm=>mB rfl<|aB rfl<|aa<|ai<|oB O ?_ cm
     rw[F6,gQ J,l8]
    refine aE (v:=B false) rfl<|aB rfl<|aa<|ai<|oB O ?_ aZ
    rw[F6,gO J,qu]
   refine aE (v:=B false) rfl<|mB rfl<|bZ O rfl<|aE (v:=B false) rfl<|aB rfl<|aa<|ai<|oB O ?_ aZ
   rw[F6,gO J,qu]
  refine aE (v:=B false) rfl<|mB rfl<|bZ O rfl<|aE (v:=B false) rfl<|mB rfl<|bZ O rfl<|aE (v:=B false) rfl<|aB rfl<|aa<|ai<|oB O ?_ aZ
  rw[F6,gO J,qu]
 refine aE (v:=B false) rfl<|mB rfl<|bZ O rfl<|aE (v:=B false) rfl<|mB rfl<|bZ O rfl<|aE (v:=B false) rfl<|mB rfl<|bZ O rfl<|aE (v:=B false) rfl<|aB rfl<|aa<|ai<|oB O ?_ aZ
 rw[F6,gO J,qu]
theorem xH(r:Rl)(s:BitVec 64)(o x:Int)(hn:1<=r.n/\r.n<=8)(w:World):Calls Tryz.prog 186 #[.agg (dP r),U s,I o,I x] w (Pure (B (RZ r s o x)) w):=by
 refine eH func186 rfl rfl fun hH=>SR<|gV hH (v:= .agg _) rfl<|fun b3 w1 aZ=>va (v:=B false) rfl<|aa<|ag<|SR<|va (v:=I 0) rfl<|aa<|ay<|bk (G:=Int) (fun p s' w'=>(Fr (rg 8 32 []) _ s')/\(Hp w w' _)/\(s' 9=I p)/\(0<=p)/\(p<=r.n)/\(∀q y:Int,0<=q->q<p->¬(F6 r s q y=true/\bH r o q=true/\bH r x y=true))) (fun p=>(r.n-p).toNat) (0) ⟨Fr.refl _ _,aZ,rfl,J,J,fun q y a b=>absurd b J⟩<| ?_
 rintro p sg4 w4 ⟨ux,gy,aek,p0,p1,hf⟩
 obtain⟨sv,J9,oc,uy⟩:=ux.w4 1 2 3 4
 refine ag<|SR<|aE aek<|V (fA bL 0 O a8 uy)<|lV bf gy 0 O O (fy _)<|V (aM O O)<|aa<|aD O (fun h6=> ?_) (fun h6=> ?_)
 .refine ak<|ag<|ay<|SR<|va (v:=I 0) rfl<|aa<|ay<|bk (G:=Int) (fun y s' w'=>(Fr (8::(10::(rg 17 23 []))) _ s')/\(Hp w w' _)/\(s' 10=I y)/\(0<=y)/\(y<=r.n)/\(∀z:Int,0<=z->z<y->¬(F6 r s p z=true/\bH r o p=true/\bH r x z=true))) (fun y=>(r.n-y).toNat) (0) ⟨Fr.refl _ _,gy,rfl,J,J,fun z a b=>absurd b J⟩<| ?_
  rintro y sg7 w7 ⟨FL,eN,Qy,y0,y1,hg⟩
  obtain⟨ael,ate,aem,IV,OS⟩:=FL.t5 1 sv 2 J9 3 oc 4 uy 9 aek
  refine ag<|SR<|aE Qy<|V (fA bL 0 O a8 IV)<|lV bf eN 0 O O (fy _)<|V (aM O O)<|aa<|aD O (fun h9=> ?_) (fun h9=> ?_)
  .refine ak<|ag<|ay<|SR<|V (aQ bL O O IV (eN.blk (i:=0) O))<|aE ael<|aE OS<|aE Qy<|aG O eN (CI _ _ _ _ nU _) (jm call216 O O O O)<|fun GJ dJ=>mB rfl<|fO 28 O (fun OK=> ?_) (fun OK=> ?_)
   .refine V (aQ bL O O IV (dJ.blk (i:=0) O))<|aE ate<|aE OS<|aG O dJ (bA _ _ _ _) (bB iX O O O)<|fun Np fp=>mB rfl<|mB rfl<|fO 34 O (fun J6=> ?_) (fun J6=> ?_)
    .refine V (aQ bL O O IV (fp.blk (i:=0) O))<|aE aem<|aE Qy<|aG O fp (bA _ _ _ _) (bB iX O O O)<|fun Ou gW=>mB rfl<|aa<|bW O (fun NA=> ?_) (fun NA=> ?_)
     .refine SR<|va (v:=B true) rfl<|aa<|ai<|oB O ?_ gW
      exact(KA.2 ⟨p,y,aK,aK,aK⟩).symm
     refine ak<|aq<|aE Qy<|V (ax O O J)<|aI rfl<|aa<| ?_
     refine⟨y+1,aT,FL.u4.u4.u4.u4.u4.u4,gW,(aJ I aO),J,J,?_⟩
     exact fun z a b h=>if e:z=y then(by subst e;simp_all)else hg z a J h
    refine aE (v:=B false) rfl<|aa<|cL rfl<|ak<|aq<|aE Qy<|V (ax O O J)<|aI rfl<|aa<| ?_
    refine⟨y+1,aT,FL.u4.u4.u4.u4.u4.u4,fp,(aJ I aO),J,J,?_⟩
    exact fun z a b h=>if e:z=y then(by subst e;simp_all)else hg z a J h
   refine aE (v:=B false) rfl<|mB rfl<|bZ O rfl<|aE (v:=B false) rfl<|aa<|cL rfl<|ak<|aq<|aE Qy<|V (ax O O J)<|aI rfl<|aa<| ?_
   refine⟨y+1,aT,FL.u4.u4.u4.u4.u4.u4,dJ,(aJ I aO),J,J,?_⟩
   exact fun z a b h=>if e:z=y then(by subst e;simp_all)else hg z a J h
  refine aY (id:=2) rfl<|aq<|aE OS<|V (ax O O J)<|aI rfl<|aa<| ?_
  refine⟨p+1,aT,(((ux.u4.u1).t FL O)).u4.u1.u1.u1,eN,(aJ I aO),J,J,?_⟩
  exact fun q y a b h=>if e:q=p then hg y (Dk.1 h.1).1.2.1 (by have:=(Dk.1 h.1).1;omega) (e▸h)else hf q y a J h
 refine aY (id:=0) rfl<|SR<|va (v:=B false) rfl<|aa<|ai<|oB O ?_ gy
 exact(ago aK hf).symm
theorem Ab(r:Rl)(s:BitVec 64)(w:World):Calls Tryz.prog 153 #[.agg (dP r),U s] w (Pure (U (fP r s)) w):=by
 refine eH func153 rfl rfl fun hH=>SR<|gV hH (v:= .agg _) rfl<|fun b3 w1 aZ=>va (v:=U 0#64) rfl<|aa<|SR<|va (v:= .slice none 0 0) rfl<|have gy:=aZ.fx 3 1;aa<|ag<|SR<|V (aQ bL O O O (gy.blk (i:=1) O))<|aG O gy (mq _ _) (an call146 O)<|fun w5 iT=>V (bO O)<|aa<|bW O (fun h9=> ?_) (fun h9=> ?_)
 .refine SR<|va (v:=U 0#64) rfl<|aa<|ai<|oU O ?_ iT
  exact(Ul (nt aK)).symm
 refine ak<|ag<|SR<|va (v:=I 0) rfl<|aa<|ay<|have hr:de r=true:=nf aK;have hs:=gm hr;bk (G:=Int×(List Int)×Value) (fun⟨o,l,v5⟩ s' w'=>(Fr (rg 5 3 (rg 11 24 [])) _ s')/\(Hp w w' (.row v5 3 1 (l.length) (l.map I)::_))/\(s' 5=v5)/\(s' 6=I o)/\(0<=o)/\(o<=r.n)/\(l=B8 r s o)) (fun⟨o,l,v5⟩=>(r.n-o).toNat) ((0,[],(.slice none 0 0:Value))) ⟨Fr.refl _ _,iT,rfl,rfl,J,J,rfl⟩<| ?_
 rintro⟨o,l,v5⟩ ZQ GJ ⟨sw,bV,NK,GU,o0,o1,hl⟩
 obtain⟨ajB,GV,Qz⟩:=sw.w3 1 2 4
 refine ag<|SR<|aE GU<|V (fA bL 0 O a8 GV)<|lV bf bV 1 O O (fy _)<|V (aM O O)<|aa<|aD O (fun h12=> ?_) (fun h12=> ?_)
 .refine ak<|ag<|ay<|SR<|va (v:=I 0) rfl<|aa<|ay<|bk (G:=Int×(List Int)×Value) (fun⟨x,l2,v5⟩ s' w'=>(Fr (5::(7::(rg 17 18 []))) _ s')/\(Hp w w' (.row v5 3 1 (l2.length) (l2.map I)::_))/\(s' 5=v5)/\(s' 7=I x)/\(0<=x)/\(x<=r.n)/\(l2=B8 r s o++E2 r s o x)) (fun⟨x,l2,v5⟩=>(r.n-x).toNat) ((0,l,(v5:Value))) ⟨Fr.refl _ _,bV,NK,rfl,J,J,(by rw[hl,E2];simp[upto])⟩<| ?_
  rintro⟨x,l2,v5⟩ aeh Bw ⟨tH,cm,NL,V8,x0,x1,h2⟩
  obtain⟨GN,apR,QA⟩:=tH.t3 1 ajB 2 GV 6 GU
  refine ag<|SR<|aE V8<|V (fA bL 0 O a8 apR)<|lV bf cm 1 O O (fy _)<|V (aM O O)<|aa<|aD O (fun J4=> ?_) (fun J4=> ?_)
  .refine ak<|ag<|ay<|SR<|V (aQ bL O O apR (cm.blk (i:=1) O))<|aE GN<|aE QA<|aE V8<|aG O cm (xH _ _ _ _ J _) (jm call186 O O O O)<|fun J5 dS=>aa<|bW O (fun J1=> ?_) (fun J1=> ?_)
   .refine aq<|aE NL<|aE QA<|V (ww O O J)<|aE V8<|V (ax O O J)<|xP 1 1 dS (cA bz O O (sz:=1) (vs:=[I _]) O O az az O O)<|fun b22 w20 fB=> ?_
    (try simp only[o4]at fB)
    refine jI O fB (i:=1) O (fB.dV (i:=0) (n:=1) (sz:=1) O O az) O O bz O O (size:=1) (bytes:=8) O O O az iF (by rw[h2];have:= @L5 r s o hs.1.2 J;have:= @L4 r s o x;simp;omega) (by rw[h2];have:= @L5 r s o hs.1.2 J;have:= @L4 r s o x;simp only[maxLen];simp;omega)<|fun v23 w24 og=> ?_
    refine V (run_assign bC) ?_
    refine aa<|aq<|aE V8<|V (ax O O J)<|aI rfl<|aa<| ?_
    refine⟨(x+1,l2++[8*o+x],v23),aT,tH.u4.u4.u4.u4.u4,(Hp.conv (og.sub (sQ sR)) aF),rfl,(aJ I aO),J,J,?_⟩
    (rw[h2];(rw[dG,agp x0 aK]))
   refine ak<|aq<|aE V8<|V (ax O O J)<|aI rfl<|aa<| ?_
   refine⟨(x+1,l2,v5),aT,tH.u4.u4.u4,(Hp.conv dS aO),NL,(aJ I aO),J,J,?_⟩
   (rw[h2];(rw[al3 x0 aK]))
  refine aY (id:=2) rfl<|aq<|aE QA<|V (ax O O J)<|aI rfl<|aa<| ?_
  refine⟨(o+1,l2,v5),aT,(((sw.u4.u1).t tH O)).u4.u1.u1.u1,(Hp.conv cm aO),NL,(aJ I aO),J,J,?_⟩
  (rw[h2];exact Um o0 J)
 refine aY (id:=0) rfl<|SR<|aE NK<|aG O bV (iC _ _ _ (bV.sl (i:=0) O)) (an HH O)<|fun V6 dK=>aU rfl<|aa<|ai<|oU O ?_ dK
 (rw[hl];exact ada hr J)
theorem qf(r:Rl)(w:World):Calls Tryz.prog 108 #[.agg (dP r)] w (Pure (I (kN r)) w):=by
 refine eH func108 rfl rfl fun hH=>SR<|gV hH (v:= .agg _) rfl<|fun b3 w1 aZ=>va (v:=I 0) rfl<|aa<|ag<|SR<|V (aQ bL O O O (aZ.blk (i:=0) O))<|aG O aZ (mq _ _) (an call146 O)<|fun w4 bP=>V (bO O)<|aa<|bW O (fun h8=> ?_) (fun h8=> ?_)
 .refine SR<|va (v:=I 0) rfl<|aa<|ai<|oI O ?_ bP
  first|exact(Pj (nt aK)).symm|exact zq (nf aK)
 refine ak<|ag<|ed aP bP<|fun w9 bV=>AT 0 O bV (fun w hS=>aQ bL O O O (hS.blk (i:=0) O))<|AT 2 O bV (fun w hS=>aQ bL O O O (hS.blk (i:=0) O))<|A1 1<|bX O aH O bV sR (pw _ _) (an call147 O)<|fun FK cJ=>A1 3<|bX O aH O cJ sR (pw _ _) (an call147 O)<|fun Bw cg=>AQ 4 O cg (ww O O (by exact aq5 (nf aK)))<|AQ 5 O cg (aV (I _) O)<|AD<|ai<|oI O ?_ cg
 first|exact(Pj (nt aK)).symm|exact zq (nf aK)
theorem Ej(c:Int)(w:World):Calls Tryz.prog 197 #[.int .u8 c] w (Pure (B (ji c)) w):=by
 refine eH func197 rfl rfl fun hH=>SR<|va (v:=B false) rfl<|aa<|SR<|aE (v:= .int _ _) rfl<|V (dD O O)<|mB rfl<|bM 5 O (fun h2=> ?_) (fun h2=> ?_)
 .refine aE (v:= .int _ _) rfl<|V (uk O O)<|mB rfl<|aB rfl<|aa<|ai<|oB O ?_ hH
  (rw[ji,gP];simp only[eo,tR,yV];omega)
 refine aE (v:=B false) rfl<|aB rfl<|aa<|ai<|oB O ?_ hH
 (rw[ji,gP];simp only[eo,tR,yV];omega)
theorem qg(c:Int)(w:World):Calls Tryz.prog 113 #[.int .u8 c] w (Pure (B (ji c)) w):=by
 refine eH func113 rfl rfl fun hH=>SR<|va (v:=B false) rfl<|aa<|SR<|aE (v:= .int _ _) rfl<|V (dD O O)<|mB rfl<|bM 5 O (fun h2=> ?_) (fun h2=> ?_)
 .refine aE (v:= .int _ _) rfl<|V (uk O O)<|mB rfl<|aB rfl<|aa<|ai<|oB O ?_ hH
  (rw[ji,gP];simp only[eo,tR,yV];omega)
 refine aE (v:=B false) rfl<|aB rfl<|aa<|ai<|oB O ?_ hH
 (rw[ji,gP];simp only[eo,tR,yV];omega)
theorem V9(c:Int)(w:World):Calls Tryz.prog 198 #[.int .u8 c] w (Pure (B (tT c)) w):=by
 refine eH func198 rfl rfl fun hH=>SR<|va (v:=B false) rfl<|aa<|SR<|aE (v:= .int _ _) rfl<|aG O hH (Ej _ _) (an call197 O)<|fun w1 aZ=>mB rfl<|fO 5 O (fun h4=> ?_) (fun h4=> ?_)
 .refine eV O O rfl<|eV O O rfl<|uQ<|aE (v:=B true) rfl<|mB rfl<|bZ O rfl<|aE (v:=B true) rfl<|aB rfl<|aa<|ai<|oB O ?_ aZ
  exact(B9 aK).symm
 refine aE (v:= .int _ _) rfl<|V (dD O O)<|mB rfl<|bM 8 O (fun h6=> ?_) (fun h6=> ?_)
 .refine aE (v:= .int _ _) rfl<|V (uk O O)<|mB rfl<|mB rfl<|mB rfl<|bM 13 O (fun h8=> ?_) (fun h8=> ?_)
  .refine aE (v:=B true) rfl<|aB rfl<|aa<|ai<|oB O ?_ aZ
   (have hlc:=‹ji c=false›;rw[ji,wv]at hlc;rw[tT,gP];simp only[eo,tR,yV,true_iff];omega)
  refine aE (v:= .int _ _) rfl<|V (bN O O)<|mB rfl<|aB rfl<|aa<|ai<|oB O ?_ aZ
  (have hlc:=‹ji c=false›;rw[ji,wv]at hlc;rw[tT,gP];simp only[eo,tR,yV,true_iff];omega)
 refine aE (v:=B false) rfl<|mB rfl<|mB rfl<|bZ O rfl<|aE (v:= .int _ _) rfl<|V (bN O O)<|mB rfl<|aB rfl<|aa<|ai<|oB O ?_ aZ
 (have hlc:=‹ji c=false›;rw[ji,wv]at hlc;rw[tT,gP];simp only[eo,tR,yV,true_iff];omega)
theorem S3(s:Tx)(w:World):Calls Tryz.prog 164 #[S s] w (Pure (B (iG s)) w):=by
 have htx:= @aq8 s
 refine eH func164 rfl rfl fun hH=>SR<|va (v:=B false) rfl<|aa<|ag<|SR<|aE (v:= .string _) rfl<|V (Ma O O)<|mB rfl<|bM 6 O (fun h2=> ?_) (fun h2=> ?_)
 .refine aE (v:=B true) rfl<|mB rfl<|bZ O rfl<|aE (v:=B true) rfl<|aa<|cC rfl<|SR<|va (v:=B false) rfl<|aa<|ai<|oB O ?_ hH
  exact(Dl (by have:=htx.1 ‹s=pM›;omega)).symm
 refine aE (v:= .string _) rfl<|V (kV O ic O)<|V (cD O O)<|mB rfl<|mB rfl<|bM 11 O (fun h4=> ?_) (fun h4=> ?_)
 .refine aE (v:=B true) rfl<|aa<|cC rfl<|SR<|va (v:=B false) rfl<|aa<|ai<|oB O ?_ hH
  exact(Dl J).symm
 refine aE (v:= .string _) rfl<|V (sN ic O O (by have:=mt htx.2 ‹¬s=pM›;omega))<|aG O hH (Ej _ _) (an call197 O)<|fun w5 iT=>V (bO O)<|mB rfl<|aa<|bW O (fun h9=> ?_) (fun h9=> ?_)
 .refine SR<|va (v:=B false) rfl<|aa<|ai<|oB O ?_ iT
  exact(Pk (nt aK)).symm
 refine ak<|ag<|SR<|aE (v:= .string _) rfl<|V (kV O ic O)<|aE (v:=I 0) rfl<|aa<|ay<|have hsz:1<=s.size/\s.size<=16:=⟨by have:=mt htx.2 ‹¬s=pM›;omega,J⟩;bk (G:=Int) (fun k s' w'=>(Fr (2::3::(rg 19 9 [])) _ s')/\(Hp w w' _)/\(s' 19=I k)/\(0<=k)/\(k<=s.size)/\(∀j:Int,0<=j->j<k->tT (rN s j)=true)) (fun k=>(s.size-k).toNat) (0) ⟨Fr.refl _ _,iT,rfl,J,J,fun j a b=>absurd b J⟩<| ?_
 rintro k ZQ GJ ⟨sw,bV,ZR,h0,hk,hf⟩
 obtain⟨Ek,atf⟩:=sw.w2 0 18
 refine SR<|V (aM ZR atf)<|aa<|ag<|aD O (fun h12=> ?_) (fun h12=> ?_)
 .refine ak<|ag<|ay<|SR<|aE ZR<|aI rfl<|aa<|SR<|aE Ek<|mI rfl<|V (sN ic O O J)<|aG O bV (V9 _ _) (an call198 O)<|fun Bw cg=>V (bO O)<|aa<|bW O (fun J6=> ?_) (fun J6=> ?_)
  .refine SR<|va (v:=B false) rfl<|aa<|ai<|oB O ?_ cg
   exact(Ik h0 aK (nt aK)).symm
  refine ak<|aq<|V (ax ZR O J)<|mI rfl<|aa<| ?_
  refine⟨k+1,aT,sw.u4.u4.u1.u1,cg,(aJ I aO),J,J,?_⟩
  exact fun j a b=>if e:j=k then e▸nf ‹_›else hf j a J
 refine aY (id:=0) rfl<|SR<|va (v:=B true) rfl<|aa<|ai<|oB O ?_ bV
 exact(Pm hsz (nf aK) aK hf).symm
theorem iz(s:Tx)(w:World):Calls Tryz.prog 74 #[S s] w (Pure (B (iG s)) w):=by
 refine eH func74 rfl rfl fun hH=>SR<|va (v:=B false) rfl<|aa<|ag<|SR<|aE (v:= .string _) rfl<|V (kV O ic O)<|V (aM O O)<|mB rfl<|bM 7 O (fun h2=> ?_) (fun h2=> ?_)
 .refine aE (v:=B true) rfl<|mB rfl<|bZ O rfl<|aE (v:=B true) rfl<|aa<|cC rfl<|SR<|va (v:=B false) rfl<|aa<|ai<|oB O ?_ hH
  exact(Dl J).symm
 refine aE (v:= .string _) rfl<|V (kV O ic O)<|V (cD O O)<|mB rfl<|mB rfl<|bM 12 O (fun h4=> ?_) (fun h4=> ?_)
 .refine aE (v:=B true) rfl<|aa<|cC rfl<|SR<|va (v:=B false) rfl<|aa<|ai<|oB O ?_ hH
  exact(Dl J).symm
 refine aE (v:= .string _) rfl<|V (sN ic O O J)<|aG O hH (qg _ _) (an call113 O)<|fun w5 iT=>V (bO O)<|mB rfl<|aa<|bW O (fun h9=> ?_) (fun h9=> ?_)
 .refine SR<|va (v:=B false) rfl<|aa<|ai<|oB O ?_ iT
  exact(Pk (nt aK)).symm
 refine ak<|ag<|SR<|va (v:=I 1) rfl<|aa<|ay<|have hsz:1<=s.size/\s.size<=16:=J;have hlt:ji (rN s 0)=true:=nf aK;bk (G:=Int) (fun k s' w'=>(Fr (2::3::(rg 18 29 [])) _ s')/\(Hp w w' _)/\(s' 3=I k)/\(1<=k)/\(k<=s.size)/\(∀j:Int,0<=j->j<k->tT (rN s j)=true)) (fun k=>(s.size-k).toNat) (1) ⟨Fr.refl _ _,iT,rfl,J,J,fun j a b=>by rw[show j=0 by omega];exact B9 hlt⟩<| ?_
 rintro k ZQ GJ ⟨sw,bV,py,h0,hk,hf⟩
 have Ek:=sw.w1 0
 refine ag<|SR<|aE py<|aE Ek<|V (kV O ic O)<|V (aM O O)<|aa<|aD O (fun h12=> ?_) (fun h12=> ?_)
 .refine ak<|ag<|ay<|SR<|aE Ek<|aE py<|V (sN ic O O J)<|aG O bV (qg _ _) (an call113 O)<|fun Bw cg=>V (bO O)<|mB rfl<|fO 29 O (fun J6=> ?_) (fun J6=> ?_)
  .refine aE Ek<|aE py<|V (sN ic O O J)<|V (aM O O)<|mB rfl<|bM 34 O (fun J1=> ?_) (fun J1=> ?_)
   .refine aE (v:=B true) rfl<|mB rfl<|mB rfl<|bZ O rfl<|aE Ek<|aE py<|V (sN ic O O J)<|V (ke O O)<|mB rfl<|aa<|aD O (fun NA=> ?_) (fun NA=> ?_)
    .refine SR<|va (v:=B false) rfl<|aa<|ai<|oB O ?_ cg
     exact(Ik (i:=k) J aK afc).symm
    refine ak<|aq<|aE py<|V (ax O O J)<|aI rfl<|aa<| ?_
    refine⟨k+1,aT,sw.u4.u4.u4.u4.u4.u4.u4.u1.u1,cg,(aJ I aO),J,J,?_⟩
    exact fun j a b=>if e:j=k then e▸(by rw[tT,eo];omega)else hf j a J
   refine aE Ek<|aE py<|V (sN ic O O J)<|V (cD O O)<|mB rfl<|mB rfl<|mB rfl<|bM 41 O (fun DN=> ?_) (fun DN=> ?_)
   .refine aE Ek<|aE py<|V (sN ic O O J)<|V (ke O O)<|mB rfl<|aa<|aD O (fun GK=> ?_) (fun GK=> ?_)
    .refine SR<|va (v:=B false) rfl<|aa<|ai<|oB O ?_ cg
     exact(Ik (i:=k) J aK afc).symm
    refine ak<|aq<|aE py<|V (ax O O J)<|aI rfl<|aa<| ?_
    refine⟨k+1,aT,sw.u4.u4.u4.u4.u4.u4.u4.u1.u1,cg,(aJ I aO),J,J,?_⟩
    exact fun j a b=>if e:j=k then e▸(by rw[tT,eo];omega)else hf j a J
   refine aE (v:=B false) rfl<|aa<|cL rfl<|ak<|aq<|aE py<|V (ax O O J)<|aI rfl<|aa<| ?_
   refine⟨k+1,aT,sw.u4.u4.u4.u4.u4.u4.u4.u1.u1,cg,(aJ I aO),J,J,?_⟩
   exact fun j a b=>if e:j=k then e▸(by rw[tT,eo];omega)else hf j a J
  refine eV O O rfl<|eV O O rfl<|eV O O rfl<|eV O O rfl<|uQ<|aE (v:=B false) rfl<|mB rfl<|bZ O rfl<|aE (v:=B false) rfl<|aa<|cL rfl<|ak<|aq<|aE py<|V (ax O O J)<|aI rfl<|aa<| ?_
  refine⟨k+1,aT,sw.u4.u4.u4.u4.u4.u4.u4.u1.u1,cg,(aJ I aO),J,J,?_⟩
  exact fun j a b=>if e:j=k then e▸(by exact B9 (nf aK))else hf j a J
 refine aY (id:=0) rfl<|SR<|va (v:=B true) rfl<|aa<|ai<|oB O ?_ bV
 exact(Pm hsz hlt aK hf).symm
theorem GX(n:Int)(f:FuncId)(cs:List Value)(P:Int->Bool)(hn:0<=n/\n<=9223372036854775807)(w:World)(hf:∀args w,(callFunc f args).run Tryz.prog w= .ok (.enter f args) w)(go:∀i w',Below w.heap.size w w'->0<=i->i<n->Calls Tryz.prog f (I i::cs).toArray w' (Pure (B (P i)) w')):Calls Tryz.prog 194 #[I 0,I n,.func (.func f) #[] cs.toArray] w (Pure (I (sM P n)) w):=by
 refine eH func194 rfl rfl fun hH=>SR<|va (v:=I 0) rfl<|aa<|ag<|SR<|mI rfl<|aI rfl<|aa<|ay<|bk (G:=Int) (fun k s' w'=>(Fr (6::7::(rg 9 9 [])) _ s')/\(Hp w w' _)/\(s' 7=I k)/\(0<=k)/\(k<=n)/\(∀j:Int,0<=j->j<k->P j=false)) (fun k=>(n-k).toNat) (0) ⟨Fr.refl _ _,hH,rfl,J,J,fun j a b=>absurd b J⟩<| ?_
 rintro k sg1 w1 ⟨ug,iI,VQ,h0,hk,hg⟩
 have zT:=ug.w1 1
 have ajp:=ug.vv 2 (a:= .func _ _ _) rfl rfl
 refine ag<|SR<|aE VQ<|aE zT<|V (aM O O)<|aa<|aD O (fun h3=> ?_) (fun h3=> ?_)
 .refine ak<|ag<|ay<|SR<|aE ajp<|aE VQ<|aG O iI (go _ _ iI.below J J) (l9 hf (cs:=cs) O O)<|fun w4 bP=>aa<|bW O (fun h7=> ?_) (fun h7=> ?_)
  .refine SR<|aE VQ<|aI rfl<|aa<|ai<|oI O ?_ bP
   exact(uX h0 aK aK hg).symm
  refine ak<|aq<|aE VQ<|V (ax O O J)<|aI rfl<|aa<| ?_
  refine⟨k+1,aT,ug.u4.u4.u1,bP,(aJ I aO),J,J,?_⟩
  exact fun j a b=>if e:j=k then e▸‹P k=false›else hg j a J
 refine aY (id:=0) rfl<|SR<|va (v:=I (-1)) rfl<|aa<|ai<|oI O ?_ iI
 exact(F7 fun j a b=>hg j a J).symm
theorem OT(b c:Nat)(v:Value)(l:List Tx)(s:Tx)(i:Int)(hi:0<=i/\i<l.length)(w:World)(hs:Sl w v 1 l.length (Jn l))(hb:w.heap[b]?=some (.cells #[v] 83 (0,0)))(hc:w.heap[c]?=some (.cells #[S s] 9 (0,0))):Calls Tryz.prog 230 #[I i,.pointer (some ⟨b,0,none⟩),.pointer (some ⟨c,0,none⟩)] w (Pure (B (decide (l.getD i.toNat pM=s))) w):=by
 have hm:=hs.small
 unfold maxLen at hm
 refine eH func230 rfl rfl fun hH=>SR<|va (v:=B false) rfl<|aa<|ag<|ed aP hH<|fun w1 aZ=>have kH:=aZ;AT 0 O kH (fun w hS=>aC dO O O (hS.eE hb O))<|AQ 1 O kH (mV (I _) O)<|AT 2 O kH (fun w hS=>ah (hs.hp hS) dO jX O O J)<|AT 3 O kH (fun w hS=>aC ic O O ((hs.hp hS).cell _ _ (Ca J)))<|AT 4 O kH (fun w hS=>aC ic O O (hS.eE hc (v:= .string _) O))<|AQ 5 O kH (Ma O O)<|AQ 6 O kH (aV (B _) O)<|AD<|ai<|oB O ?_ aZ
 rfl
theorem Wa(v:Value)(l:List Tx)(s:Tx)(w:World)(hs:Sl w v 1 l.length (Jn l)):Calls Tryz.prog 196 #[v,S s] w (Pure (I (qG l s)) w):=by
 have hm:=hs.small
 unfold maxLen at hm
 refine eH func196 rfl rfl fun hH=>SR<| ?_
 refine nu hH (Kj bC) ?_
 intro b3 w1 aZ
 rw[(gY hs).2]at aZ
 refine gV aZ (v:= .string _) rfl<|fun b6 w4 bP=>va (v:=I 0) rfl<|aa<|SR<|lV dO bP 1 O O rfl<|V (aA (hs.hp bP) O dO O)<| ?_
 refine V (nV bC bC) ?_
 refine aG O bP (GX _ 230 [.pointer (some ⟨b3,0,none⟩),.pointer (some ⟨b6,0,none⟩)] (fun i=>decide (l.getD i.toNat pM=s)) J _ call230 (fun i w h h0 h1=>OT b3 b6 v l s i ⟨h0,h1⟩ w ((hs.hp bP).below h) (keep h (bP.blk (i:=1) O)) (keep h (bP.blk (i:=0) O)))) (bB call194 (show _=I 0 from O) O O)<|fun w7 eU=>aI rfl<|aa<|ai<|oI O ?_ eU
 rfl
theorem NM(b:Nat)(v:Value)(l:List Tx)(i:Int)(hi:0<=i/\i<l.length)(w:World)(hs:Sl w v 1 l.length (Jn l))(hb:w.heap[b]?=some (.cells #[v] 83 (0,0))):Calls Tryz.prog 195 #[I i,.pointer (some ⟨b,0,none⟩)] w (Pure (B (decide (qG l (l.getD i.toNat pM)<i))) w):=by
 have hm:=hs.small
 unfold maxLen at hm
 refine eH func195 rfl rfl fun hH=>SR<|va (v:=B false) rfl<|aa<|ag<|ed aP hH<|fun w1 aZ=>have kH:=aZ;AT 0 O kH (fun w hS=>aC dO O O (hS.eE hb O))<|AQ 1 O kH (mV (I _) O)<|AT 3 O kH (fun w hS=>aC dO O O (hS.eE hb O))<|AQ 4 O kH (mV (I _) O)<|AT 5 O kH (fun w hS=>ah (hs.hp hS) dO jX O O J)<|AT 6 O kH (fun w hS=>aC ic O O ((hs.hp hS).cell _ _ (Ca J)))<|A1 2<|cr O aH O aZ sR (wx (hs.hp aZ) dO jX O O J)<|A1 7<|bX O aH O aZ sR (Wa _ _ _ _ ((hs.hp aZ).aDe J)) (aN call196 O O)<|fun w5 iT=>AQ 8 O iT (dD O O)<|AQ 9 O iT (aV (B _) O)<|AD<|ai<|oB O ?_ iT
 exact agu hi.1 hi.2
theorem S4(v:Value)(l:List Tx)(w:World)(hs:Sl w v 1 l.length (Jn l)):Calls Tryz.prog 163 #[v] w (Pure (I (x7 l)) w):=by
 have hm:=hs.small
 unfold maxLen at hm
 refine eH func163 rfl rfl fun hH=>SR<| ?_
 refine nu hH (Kj bC) ?_
 intro b3 w1 aZ
 rw[(gY hs).2]at aZ
 refine va (v:=I 0) rfl<|aa<|SR<|lV dO aZ 0 O O rfl<|V (aA (hs.hp aZ) O dO O)<| ?_
 refine V (xV bC) ?_
 refine aG O aZ (GX _ 195 [.pointer (some ⟨b3,0,none⟩)] (fun i=>decide (qG l (l.getD i.toNat pM)<i)) J _ call195 (fun i w h h0 h1=>NM b3 v l i ⟨h0,h1⟩ w ((hs.hp aZ).below h) (keep h (aZ.blk (i:=0) O)))) (bB call194 (show _=I 0 from O) O O)<|fun w4 bP=>aI rfl<|aa<|ai<|oI O ?_ bP
 rfl
theorem Bi(v:Value)(l:List Tx)(s:Tx)(w:World)(hs:Sl w v 1 l.length (Jn l)):Calls Tryz.prog 114 #[v,S s] w (Pure (I (qG l s)) w):=by
 have hm:=hs.small
 unfold maxLen at hm
 refine eH func114 rfl rfl fun hH=>SR<|va (v:=I 0) rfl<|aa<|ag<|SR<|va (v:=I 0) rfl<|aa<|ay<|bk (G:=Int) (fun k s' w'=>(Fr (rg 4 15 []) _ s')/\(Hp w w' _)/\(s' 5=I k)/\(0<=k)/\(k<=l.length)/\(∀j:Int,0<=j->j<k->decide (l.getD j.toNat pM=s)=false)) (fun k=>(l.length-k).toNat) (0) ⟨Fr.refl _ _,hH,rfl,J,J,fun j a b=>absurd b J⟩<| ?_
 rintro k sg1 w1 ⟨ug,iI,No,h0,hk,hg⟩
 obtain⟨lX,zT⟩:=ug.w2 0 1
 refine ag<|SR<|aE No<|aE lX<|V (aA (hs.hp iI) O dO O)<|V (aM O O)<|aa<|aD O (fun h3=> ?_) (fun h3=> ?_)
 .refine ak<|ag<|ay<|SR<|aE lX<|aE No<|V (ah (hs.hp iI) dO jX O O J)<|V (aC ic O O ((hs.hp iI).cell _ _ (Ca J)))<|aE zT<|V (Ma O O)<|aa<|aD O (fun h5=> ?_) (fun h5=> ?_)
  .refine SR<|aE No<|aI rfl<|aa<|ai<|oI O ?_ iI
   exact(uX h0 aK (gQ aK) hg).symm
  refine ak<|aq<|aE No<|V (ax O O J)<|aI rfl<|aa<| ?_
  refine⟨k+1,aT,ug.u4.u4.u4.u1,iI,(aJ I aO),J,J,?_⟩
  exact fun j a b=>if e:j=k then e▸gO ‹_›else hg j a J
 refine aY (id:=0) rfl<|SR<|va (v:=I (-1)) rfl<|aa<|ai<|oI O ?_ iI
 exact(F7 fun j a b=>hg j a J).symm
theorem jP(v:Value)(l:List Tx)(w:World)(hs:Sl w v 1 l.length (Jn l)):Calls Tryz.prog 75 #[v] w (Pure (I (x7 l)) w):=by
 have hm:=hs.small
 unfold maxLen at hm
 refine eH func75 rfl rfl fun hH=>SR<|va (v:=I 0) rfl<|aa<|ag<|SR<|va (v:=I 0) rfl<|aa<|ay<|bk (G:=Int) (fun k s' w'=>(Fr (rg 2 17 []) _ s')/\(Hp w w' _)/\(s' 3=I k)/\(0<=k)/\(k<=l.length)/\(∀j:Int,0<=j->j<k->decide (qG l (l.getD j.toNat pM)<j)=false)) (fun k=>(l.length-k).toNat) (0) ⟨Fr.refl _ _,hH,rfl,J,J,fun j a b=>absurd b J⟩<| ?_
 rintro k sg1 w1 ⟨ug,iI,sr,h0,hk,hg⟩
 have lX:=ug.w1 0
 refine ag<|SR<|aE sr<|aE lX<|V (aA (hs.hp iI) O dO O)<|V (aM O O)<|aa<|aD O (fun h3=> ?_) (fun h3=> ?_)
 .refine ak<|ag<|ay<|SR<|aE lX<|aE lX<|aE sr<|V (ah (hs.hp iI) dO jX O O J)<|V (aC ic O O ((hs.hp iI).cell _ _ (Ca J)))<|aG O iI (Bi _ _ _ _ (hs.hp iI)) (aN call114 O O)<|fun w4 bP=>aE sr<|V (aM O O)<|aa<|aD O (fun h7=> ?_) (fun h7=> ?_)
  .refine SR<|aE sr<|aI rfl<|aa<|ai<|oI O ?_ bP
   exact(uX h0 aK (gQ aK) hg).symm
  refine ak<|aq<|aE sr<|V (ax O O J)<|aI rfl<|aa<| ?_
  refine⟨k+1,aT,ug.u4.u4.u4.u1.u1.u1,bP,(aJ I aO),J,J,?_⟩
  exact fun j a b=>if e:j=k then e▸gO ‹_›else hg j a J
 refine aY (id:=0) rfl<|SR<|va (v:=I (-1)) rfl<|aa<|ai<|oI O ?_ iI
 exact(F7 fun j a b=>hg j a J).symm
theorem OU(v:Value)(l:List Tx)(w:World)(hs:Sl w v 1 l.length (Jn l)):Calls Tryz.prog 135 #[v] w (Pure (B (gZ l)) w):=by
 have hm:=hs.small
 unfold maxLen at hm
 refine eH func135 rfl rfl fun hH=>SR<|va (v:=B false) rfl<|aa<|ag<|SR<| ?_
 refine V (run_move bC) ?_
 refine V (aA (hs.hp hH) O dO O)<|V (aM O O)<|mB rfl<|bM 8 O (fun h2=> ?_) (fun h2=> ?_)
 .refine aE (v:=B true) rfl<|mB rfl<|bZ O rfl<|aE (v:=B true) rfl<|aa<|cC rfl<|SR<|va (v:=B false) rfl<|aa<|ai<|oB O ?_ hH
  exact(Dm J).symm
 refine V (run_move bC) ?_
 refine V (aA (hs.hp hH) O dO O)<|V (cD O O)<|mB rfl<|mB rfl<|bM 13 O (fun h4=> ?_) (fun h4=> ?_)
 .refine aE (v:=B true) rfl<|aa<|cC rfl<|SR<|va (v:=B false) rfl<|aa<|ai<|oB O ?_ hH
  exact(Dm J).symm
 refine V (run_move bC) ?_
 refine aG O hH (S4 _ _ _ (hs.hp hH)) (an call163 O)<|fun w5 iT=>V (dD O O)<|mB rfl<|aa<|aD O (fun h8=> ?_) (fun h8=> ?_)
 .refine SR<|va (v:=B false) rfl<|aa<|ai<|oB O ?_ iT
  exact(Pp J).symm
 refine ak<|ag<|SR<| ?_
 refine V (run_move bC) ?_
 refine V (aA (hs.hp iT) O dO O)<|aE (v:=I 0) rfl<|aa<|ay<|have hn1:1<=l.length/\l.length<=64:=J;have PU:x7 l<0:=J;bk (G:=Int) (fun k s' w'=>(Fr (2::(4::(rg 20 8 []))) _ s')/\(Hp w w' _)/\(s' 20=I k)/\(0<=k)/\(k<=l.length)/\(∀j:Int,0<=j->j<k->iG (l.getD j.toNat pM)=true)) (fun k=>(l.length-k).toNat) (0) ⟨Fr.refl _ _,iT,rfl,J,J,fun j a b=>absurd b J⟩<| ?_
 rintro k sg9 w9 ⟨fr9,iJ,ajC,h0,hk,hg⟩
 obtain⟨axT,axU⟩:=fr9.w2 18 19
 refine SR<|V (aM ajC axU)<|aa<|ag<|aD O (fun h11=> ?_) (fun h11=> ?_)
 .refine ak<|ag<|ay<|SR<|V (ah (hs.hp iJ) dO jX axT ajC J)<|V (aC ic O O ((hs.hp iJ).cell _ _ (Ca J)))<|va (v:= .string _) rfl<|aa<|SR<|aE (v:= .string _) rfl<|aG O iJ (S3 _ _) (an call164 O)<|fun Bv cm=>V (bO O)<|aa<|bW O (fun wc=> ?_) (fun wc=> ?_)
  .refine SR<|va (v:=B false) rfl<|aa<|ai<|oB O ?_ cm
   exact(Pq h0 aK (nt aK)).symm
  refine ak<|aq<|V (ax ajC O J)<|mI rfl<|aa<| ?_
  refine⟨k+1,aT,fr9.u4.u4.u1,cm,(aJ I aO),J,J,?_⟩
  exact fun j a b=>if e:j=k then e▸nf ‹_›else hg j a J
 refine aY (id:=0) rfl<|SR<|va (v:=B true) rfl<|aa<|ai<|oB O ?_ iJ
 exact(p6 hn1 PU aK hg).symm
end
section
open Go Go.RowKit Go.Proofs.YtlhjdflgjbkpmaaGreatDoor.E Go.Proofs.YtlhjdflgjbkpmaaGreatDoor.M
set_option maxRecDepth 100000
open Go.Proofs.Tryz
variable{fr:List a7}
theorem CJ(f:qk)(w:World)(hf:vR (Kw w) f)(hT:oG w):Calls Tryz.prog 93 #[.agg (ur f)] w (Pure (B (cR f.fc)) w):=by
 have hm:=hf.names.sl.small
 unfold maxLen at hm
 refine eH func93 rfl rfl fun hH=>SR<|gV hH (v:= .agg _) rfl<|fun b3 w1 aZ=>va (v:=B false) rfl<|aa<|ag<|SR<|V (fA cV 1 O nQ O)<|lV dO aZ 0 O O rfl<|aG O aZ (OU _ _ _ (hf.names.sl.hp aZ)) (an call135 O)<|fun w4 bP=>V (bO O)<|aa<|bW O (fun h8=> ?_) (fun h8=> ?_)
 .refine SR<|va (v:=B false) rfl<|aa<|ai<|oB O ?_ bP
  exact(Mj (f:=f.fc) (nt aK)).symm
 refine ak<|ag<|SR<|V (fA cV 0 O a8 O)<|lI bf bP 0 O O rfl<|aa<|ay<|ag<|SR<|V (bN O O)<|aB rfl<|aa<|aD O (fun h10=> ?_) (fun h10=> ?_)
 .refine ak<|cC (bT h10)<|SR<|V (fA cV 2 O ij O)<|V (gE bL O O O (bP.blk (i:=0) O))<|V (dx (vs:=[]) O Nj)<|aG O bP (Ee _ _ _) (aN call136 O O)<|fun FK cJ=>aB rfl<|aa<|ai<|oB O ?_ cJ
  exact(aaP (f:=f.fc) (nf ‹(!gZ f.names)=false›) (.inl aK)).symm
 refine aq<|V (bN O O)<|aB rfl<|aa<|aD O (fun wc=> ?_) (fun wc=> ?_)
 .refine SR<|V (fA cV 2 O ij O)<|V (gE bL O O O (bP.blk (i:=0) O))<|V (dx (vs:=[]) O Nj)<|aG O bP (Ee _ _ _) (aN call136 O O)<|fun OM dQ=>aB rfl<|aa<|ai<|oB O ?_ dQ
  exact(aaP (f:=f.fc) (nf ‹(!gZ f.names)=false›) (.inr aK)).symm
 refine SR<|V (bN O O)<|aB rfl<|aa<|aD O (fun h22=> ?_) (fun h22=> ?_)
 .refine SR<|V (fA cV 2 O ij O)<|V (fA bL 0 O a8 O)<|lI bf bP 0 O O rfl<|V (fA cV 1 O nQ O)<|lV dO bP 0 O O rfl<|V (aA (hf.names.sl.hp bP) O dO O)<|V (bN O O)<|mB rfl<|bM 25 O (fun AM=> ?_) (fun AM=> ?_)
  .refine V (fA cV 2 O ij O)<|V (gE bL O O O (bP.blk (i:=0) O))<|aG O bP (z8 _ _) (an call137 O)<|fun w25 kG=>mB rfl<|aB rfl<|aa<|ai<|oB O ?_ kG
   exact(agJ (f:=f.fc) (nf ‹(!gZ f.names)=false›) aK aK).symm
  refine aE (v:=B false) rfl<|aB rfl<|aa<|ai<|oB O ?_ bP
  exact(agH (f:=f.fc) aK aK).symm
 refine SR<|V (bN O O)<|aB rfl<|aa<|aD O (fun rp=> ?_) (fun rp=> ?_)
 .refine SR<|V (fA cV 2 O ij O)<|V (fA bL 0 O a8 O)<|lI bf bP 0 O O rfl<|V (fA cV 1 O nQ O)<|lV dO bP 0 O O rfl<|V (aA (hf.names.sl.hp bP) O dO O)<|V (bN O O)<|mB rfl<|bM 39 O (fun h31=> ?_) (fun h31=> ?_)
  .refine V (fA cV 2 O ij O)<|V (gE bL O O O (bP.blk (i:=0) O))<|aG O bP (J8 _ _ (hT.hp bP)) (an call138 O)<|fun w32 jT=>mB rfl<|aB rfl<|aa<|ai<|oB O ?_ jT
   exact(agK (f:=f.fc) (nf ‹(!gZ f.names)=false›) aK aK).symm
  refine aE (v:=B false) rfl<|aB rfl<|aa<|ai<|oB O ?_ bP
  exact(agI (f:=f.fc) aK aK).symm
 refine ak<|SR<|va (v:=B false) rfl<|aa<|ai<|oB O ?_ bP
 exact(aoM (f:=f.fc) aK aK aK aK).symm
theorem xI(s:kW)(w:World)(hs:ld (Kw w) s)(hT:oG w):Calls Tryz.prog 50 #[.agg (q9 s)] w (Pure (B (lW s.sh)) w):=by
 have hsl:=rV s
 have hm:=hs.aL.sl.small
 unfold maxLen at hm
 refine eH func50 rfl rfl fun hH=>SR<|gV hH (v:= .agg _) rfl<|fun b3 w1 aZ=>va (v:=B false) rfl<|aa<|SR<|V (fA dL 1 O gJ O)<|lV dA aZ 0 O O rfl<|V (aA (hs.aL.sl.hp aZ) O dA O)<|aI rfl<|aa<|ag<|SR<|mI rfl<|V (aM O O)<|mB rfl<|bM 11 O (fun h5=> ?_) (fun h5=> ?_)
 .refine aE (v:=B true) rfl<|mB rfl<|bZ O rfl<|eV O O rfl<|eV O O rfl<|uQ<|aE (v:=B true) rfl<|aa<|cC rfl<|SR<|va (v:=B false) rfl<|aa<|ai<|oB O ?_ aZ
  exact(KB J).symm
 refine mI rfl<|V (cD O O)<|mB rfl<|mB rfl<|bM 15 O (fun h7=> ?_) (fun h7=> ?_)
 .refine eV O O rfl<|eV O O rfl<|uQ<|aE (v:=B true) rfl<|aa<|cC rfl<|SR<|va (v:=B false) rfl<|aa<|ai<|oB O ?_ aZ
  exact(KB J).symm
 refine V (fA dL 0 O nS O)<|V (aC xg O O (aZ.cell (i:=0) O (v:=B _) O))<|V (bO O)<|mB rfl<|fO 19 O (fun h10=> ?_) (fun h10=> ?_)
 .refine mI rfl<|V (ke O O)<|mB rfl<|mB rfl<|aa<|aD O (fun h12=> ?_) (fun h12=> ?_)
  .refine SR<|va (v:=B false) rfl<|aa<|ai<|oB O ?_ aZ
   exact(aaL (by exact nt aK) J).symm
  refine ak<|ag<|SR<|V (fA dL 1 O gJ O)<|lV dA aZ 0 O O rfl<|V (aA (hs.aL.sl.hp aZ) O dA O)<|aE (v:=I 0) rfl<|aa<|ay<|have hc2:s.sh.tuple=true\/s.sh.aL.length=1:=(by exact .inr J);have YK:1<=s.aL.length/\s.aL.length<=8:=J;bk (G:=Int) (fun k s' w'=>(Fr (2::(5::(rg 27 8 []))) _ s')/\(Hp w w' _)/\(s' 27=I k)/\(0<=k)/\(k<=s.aL.length)/\(∀j:Int,0<=j->j<k->cR (s.aL.getD j.toNat bI).fc=true)) (fun k=>(s.aL.length-k).toNat) (0) ⟨Fr.refl _ _,aZ,rfl,J,J,fun j a b=>absurd b J⟩<| ?_
  rintro k aeh Bw ⟨tH,cm,ZS,h0,hk,hg⟩
  obtain⟨NB,ath⟩:=tH.w2 25 26
  refine SR<|V (aM ZS ath)<|aa<|ag<|aD O (fun J4=> ?_) (fun J4=> ?_)
  .refine ak<|ag<|ay<|SR<|V (ah (hs.aL.sl.hp cm) dA rM NB ZS J)<|V (eF (dv:=bI) fI (hs.aL.sl.hp cm) cV O O O J)<|nu cm (aW s5)<|fun b18 J5 dS=>bt dS (i:=0) O (rW (hs.at J J) O O O (dS.blk (i:=0) O))<|fun VV cS=>aa<|SR<|V (x9 cV O O O (cS.blk (i:=0) O))<|aG O cS (CJ _ _ ((hs.at J J).mono cS.kw) (hT.hp cS)) (an call93 O)<|fun Qu dm=>V (bO O)<|aa<|bW O (fun GK=> ?_) (fun GK=> ?_)
   .refine SR<|va (v:=B false) rfl<|aa<|ai<|oB O ?_ dm
    exact(KC (k:=k) h0 J HM).symm
   refine ak<|aq<|V (ax ZS O J)<|mI rfl<|aa<| ?_
   refine⟨k+1,aT,tH.u4.u4.u1,(dm.sub (sQ sR)),(aJ I aO),J,J,?_⟩
   exact fun j a b=>if e:j=k then e▸nf ‹_›else hg j a J
  refine aY (id:=0) rfl<|SR<|va (v:=B true) rfl<|aa<|ai<|oB O ?_ cm
  exact(KD (k:=k) J hc2 J fun j a b=>by rw[iK];exact hg j a b).symm
 refine aE (v:=B false) rfl<|mB rfl<|aa<|cL rfl<|ak<|ag<|SR<|V (fA dL 1 O gJ O)<|lV dA aZ 0 O O rfl<|V (aA (hs.aL.sl.hp aZ) O dA O)<|aE (v:=I 0) rfl<|aa<|ay<|have hc2:s.sh.tuple=true\/s.sh.aL.length=1:=(by exact .inl (nf ‹(!s.tuple)=false›));have YK:1<=s.aL.length/\s.aL.length<=8:=J;bk (G:=Int) (fun k s' w'=>(Fr (2::(5::(rg 27 8 []))) _ s')/\(Hp w w' _)/\(s' 27=I k)/\(0<=k)/\(k<=s.aL.length)/\(∀j:Int,0<=j->j<k->cR (s.aL.getD j.toNat bI).fc=true)) (fun k=>(s.aL.length-k).toNat) (0) ⟨Fr.refl _ _,aZ,rfl,J,J,fun j a b=>absurd b J⟩<| ?_
 rintro k aEF V6 ⟨ajF,kG,ZT,h0,hk,hg⟩
 obtain⟨ati,atj⟩:=ajF.w2 25 26
 refine SR<|V (aM ZT atj)<|aa<|ag<|aD O (fun h28=> ?_) (fun h28=> ?_)
 .refine ak<|ag<|ay<|SR<|V (ah (hs.aL.sl.hp kG) dA rM ati ZT J)<|V (eF (dv:=bI) fI (hs.aL.sl.hp kG) cV O O O J)<|nu kG (aW s5)<|fun b31 w29 jf=>bt jf (i:=0) O (rW (hs.at J J) O O O (jf.blk (i:=0) O))<|fun w32 jT=>aa<|SR<|V (x9 cV O O O (jT.blk (i:=0) O))<|aG O jT (CJ _ _ ((hs.at J J).mono jT.kw) (hT.hp jT)) (an call93 O)<|fun w34 tJ=>V (bO O)<|aa<|bW O (fun h38=> ?_) (fun h38=> ?_)
  .refine SR<|va (v:=B false) rfl<|aa<|ai<|oB O ?_ tJ
   exact(KC (k:=k) h0 J HM).symm
  refine ak<|aq<|V (ax ZT O J)<|mI rfl<|aa<| ?_
  refine⟨k+1,aT,ajF.u4.u4.u1,(tJ.sub (sQ sR)),(aJ I aO),J,J,?_⟩
  exact fun j a b=>if e:j=k then e▸nf ‹_›else hg j a J
 refine aY (id:=0) rfl<|SR<|va (v:=B true) rfl<|aa<|ai<|oB O ?_ kG
 exact(KD (k:=k) J hc2 J fun j a b=>by rw[iK];exact hg j a b).symm
theorem S5(f:qk)(s:BitVec 64)(w:World)(hf:vR (Kw w) f)(hT:oG w):Calls Tryz.prog 145 #[.agg (ur f),U s] w (Pure (B (j5 f.fc s)) w):=by
 have hm:=hf.names.sl.small
 unfold maxLen at hm
 refine eH func145 rfl rfl fun hH=>SR<|gV hH (v:= .agg _) rfl<|fun b3 w1 aZ=>va (v:=B false) rfl<|aa<|ag<|SR<|V (fA cV 0 O a8 O)<|lI bf aZ 0 O O rfl<|aa<|ay<|SR<|V (bN O O)<|aB rfl<|aa<|aD O (fun h5=> ?_) (fun h5=> ?_)
 .refine SR<|V (fA cV 1 O nQ O)<|lV dO aZ 0 O O rfl<|V (aA (hf.names.sl.hp aZ) O dO O)<|mU rfl<|aG O aZ (SZ _ _ _) (aN call178 O O)<|fun w6 eN=>aB rfl<|aa<|ai<|oB O ?_ eN
  exact(Pr (f:=f.fc) aK s).symm
 refine SR<|V (bN O O)<|aB rfl<|aa<|aD O (fun h10=> ?_) (fun h10=> ?_)
 .refine SR<|mU rfl<|V (fA cV 1 O nQ O)<|lV dO aZ 0 O O rfl<|V (aA (hf.names.sl.hp aZ) O dO O)<|aG O aZ (ox _ _) (an HG O)<|fun FK cJ=>aG O cJ (Ft _ _ _) (aN call140 O O)<|fun Bw cg=>aB rfl<|aa<|ai<|oB O ?_ cg
  exact(Ps (f:=f.fc) aK s).symm
 refine SR<|V (bN O O)<|aB rfl<|aa<|aD O (fun J6=> ?_) (fun J6=> ?_)
 .refine SR<|V (fA cV 2 O ij O)<|V (gE bL O O O (aZ.blk (i:=0) O))<|mU rfl<|aG O aZ (OR _ _ _ (hT.hp aZ)) (aN call180 O O)<|fun Ou gW=>aB rfl<|aa<|ai<|oB O ?_ gW
  exact(Pt (f:=f.fc) aK s).symm
 refine ak<|SR<|V (fA cV 2 O ij O)<|V (gE bL O O O (aZ.blk (i:=0) O))<|mU rfl<|aG O aZ (xF _ _ _ (hT.hp aZ)) (aN call181 O O)<|fun Qu dm=> ?_
 refine V (run_move bC) ?_
 refine V (bx O (v:=I _) O)<|V (bx O (v:=B _) O)<|aI rfl<|aB rfl<|aa<|SR<|mB rfl<|aB rfl<|aa<|ai<|oB O ?_ dm
 exact(aoN (f:=f.fc) aK aK aK s).symm
theorem Ac(s:kW)(e:El)(w:World)(hs:ld (Kw w) s)(hT:oG w):Calls Tryz.prog 105 #[.agg (q9 s),.agg (jv e)] w (Pure (B (cF s.sh e)) w):=by
 have hsl:=rV s
 have hm:=hs.aL.sl.small
 unfold maxLen at hm
 refine eH func105 rfl rfl fun hH=>SR<|gV hH (v:= .agg _) rfl<|fun b3 w1 aZ=>gV aZ (v:= .agg _) rfl<|fun b6 w4 bP=>va (v:=B false) rfl<|aa<|ag<|SR<|V (cM (cs:=[B _,_]) dL O O O (bp (bP.blk (i:=1) O)))<|aG O bP (xI _ _ (hs.mono bP.kw) (hT.hp bP)) (an call50 O)<|fun w7 eU=>V (bO O)<|aa<|bW O (fun h11=> ?_) (fun h11=> ?_)
 .refine SR<|va (v:=B false) rfl<|aa<|ai<|oB O ?_ eU
  exact(Uo (nt aK)).symm
 refine ak<|ag<|SR<|V (dW cH O O O (eU.blk (i:=0) O))<|aE (v:=I 0) rfl<|aa<|ay<|have hr:lW s.sh=true:=nf aK;bk (G:=Int) (fun k s' w'=>(Fr (rg 4 3 (rg 11 20 [])) _ s')/\(Hp w w' _)/\(s' 11=I k)/\(0<=k)/\(k<=8)/\(D5 s.sh e k)) (fun k=>(8-k).toNat) (0) ⟨Fr.refl _ _,eU,rfl,J,J,D5.none _ _⟩<| ?_
 rintro k aeg Bv ⟨oz,cJ,NN,h0,hk,hf⟩
 obtain⟨AV,atk⟩:=oz.w2 2 10
 refine SR<|V (aM NN O)<|aa<|ag<|aD O (fun KQ=> ?_) (fun KQ=> ?_)
 .refine ak<|ag<|ay<|SR<|aE NN<|V (LB cH isAgg35 dg atk NN J (arf _ J))<|aI rfl<|aU rfl<|aa<|ag<|SR<|mI rfl<|V (fA dL 1 O gJ AV)<|lV dA cJ 1 O O rfl<|V (aA (hs.aL.sl.hp cJ) O dA O)<|V (dD O O)<|aa<|aD O (fun wc=> ?_) (fun wc=> ?_)
  .refine ag<|SR<|mU rfl<|V (uN O (b:=0#64) O)<|aa<|aD O (fun pS=> ?_) (fun pS=> ?_)
   .refine SR<|va (v:=B false) rfl<|aa<|ai<|oB O ?_ cJ
    exact(Mb h0 aK J aK).symm
   refine ak<|aY (id:=1) rfl<|aq<|V (ax NN O J)<|mI rfl<|aa<| ?_
   refine⟨k+1,aT,oz.u4.u4.u4.u1.u1,cJ,(aJ I aO),J,J,?_⟩
   exact hf.next (fun h=>by exfalso;omega) (fun h=>by exact Ht aK)
  refine ak<|SR<|V (fA dL 1 O gJ AV)<|lV dA cJ 1 O O rfl<|mI rfl<|V (ah (hs.aL.sl.hp cJ) dA rM O O J)<|V (eF (dv:=bI) fI (hs.aL.sl.hp cJ) cV O O O J)<|mU rfl<|aG O cJ (S5 _ _ _ ((hs.at J J).mono cJ.kw) (hT.hp cJ)) (aN call145 O O)<|fun VV cS=>V (bO O)<|aa<|bW O (fun DN=> ?_) (fun DN=> ?_)
  .refine SR<|va (v:=B false) rfl<|aa<|ai<|oB O ?_ cS
   exact(Up h0 aK J HM).symm
  refine ak<|aq<|V (ax NN O J)<|mI rfl<|aa<| ?_
  refine⟨k+1,aT,oz.u4.u4.u4.u4.u4,cS,(aJ I aO),J,J,?_⟩
  exact hf.next (fun h=>by rw[iK];exact nf aK) (fun h=>by exfalso;omega)
 refine aY (id:=0) rfl<|SR<|va (v:=B true) rfl<|aa<|ai<|oB O ?_ cJ
 exact(Mc hr aK hf).symm
theorem Wb(a b:El)(w:World):Calls Tryz.prog 97 #[.agg (jv a),.agg (jv b)] w (Pure (B (cT a b)) w):=by
 refine eH func97 rfl rfl fun hH=>SR<|gV hH (v:= .agg _) rfl<|fun b3 w1 aZ=>gV aZ (v:= .agg _) rfl<|fun b6 w4 bP=>va (v:=B false) rfl<|aa<|ag<|SR<|aE (v:=I 0) rfl<|aa<|ay<|bk (G:=Int) (fun k s' w'=>(Fr (rg 4 14 []) _ s')/\(Hp w w' _)/\(s' 6=I k)/\(0<=k)/\(k<=8)/\(∀j:Int,0<=j->j<k->dX (a j.toNat) (b j.toNat)=true)) (fun k=>(8-k).toNat) (0) ⟨Fr.refl _ _,bP,rfl,J,J,fun j u v=>absurd v J⟩<| ?_
 rintro k sg7 w7 ⟨FL,eN,ajG,h0,hk,hf⟩
 obtain⟨ate,aem⟩:=FL.w2 2 3
 refine SR<|V (aM ajG O)<|aa<|ag<|aD O (fun h9=> ?_) (fun h9=> ?_)
 .refine ak<|ag<|ay<|SR<|aE ajG<|aI rfl<|aa<|ag<|ed aP eN<|fun GJ dJ=>have jz:=dJ;AQ 0 O jz (mV (I _) O)<|AQ 1 O jz (bg cH dg ate O J)<|tV 2 O jz dZ 1 O O (n5 _ J)<|AQ 3 O jz (mV (I _) O)<|AQ 4 O jz (bg cH dg aem O J)<|tV 5 O jz dZ 0 O O (n5 _ J)<|A1 6<|bX O aH O dJ sR (Ft _ _ _) (aN call140 O O)<|fun Bv cm=>AQ 7 O cm (bO O)<|AD<|bW O (fun wc=> ?_) (fun wc=> ?_)
  .refine SR<|va (v:=B false) rfl<|aa<|ai<|oB O ?_ cm
   exact(ard h0 aK (nt aK)).symm
  refine ak<|aq<|V (ax ajG O J)<|mI rfl<|aa<| ?_
  refine⟨k+1,aT,FL.u4.u4.u4.u1,cm,(aJ I aO),J,J,?_⟩
  exact fun j u v=>if e:j=k then e▸nf ‹_›else hf j u J
 refine aY (id:=0) rfl<|SR<|va (v:=B true) rfl<|aa<|ai<|oB O ?_ eN
 exact(al4 aK hf).symm
theorem S6(s:kW)(a b:El)(w:World)(hs:ld (Kw w) s)(hT:oG w):Calls Tryz.prog 170 #[.agg (q9 s),.agg (jv a),.agg (jv b)] w (Pure (.agg (jv (fH s.sh a b))) w):=by
 have hsl:=rV s
 have hm:=hs.aL.sl.small
 unfold maxLen at hm
 refine eH func170 rfl rfl fun hH=>SR<|gV hH (v:= .agg _) rfl<|fun b3 w1 aZ=>gV aZ (v:= .agg _) rfl<|fun b6 w4 bP=>gV bP (v:= .agg _) rfl<|fun b9 w7 eU=>nu eU (aW jO)<|fun b12 GJ dJ=>aa<|ag<|SR<|aE (v:=I 0) rfl<|aa<|ay<|bk (G:=Int×El) (fun⟨k,e1⟩ s' w'=>(Fr (rg 7 42 []) _ s')/\(Hp w w' (_::_:: .blk b6 (.cells (jv e1) 37 (0,0))::_))/\(s' 8=I k)/\(0<=k)/\(k<=8)/\(e1=sO (fH s.sh a b) a k)) (fun⟨k,e1⟩=>(8-k).toNat) ((0,a)) ⟨Fr.refl _ _,dJ,rfl,J,J,(F9 _ _).symm⟩<| ?_
 rintro⟨k,e1⟩ aeh Bw ⟨tH,cm,Wc,h0,hk,hr⟩
 obtain⟨AX,GM,NL,QA⟩:=tH.w4 3 4 5 6
 refine SR<|V (aM Wc O)<|aa<|ag<|aD O (fun J4=> ?_) (fun J4=> ?_)
 .refine ak<|ag<|ay<|SR<|aE Wc<|aI rfl<|aa<|ag<|SR<|mI rfl<|V (fA dL 1 O gJ AX)<|lV dA cm 3 O O rfl<|V (aA (hs.aL.sl.hp cm) O dA O)<|V (aM O O)<|mB rfl<|bM 16 O (fun J6=> ?_) (fun J6=> ?_)
  .refine V (fA dL 1 O gJ AX)<|lV dA cm 3 O O rfl<|mI rfl<|V (ah (hs.aL.sl.hp cm) dA rM O O J)<|V (fA cV 0 O a8 O)<|V (fQ (dv:=bI) fI (hs.aL.sl.hp cm) bf O O J O)<|V (bN O O)<|mB rfl<|aa<|aD O (fun J1=> ?_) (fun J1=> ?_)
   .refine ag<|gK aP cm (sP (sP (sQ sR)))<|fun w20 fB=>have oo:=fB.sub (sP (sP (sQ sR)));AQ 0 O oo (mV (I _) O)<|AQ 1 O oo (fA dL 1 O gJ AX)<|tV 2 O oo dA 2 O O rfl<|AQ 3 O oo (mV (I _) O)<|AT 4 O oo (fun w hS=>ah (hs.aL.sl.hp hS) dA rM O O J)<|AQ 5 O oo (fA cV 2 O ij O)<|AT 6 O oo (fun w hS=>agy (hs.aL.sl.hp hS) bL O O O J)<|AQ 7 O oo (mV (I _) O)<|AQ 8 O oo (bg cH dg GM O J)<|AQ 10 O oo (mV (I _) O)<|AQ 11 O oo (bg cH dg NL O J)<|tV 12 O oo dZ 1 O O (n5 _ J)<|A1 9<|cr O aH O fB (sP (sP (sQ sR))) (aC dZ O O (fB.cell (i:=2) O (n5 _ J)))<|A1 13<|bX O aH O fB (sP (sP (sQ sR))) (OQ _ _ _ _ (hT.hp fB)) (bB call205 O O O)<|fun w24 og=>AQ 14 O (og.sub (sP (sP (sQ sR)))) (bg cH dg GM O J)<|A1 15<|dU O aH og (j:=2) O (sP (sP (sQ sR))) (bQ O O (v:=U _) O O O (og.blk (i:=2) O) ER)<|fun w28 gG=> ?_
    rw[zu]at gG
    refine AD<|aY (id:=1) rfl<|aq<|V (ax Wc O J)<|mI rfl<|aa<| ?_
    refine⟨(k+1,_),aT,tH.u4.u4.u4.u4.u4.u4.u4.u4.u1.u1,gG,(aJ I aO),J,J,?_⟩
    exact adj hr h0 aK aK
   refine ak<|gK aP cm (sP (sP (sQ sR)))<|fun w30 mo=>have IW:=mo.sub (sP (sP (sQ sR)));AQ 0 O IW (mV (I _) O)<|AQ 1 O IW (bg cH dg GM O J)<|AQ 3 O IW (mV (I _) O)<|AQ 4 O IW (bg cH dg NL O J)<|tV 5 O IW dZ 1 O O (n5 _ J)<|A1 2<|cr O aH O mo (sP (sP (sQ sR))) (aC dZ O O (mo.cell (i:=2) O (n5 _ J)))<|AQ 6 O IW (jH O O)<|AQ 7 O IW (bg cH dg GM O J)<|A1 8<|dU O aH mo (j:=2) O (sP (sP (sQ sR))) (bQ O O (v:=U _) O O O (mo.blk (i:=2) O) ER)<|fun w36 yw=> ?_
   rw[zu]at yw
   refine AD<|aq<|V (ax Wc O J)<|mI rfl<|aa<| ?_
   refine⟨(k+1,_),aT,tH.u4.u4.u4.u4.u4.u4.u1.u1.u1,yw,(aJ I aO),J,J,?_⟩
   exact Pz hr h0 (fun hc=>absurd hc.1 J)
  refine aE (v:=B false) rfl<|aa<|cL rfl<|ak<|gK aP cm (sP (sP (sQ sR)))<|fun w38 m5=>have CK:=m5.sub (sP (sP (sQ sR)));AQ 0 O CK (mV (I _) O)<|AQ 1 O CK (bg cH dg GM O J)<|AQ 3 O CK (mV (I _) O)<|AQ 4 O CK (bg cH dg NL O J)<|tV 5 O CK dZ 1 O O (n5 _ J)<|A1 2<|cr O aH O m5 (sP (sP (sQ sR))) (aC dZ O O (m5.cell (i:=2) O (n5 _ J)))<|AQ 6 O CK (jH O O)<|AQ 7 O CK (bg cH dg GM O J)<|A1 8<|dU O aH m5 (j:=2) O (sP (sP (sQ sR))) (bQ O O (v:=U _) O O O (m5.blk (i:=2) O) ER)<|fun w44 nn=> ?_
  rw[zu]at nn
  refine AD<|aq<|V (ax Wc O J)<|mI rfl<|aa<| ?_
  refine⟨(k+1,_),aT,tH.u4.u4.u4.u4.u4.u4.u1.u1.u1,nn,(aJ I aO),J,J,?_⟩
  exact Pz hr h0 (fun hc=>absurd hc.1 J)
 refine aY (id:=0) rfl<|SR<|V (dW cH O O GM (cm.blk (i:=2) O))<|bt cm (i:=0) O (ez O QA O (cm.blk (i:=0) O))<|fun w46 oC=>aa<|ai<|tW O QA oC (i:=0) O cH O nT ⟨?_,oC.below⟩
 (exact aJ Value.agg (rT X0))
theorem S7(a b:El)(w:World):Calls Tryz.prog 171 #[.agg (jv a),.agg (jv b)] w (Pure (.agg (jv (rD a b))) w):=by
 refine eH func171 rfl rfl fun hH=>SR<|gV hH (v:= .agg _) rfl<|fun b3 w1 aZ=>gV aZ (v:= .agg _) rfl<|fun b6 w4 bP=>nu bP (aW jO)<|fun b9 w7 eU=>aa<|ag<|SR<|aE (v:=I 0) rfl<|aa<|ay<|bk (G:=Int×El) (fun⟨k,e1⟩ s' w'=>(Fr (rg 5 13 []) _ s')/\(Hp w w' (_::_:: .blk b3 (.cells (jv e1) 37 (0,0))::_))/\(s' 6=I k)/\(0<=k)/\(k<=8)/\(e1=sO (rD a b) a k)) (fun⟨k,e1⟩=>(8-k).toNat) ((0,a)) ⟨Fr.refl _ _,eU,rfl,J,J,(F9 _ _).symm⟩<| ?_
 rintro⟨k,e1⟩ ZQ GJ ⟨sw,bV,GU,h0,hk,hr⟩
 obtain⟨GV,py,Qz⟩:=sw.w3 2 3 4
 refine SR<|V (aM GU O)<|aa<|ag<|aD O (fun h12=> ?_) (fun h12=> ?_)
 .refine ak<|ag<|ay<|SR<|aE GU<|aI rfl<|aa<|gK aP bV (sP (sP (sQ sR)))<|fun Bw cg=>have xJ:=cg.sub (sP (sP (sQ sR)));AQ 0 O xJ (mV (I _) O)<|AQ 1 O xJ (bg cH dg GV O J)<|AQ 3 O xJ (mV (I _) O)<|AQ 4 O xJ (bg cH dg py O J)<|tV 5 O xJ dZ 1 O O (n5 _ J)<|A1 2<|cr O aH O cg (sP (sP (sQ sR))) (aC dZ O O (cg.cell (i:=2) O (n5 _ J)))<|AQ 6 O xJ (lH O O)<|AQ 7 O xJ (bg cH dg GV O J)<|A1 8<|dU O aH cg (j:=2) O (sP (sP (sQ sR))) (bQ O O (v:=U _) O O O (cg.blk (i:=2) O) ER)<|fun VV cS=> ?_
  rw[zu]at cS
  refine AD<|aq<|V (ax GU O J)<|mI rfl<|aa<| ?_
  refine⟨(k+1,_),aT,sw.u4.u4.u4.u1,cS,(aJ I aO),J,J,?_⟩
  exact agN hr h0
 refine aY (id:=0) rfl<|SR<|V (dW cH O O GV (bV.blk (i:=2) O))<|bt bV (i:=0) O (ez O Qz O (bV.blk (i:=0) O))<|fun Qu dm=>aa<|ai<|tW O Qz dm (i:=0) O cH O nT ⟨?_,dm.below⟩
 (exact aJ Value.agg (rT X0))
theorem S8(s:kW)(fi:FuncId)(gg:Fc->BitVec 64)(w:World)(hs:ld (Kw w) s)(hf:∀args w,(callFunc fi args).run Tryz.prog w= .ok (.enter fi args) w)(go:∀f w',vR (Kw w') f->oG w'->Calls Tryz.prog fi #[.agg (ur f)] w' (Pure (U (gg f.fc)) w'))(hT:oG w):Calls Tryz.prog 99 #[.agg (q9 s),.func (.func fi) #[] #[]] w (Pure (.agg (jv (iu s.sh gg))) w):=by
 have hsl:=rV s
 have hm:=hs.aL.sl.small
 unfold maxLen at hm
 refine eH func99 rfl rfl fun hH=>SR<|gV hH (v:= .agg _) rfl<|fun b3 w1 aZ=>nu aZ (aW jO)<|fun b6 w4 bP=>aa<|SR<|nu bP (aW jO)<|fun b9 w7 eU=>aa<|ag<|SR<|V (cM (cs:=[B _,_]) dL O O O (bp (eU.blk (i:=2) O)))<|aG O eU (xI _ _ (hs.mono eU.kw) (hT.hp eU)) (an call50 O)<|fun GJ dJ=>aa<|bW O (fun OK=> ?_) (fun OK=> ?_)
 .refine SR<|V (fA dL 1 O gJ O)<|lV dA dJ 2 O O rfl<|V (aA (hs.aL.sl.hp dJ) O dA O)<|aE (v:=I 0) rfl<|aa<|ay<|have hln:=(mc ‹lW s.sh=true›).1;bk (G:=Int×El) (fun⟨k,e1⟩ s' w'=>(Fr (6::7::(rg 13 11 [])) _ s')/\(Hp w w' (.blk b9 (.cells (jv e1) 37 (0,0))::_))/\(s' 13=I k)/\(0<=k)/\(k<=s.aL.length)/\(e1=sO (iu s.sh gg) dH k)) (fun⟨k,e1⟩=>(s.aL.length-k).toNat) ((0,dH)) ⟨Fr.refl _ _,dJ,rfl,J,J,(F9 _ _).symm⟩<| ?_
  rintro⟨k,e1⟩ VU Np ⟨kq,cg,S9,h0,hk,hr⟩
  have Nr:=kq.vv 1 (a:= .func _ _ _) rfl rfl
  obtain⟨yu,qe,Nu,atl⟩:=kq.w4 4 5 11 12
  refine SR<|V (aM S9 atl)<|aa<|ag<|aD O (fun wc=> ?_) (fun wc=> ?_)
  .refine ak<|ag<|ay<|SR<|aE S9<|V (ah (hs.aL.sl.hp cg) dA rM Nu S9 J)<|V (eF (dv:=bI) fI (hs.aL.sl.hp cg) cV O O O J)<|nu cg (aW s5)<|fun ZI OM dQ=>aI rfl<|bt dQ (i:=0) O (rW (hs.at J J) O O O (dQ.blk (i:=0) O))<|fun w20 fB=>aa<|aq<|mI rfl<|aE Nr<|V (x9 cV O O O (fB.blk (i:=0) O))<|aG O fB (go _ _ ((hs.at J J).mono fB.kw) (hT.hp fB)) (l9 hf (cs:=[]) O O)<|fun OO eO=>V (bg cH dg qe O J)<|bt eO (i:=1) O (bQ O O (v:=U _) O O O (eO.blk (i:=1) O) ER)<|fun w24 og=> ?_
   rw[zu]at og
   refine aa<|aq<|V (ax S9 O J)<|mI rfl<|aa<| ?_
   refine⟨(k+1,_),aT,kq.u4.u4.u4.u1,(og.sub (sQ sR)),(aJ I aO),J,J,?_⟩
   (have hp:=agM ‹lW s.sh=true› hr h0 (show k<s.sh.aL.length by omega);rw[iK]at hp;exact hp)
  refine aY (id:=0) rfl<|SR<|V (dW cH O O qe (cg.blk (i:=0) O))<|bt cg (i:=1) O (ez O yu O (cg.blk (i:=1) O))<|fun V6 dK=>aa<|ai<|tW O yu dK (i:=1) O cH O nT ⟨?_,dK.below⟩
  exact aJ Value.agg (rT (by rw[hr];exact agL J))
 refine ak<|SR<|V (dW cH O O O (dJ.blk (i:=0) O))<|bt dJ (i:=1) O (ez O O O (dJ.blk (i:=1) O))<|fun w28 gG=>aa<|ai<|tW O O gG (i:=1) O cH O nT ⟨?_,gG.below⟩
 exact aJ Value.agg (rT (al8 aK))
theorem OV(f:qk)(w:World)(hf:vR (Kw w) f)(hT:oG w):Calls Tryz.prog 100 #[.agg (ur f)] w (Pure (U (eY f.fc)) w):=by
 refine eH func100 rfl rfl fun hH=>SR<|gV hH (v:= .agg _) rfl<|fun b3 w1 aZ=>va (v:=U 0#64) rfl<|aa<|ag<|SR<|V (fA cV 0 O a8 O)<|lI bf aZ 0 O O rfl<|V (ke O O)<|aa<|aD O (fun h5=> ?_) (fun h5=> ?_)
 .refine SR<|va (v:=U 0#64) rfl<|aa<|ai<|oU O ?_ aZ
  exact(aS (show f.fc.kind≠4 from aK)).symm
 refine ak<|SR<|V (fA cV 2 O ij O)<|V (gE bL O O O (aZ.blk (i:=0) O))<|aG O aZ (ND _ _ (hT.hp aZ)) (an call143 O)<|fun w6 eN=> ?_
 refine V (run_move bC) ?_
 refine V (bx O (v:=I _) O)<|V (bx O (v:=B _) O)<|aI rfl<|aB rfl<|aa<|SR<|V (fA cV 2 O ij O)<|V (gE bL O O O (eN.blk (i:=0) O))<|mI rfl<|aG O eN (oA _ _ _ (hT.hp eN)) (aN HJ O O)<|fun w9 bV=>aU rfl<|aa<|ai<|oU O ?_ bV
 exact(aR (show¬f.fc.kind≠4 from aK)).symm
theorem vB(s:kW)(w:World)(hs:ld (Kw w) s)(hT:oG w):Calls Tryz.prog 53 #[.agg (q9 s)] w (Pure (.agg (jv (iu s.sh eY))) w):=by
 refine eH func53 rfl rfl fun hH=>SR<|gV hH (v:= .agg _) rfl<|fun b3 w1 aZ=>nu aZ (aW jO)<|fun b6 w4 bP=>aa<|SR<|V (cM (cs:=[B _,_]) dL O O O (bp (bP.blk (i:=1) O)))<|aG O bP (S8 s 100 eY _ (hs.mono bP.kw) call100 (fun f w h ht=>OV f w h ht) (hT.hp bP)) (aN call99 O O)<|fun w7 eU=>bt eU (i:=0) O (ez O O O (eU.blk (i:=0) O))<|fun w9 bV=>aa<|ai<|tW O O bV (i:=0) O cH O nT ⟨?_,bV.below⟩
 rfl
theorem qh(f:qk)(w:World)(hf:vR (Kw w) f):Calls Tryz.prog 112 #[.agg (ur f)] w (Pure (B (cR f.fc)) w):=by
 have hm:=hf.names.sl.small
 unfold maxLen at hm
 refine eH func112 rfl rfl fun hH=>SR<|gV hH (v:= .agg _) rfl<|fun b3 w1 aZ=>va (v:=B false) rfl<|aa<|SR<|V (fA cV 1 O nQ O)<|lV dO aZ 0 O O rfl<|V (aA (hf.names.sl.hp aZ) O dO O)<|aI rfl<|aa<|ag<|SR<|mI rfl<|V (aM O O)<|mB rfl<|bM 10 O (fun h5=> ?_) (fun h5=> ?_)
 .refine aE (v:=B true) rfl<|mB rfl<|bZ O rfl<|aE (v:=B true) rfl<|aa<|cC rfl<|SR<|va (v:=B false) rfl<|aa<|ai<|oB O ?_ aZ
  exact(Mj (f:=f.fc) (Dm afg)).symm
 refine mI rfl<|V (cD O O)<|mB rfl<|mB rfl<|bM 14 O (fun h7=> ?_) (fun h7=> ?_)
 .refine aE (v:=B true) rfl<|aa<|cC rfl<|SR<|va (v:=B false) rfl<|aa<|ai<|oB O ?_ aZ
  exact(Mj (f:=f.fc) (Dm afg)).symm
 refine V (fA cV 1 O nQ O)<|lV dO aZ 0 O O rfl<|aG O aZ (jP _ _ _ (hf.names.sl.hp aZ)) (an call75 O)<|fun w8 iJ=>V (dD O O)<|mB rfl<|aa<|aD O (fun h11=> ?_) (fun h11=> ?_)
 .refine SR<|va (v:=B false) rfl<|aa<|ai<|oB O ?_ iJ
  exact(Mj (f:=f.fc) (Pp (by show¬x7 f.names<0;omega))).symm
 refine ak<|ag<|SR<|va (v:=I 0) rfl<|aa<|ay<|have hn1:1<=f.names.length/\f.names.length<=64:=J;have PU:x7 f.names<0:=J;bk (G:=Int) (fun k s' w'=>(Fr (2::(4::(rg 20 12 []))) _ s')/\(Hp w w' _)/\(s' 4=I k)/\(0<=k)/\(k<=f.names.length)/\(∀j:Int,0<=j->j<k->iG (f.names.getD j.toNat pM)=true)) (fun k=>(f.names.length-k).toNat) (0) ⟨Fr.refl _ _,iJ,rfl,J,J,fun j a b=>absurd b J⟩<| ?_
 rintro k aeg Bv ⟨oz,cJ,Ef,h0,hk,hg⟩
 obtain⟨qV,CG⟩:=oz.w2 1 3
 refine ag<|SR<|aE Ef<|aE CG<|V (aM O O)<|aa<|aD O (fun KQ=> ?_) (fun KQ=> ?_)
 .refine ak<|ag<|ay<|SR<|V (fA cV 1 O nQ qV)<|lV dO cJ 0 O O rfl<|aE Ef<|V (ah (hf.names.sl.hp cJ) dO jX O O J)<|V (aC ic O O ((hf.names.sl.hp cJ).cell _ _ (Ca J)))<|aG O cJ (iz _ _) (an call74 O)<|fun SY cI=>V (bO O)<|aa<|bW O (fun J1=> ?_) (fun J1=> ?_)
  .refine SR<|va (v:=B false) rfl<|aa<|ai<|oB O ?_ cI
   exact(Mj (f:=f.fc) (Pq h0 aK (nt aK))).symm
  refine ak<|aq<|aE Ef<|V (ax O O J)<|aI rfl<|aa<| ?_
  refine⟨k+1,aT,oz.u4.u4.u4.u1,cI,(aJ I aO),J,J,?_⟩
  exact fun j a b=>if e:j=k then e▸nf ‹_›else hg j a J
 refine aY (id:=0) rfl<|ag<|SR<|V (fA cV 0 O a8 qV)<|lI bf cJ 0 O O rfl<|V (bN O O)<|mB rfl<|bM 35 O (fun NA=> ?_) (fun NA=> ?_)
 .refine aE (v:=B true) rfl<|aa<|cC rfl<|SR<|V (fA cV 2 O ij qV)<|V (gE bL O O O (cJ.blk (i:=0) O))<|aG O cJ (bE _ _) (an lF O)<|fun OO eO=>V (bN O O)<|aB rfl<|aa<|ai<|oB O ?_ eO
  (have hny:gZ f.names=true:=p6 hn1 PU ‹¬k<_› hg;exact(YE (f:=f.fc) hny (.inl aK)).symm)
 refine V (fA cV 0 O a8 qV)<|lI bf cJ 0 O O rfl<|V (bN O O)<|mB rfl<|aa<|aD O (fun VY=> ?_) (fun VY=> ?_)
 .refine SR<|V (fA cV 2 O ij qV)<|V (gE bL O O O (cJ.blk (i:=0) O))<|aG O cJ (bE _ _) (an lF O)<|fun w27 gk=>V (bN O O)<|aB rfl<|aa<|ai<|oB O ?_ gk
  (have hny:gZ f.names=true:=p6 hn1 PU ‹¬k<_› hg;exact(YE (f:=f.fc) hny (.inr aK)).symm)
 refine ak<|ag<|SR<|V (fA cV 0 O a8 qV)<|lI bf cJ 0 O O rfl<|V (bN O O)<|aa<|aD O (fun h31=> ?_) (fun h31=> ?_)
 .refine SR<|V (fA cV 2 O ij qV)<|V (fA bL 0 O a8 O)<|lI bf cJ 0 O O rfl<|aE CG<|V (bN O O)<|mB rfl<|bM 52 O (fun h33=> ?_) (fun h33=> ?_)
  .refine V (fA cV 2 O ij qV)<|V (gE bL O O O (cJ.blk (i:=0) O))<|aG O cJ (mq _ _) (an call146 O)<|fun w34 tJ=>mB rfl<|aB rfl<|aa<|ai<|oB O ?_ tJ
   (have hny:gZ f.names=true:=p6 hn1 PU ‹¬k<_› hg;exact(agJ (f:=f.fc) hny aK aK).symm)
  refine aE (v:=B false) rfl<|aB rfl<|aa<|ai<|oB O ?_ cJ
  (have hny:gZ f.names=true:=p6 hn1 PU ‹¬k<_› hg;exact(agH (f:=f.fc) aK aK).symm)
 refine ak<|SR<|V (fA cV 0 O a8 qV)<|lI bf cJ 0 O O rfl<|V (bN O O)<|mB rfl<|bM 60 O (fun h38=> ?_) (fun h38=> ?_)
 .refine V (fA cV 2 O ij qV)<|V (fA bL 0 O a8 O)<|lI bf cJ 0 O O rfl<|aE CG<|V (bN O O)<|mB rfl<|mB rfl<|bM 67 O (fun h40=> ?_) (fun h40=> ?_)
  .refine V (fA cV 2 O ij qV)<|V (gE bL O O O (cJ.blk (i:=0) O))<|aG O cJ (xG _ _) (an call151 O)<|fun w41 yx=>mB rfl<|aB rfl<|aa<|ai<|oB O ?_ yx
   (have hny:gZ f.names=true:=p6 hn1 PU ‹¬k<_› hg;exact(agK (f:=f.fc) hny aK aK).symm)
  refine aE (v:=B false) rfl<|aB rfl<|aa<|ai<|oB O ?_ cJ
  (have hny:gZ f.names=true:=p6 hn1 PU ‹¬k<_› hg;exact(agI (f:=f.fc) aK aK).symm)
 refine aE (v:=B false) rfl<|mB rfl<|bZ O rfl<|aE (v:=B false) rfl<|aB rfl<|aa<|ai<|oB O ?_ cJ
 (have hny:gZ f.names=true:=p6 hn1 PU ‹¬k<_› hg;exact(aoM (f:=f.fc) aK aK aK aK).symm)
theorem mr(s:kW)(w:World)(hs:ld (Kw w) s):Calls Tryz.prog 73 #[.agg (q9 s)] w (Pure (B (lW s.sh)) w):=by
 have hsl:=rV s
 have hm:=hs.aL.sl.small
 unfold maxLen at hm
 refine eH func73 rfl rfl fun hH=>SR<|gV hH (v:= .agg _) rfl<|fun b3 w1 aZ=>va (v:=B false) rfl<|aa<|ag<|SR<|V (fA dL 1 O gJ O)<|lV dA aZ 0 O O rfl<|V (aA (hs.aL.sl.hp aZ) O dA O)<|V (aM O O)<|mB rfl<|bM 8 O (fun h5=> ?_) (fun h5=> ?_)
 .refine aE (v:=B true) rfl<|mB rfl<|bZ O rfl<|eV O O rfl<|eV O O rfl<|eV O O rfl<|eV O O rfl<|uQ<|aE (v:=B true) rfl<|aa<|cC rfl<|SR<|va (v:=B false) rfl<|aa<|ai<|oB O ?_ aZ
  exact(KB J).symm
 refine V (fA dL 1 O gJ O)<|lV dA aZ 0 O O rfl<|V (aA (hs.aL.sl.hp aZ) O dA O)<|V (cD O O)<|mB rfl<|mB rfl<|bM 14 O (fun h7=> ?_) (fun h7=> ?_)
 .refine eV O O rfl<|eV O O rfl<|eV O O rfl<|eV O O rfl<|uQ<|aE (v:=B true) rfl<|aa<|cC rfl<|SR<|va (v:=B false) rfl<|aa<|ai<|oB O ?_ aZ
  exact(KB J).symm
 refine V (fA dL 0 O nS O)<|V (aC xg O O (aZ.cell (i:=0) O (v:=B _) O))<|V (bO O)<|mB rfl<|fO 18 O (fun h10=> ?_) (fun h10=> ?_)
 .refine V (fA dL 1 O gJ O)<|lV dA aZ 0 O O rfl<|V (aA (hs.aL.sl.hp aZ) O dA O)<|V (ke O O)<|mB rfl<|mB rfl<|aa<|aD O (fun h12=> ?_) (fun h12=> ?_)
  .refine SR<|va (v:=B false) rfl<|aa<|ai<|oB O ?_ aZ
   exact(aaL (by exact nt aK) J).symm
  refine ak<|ag<|SR<|va (v:=I 0) rfl<|aa<|ay<|have hc2:s.sh.tuple=true\/s.sh.aL.length=1:=(by exact .inr J);have YK:1<=s.aL.length/\s.aL.length<=8:=J;bk (G:=Int) (fun k s' w'=>(Fr (2::3::(rg 25 14 [])) _ s')/\(Hp w w' _)/\(s' 3=I k)/\(0<=k)/\(k<=s.aL.length)/\(∀j:Int,0<=j->j<k->cR (s.aL.getD j.toNat bI).fc=true)) (fun k=>(s.aL.length-k).toNat) (0) ⟨Fr.refl _ _,aZ,rfl,J,J,fun j a b=>absurd b J⟩<| ?_
  rintro k aeh Bw ⟨tH,cm,AX,h0,hk,hg⟩
  have GN:=tH.w1 1
  refine ag<|SR<|aE AX<|V (fA dL 1 O gJ GN)<|lV dA cm 0 O O rfl<|V (aA (hs.aL.sl.hp cm) O dA O)<|V (aM O O)<|aa<|aD O (fun J4=> ?_) (fun J4=> ?_)
  .refine ak<|ag<|ay<|SR<|V (fA dL 1 O gJ GN)<|lV dA cm 0 O O rfl<|aE AX<|V (ah (hs.aL.sl.hp cm) dA rM O O J)<|V (eF (dv:=bI) fI (hs.aL.sl.hp cm) cV O O O J)<|aG O cm (qh _ _ ((hs.at J J).mono cm.kw)) (an call112 O)<|fun J5 dS=>V (bO O)<|aa<|bW O (fun KP=> ?_) (fun KP=> ?_)
   .refine SR<|va (v:=B false) rfl<|aa<|ai<|oB O ?_ dS
    exact(KC (k:=k) h0 J HM).symm
   refine ak<|aq<|aE AX<|V (ax O O J)<|aI rfl<|aa<| ?_
   refine⟨k+1,aT,tH.u4.u4.u4.u1.u1.u1,dS,(aJ I aO),J,J,?_⟩
   exact fun j a b=>if e:j=k then e▸nf ‹_›else hg j a J
  refine aY (id:=0) rfl<|SR<|va (v:=B true) rfl<|aa<|ai<|oB O ?_ cm
  exact(KD (k:=k) J hc2 J fun j a b=>by rw[iK];exact hg j a b).symm
 refine aE (v:=B false) rfl<|mB rfl<|aa<|cL rfl<|ak<|ag<|SR<|va (v:=I 0) rfl<|aa<|ay<|have hc2:s.sh.tuple=true\/s.sh.aL.length=1:=(by exact .inl (nf ‹(!s.tuple)=false›));have YK:1<=s.aL.length/\s.aL.length<=8:=J;bk (G:=Int) (fun k s' w'=>(Fr (2::3::(rg 25 14 [])) _ s')/\(Hp w w' _)/\(s' 3=I k)/\(0<=k)/\(k<=s.aL.length)/\(∀j:Int,0<=j->j<k->cR (s.aL.getD j.toNat bI).fc=true)) (fun k=>(s.aL.length-k).toNat) (0) ⟨Fr.refl _ _,aZ,rfl,J,J,fun j a b=>absurd b J⟩<| ?_
 rintro k aEw Qu ⟨aee,fB,Nv,h0,hk,hg⟩
 have apT:=aee.w1 1
 refine ag<|SR<|aE Nv<|V (fA dL 1 O gJ apT)<|lV dA fB 0 O O rfl<|V (aA (hs.aL.sl.hp fB) O dA O)<|V (aM O O)<|aa<|aD O (fun DN=> ?_) (fun DN=> ?_)
 .refine ak<|ag<|ay<|SR<|V (fA dL 1 O gJ apT)<|lV dA fB 0 O O rfl<|aE Nv<|V (ah (hs.aL.sl.hp fB) dA rM O O J)<|V (eF (dv:=bI) fI (hs.aL.sl.hp fB) cV O O O J)<|aG O fB (qh _ _ ((hs.at J J).mono fB.kw)) (an call112 O)<|fun w24 og=>V (bO O)<|aa<|bW O (fun h28=> ?_) (fun h28=> ?_)
  .refine SR<|va (v:=B false) rfl<|aa<|ai<|oB O ?_ og
   exact(KC (k:=k) h0 J HM).symm
  refine ak<|aq<|aE Nv<|V (ax O O J)<|aI rfl<|aa<| ?_
  refine⟨k+1,aT,aee.u4.u4.u4.u1.u1.u1,og,(aJ I aO),J,J,?_⟩
  exact fun j a b=>if e:j=k then e▸nf ‹_›else hg j a J
 refine aY (id:=0) rfl<|SR<|va (v:=B true) rfl<|aa<|ai<|oB O ?_ fB
 exact(KD (k:=k) J hc2 J fun j a b=>by rw[iK];exact hg j a b).symm
theorem Bj(f:qk)(s:BitVec 64)(hfr:cR f.fc=true)(w:World)(hf:vR (Kw w) f):Calls Tryz.prog 115 #[.agg (ur f),U s] w (Pure (B (j5 f.fc s)) w):=by
 have hm:=hf.names.sl.small
 unfold maxLen at hm
 refine eH func115 rfl rfl fun hH=>SR<|gV hH (v:= .agg _) rfl<|fun b3 w1 aZ=>va (v:=B false) rfl<|aa<|ag<|SR<|V (fA cV 0 O a8 O)<|lI bf aZ 0 O O rfl<|V (bN O O)<|aa<|aD O (fun h5=> ?_) (fun h5=> ?_)
 .refine SR<|V (fA cV 1 O nQ O)<|lV dO aZ 0 O O rfl<|V (aA (hf.names.sl.hp aZ) O dO O)<|mU rfl<|aG O aZ (zS _ _ _) (aN call152 O O)<|fun w6 eN=> ?_
  refine V (run_move bC) ?_
  refine V (bx O (v:=I _) O)<|V (bx O (v:=B _) O)<|aI rfl<|aB rfl<|aa<|SR<|mB rfl<|aB rfl<|aa<|ai<|oB O ?_ eN
  exact(Pr (f:=f.fc) aK s).symm
 refine ak<|ag<|SR<|V (fA cV 0 O a8 O)<|lI bf aZ 0 O O rfl<|V (bN O O)<|aa<|aD O (fun h10=> ?_) (fun h10=> ?_)
 .refine SR<|mU rfl<|V (fA cV 1 O nQ O)<|lV dO aZ 0 O O rfl<|V (aA (hf.names.sl.hp aZ) O dO O)<|aG O aZ (qS _ _) (an call119 O)<|fun FK cJ=>aG O cJ (CE _ _ _) (aN call55 O O)<|fun Bw cg=>aB rfl<|aa<|ai<|oB O ?_ cg
  exact(Ps (f:=f.fc) aK s).symm
 refine ak<|ag<|SR<|V (fA cV 0 O a8 O)<|lI bf aZ 0 O O rfl<|V (bN O O)<|aa<|aD O (fun J6=> ?_) (fun J6=> ?_)
 .refine SR<|V (fA cV 2 O ij O)<|V (gE bL O O O (aZ.blk (i:=0) O))<|mU rfl<|aG O aZ (Ab _ _ _) (aN call153 O O)<|fun Ou gW=>mU rfl<|V (iZ O O)<|aB rfl<|aa<|ai<|oB O ?_ gW
  exact(arm (f:=f.fc) hfr aK s).symm
 refine ak<|SR<|V (fA cV 2 O ij O)<|V (gE bL O O O (aZ.blk (i:=0) O))<|mU rfl<|aG O aZ (z7 _ _ _) (aN call120 O O)<|fun Qu dm=> ?_
 refine V (run_move bC) ?_
 refine V (bx O (v:=I _) O)<|V (bx O (v:=B _) O)<|aI rfl<|aB rfl<|aa<|SR<|mB rfl<|aB rfl<|aa<|ai<|oB O ?_ dm
 exact(aoN (f:=f.fc) aK aK aK s).symm
theorem m6(s:kW)(e:El)(w:World)(hs:ld (Kw w) s):Calls Tryz.prog 80 #[.agg (q9 s),.agg (jv e)] w (Pure (B (cF s.sh e)) w):=by
 have hsl:=rV s
 have hm:=hs.aL.sl.small
 unfold maxLen at hm
 refine eH func80 rfl rfl fun hH=>SR<|gV hH (v:= .agg _) rfl<|fun b3 w1 aZ=>gV aZ (v:= .agg _) rfl<|fun b6 w4 bP=>va (v:=B false) rfl<|aa<|ag<|SR<|V (cM (cs:=[B _,_]) dL O O O (bp (bP.blk (i:=1) O)))<|aG O bP (mr _ _ (hs.mono bP.kw)) (an call73 O)<|fun w7 eU=>V (bO O)<|aa<|bW O (fun h11=> ?_) (fun h11=> ?_)
 .refine SR<|va (v:=B false) rfl<|aa<|ai<|oB O ?_ eU
  exact(Uo (nt aK)).symm
 refine ak<|ag<|SR<|va (v:=I 0) rfl<|aa<|ay<|have hr:lW s.sh=true:=nf aK;bk (G:=Int) (fun k s' w'=>(Fr (4::5::(rg 9 34 [])) _ s')/\(Hp w w' _)/\(s' 5=I k)/\(0<=k)/\(k<=8)/\(D5 s.sh e k)) (fun k=>(8-k).toNat) (0) ⟨Fr.refl _ _,eU,rfl,J,J,D5.none _ _⟩<| ?_
 rintro k aeg Bv ⟨oz,cJ,mL,h0,hk,hf⟩
 obtain⟨AV,CG⟩:=oz.w2 2 3
 refine ag<|SR<|aE mL<|V (aM O O)<|aa<|aD O (fun KQ=> ?_) (fun KQ=> ?_)
 .refine ak<|ag<|ay<|ag<|ed aP cJ<|fun SY cI=>have s7:=cI;AQ 0 O s7 (run_move mL)<|AQ 1 O s7 (fA dL 1 O gJ AV)<|tV 2 O s7 dA 1 O O rfl<|AT 3 O s7 (fun w hS=>aA (hs.aL.sl.hp hS) O dA O)<|AQ 4 O s7 (aM O O)<|AQ 5 O s7 (mV (B _) O)<|B5 (dj:=18) O (fun pS=> ?_) (fun pS=> ?_)
  .refine BQ 6 O O (bT pS) cI (fA dL 1 O gJ AV)<|AG 7 O O (bT pS) cI (fun w hS=>aC dA O O (hS.cell (i:=1) O O))<|BQ 8 O O (bT pS) cI (run_move mL)<|AG 9 O O (bT pS) cI (fun w hS=>ah (hs.aL.sl.hp hS) dA rM O O J)<|AG 10 O O (bT pS) cI (fun w hS=>eF (dv:=bI) fI (hs.aL.sl.hp hS) cV O O O J)<|BQ 11 O O (bT pS) cI (run_move mL)<|BQ 12 O O (bT pS) cI (bg cH dg CG O J)<|AG 13 O O (bT pS) cI (fun w hS=>aC dZ O O (hS.cell (i:=0) O (n5 _ J)))<|A1 14<|bX O (Aw O (bT pS)) O cI sR (Bj _ _ (by have hat:=TM hr (k:=k) h0 J;rw[iK]at hat;exact hat) _ ((hs.at J J).mono cI.kw)) (aN call115 O O)<|fun VV cS=>BQ 15 O O (bT pS) cS (bO O)<|have Aa:=cS;AQ 16 O Aa (fZ (bT pS) (v:=B _) O)<|AQ 17 O Aa (mV (B _) O)<|Jj (dj:=30) O (fun DN=> ?_) (fun DN=> ?_)
   .refine AK 18 O O (bR (c:=true) DN) cS<|AK 19 O O (bR (c:=true) DN) cS<|AK 20 O O (bR (c:=true) DN) cS<|AK 21 O O (bR (c:=true) DN) cS<|AK 22 O O (bR (c:=true) DN) cS<|AK 23 O O (bR (c:=true) DN) cS<|AU 24 O O O cS<|AU 25 O O O cS<|AU 26 O O O cS<|AU 27 O O O cS<|AK 28 O O (bR (c:=true) DN) cS<|AQ 29 O Aa (fZ (bR (c:=true) DN) (v:=B true) O)<|AD<|cC rfl<|SR<|va (v:=B false) rfl<|aa<|ai<|oB O ?_ cS
    exact(Up h0 aK J HM).symm
   refine BQ 18 O O (bR (c:=false) DN) cS (run_move mL)<|BQ 19 O O (bR (c:=false) DN) cS (fA dL 1 O gJ AV)<|AG 20 O O (bR (c:=false) DN) cS (fun w hS=>aC dA O O (hS.cell (i:=1) O O))<|AG 21 O O (bR (c:=false) DN) cS (fun w hS=>aA (hs.aL.sl.hp hS) O dA O)<|BQ 22 O O (bR (c:=false) DN) cS (dD O O)<|BQ 23 O O (bR (c:=false) DN) cS (mV (B _) O)<|B5 (dj:=36) O (fun GK=> ?_) (fun GK=> ?_)
   .refine BQ 24 O O (bT GK) cS (run_move mL)<|BQ 25 O O (bT GK) cS (bg cH dg CG O J)<|AG 26 O O (bT GK) cS (fun w hS=>aC dZ O O (hS.cell (i:=0) O (n5 _ J)))<|BQ 27 O O (bT GK) cS (uN O (b:=0#64) O)<|BQ 28 O O (bR (c:=false) DN) cS (fZ (bT GK) (v:=B _) O)<|AQ 29 O Aa (dM (bR (c:=false) DN) (v:=B _) O)<|AD<|aD O (fun h27=> ?_) (fun h27=> ?_)
    .refine SR<|va (v:=B false) rfl<|aa<|ai<|oB O ?_ cS
     exact(Mb h0 aK J aK).symm
    refine ak<|aq<|aE mL<|V (ax O O J)<|aI rfl<|aa<| ?_
    refine⟨k+1,aT,oz.u4.u4.u4.u4.u4.u4.u4.u4.u1.u1.u1,cS,(aJ I aO),J,J,?_⟩
    exact hf.next (fun h=>by exfalso;omega) (fun h=>by exact Ht aK)
   refine AK 24 O O (bF GK) cS<|AK 25 O O (bF GK) cS<|AK 26 O O (bF GK) cS<|AK 27 O O (bF GK) cS<|BQ 28 O O (bR (c:=false) DN) cS (dM (bF GK) (v:=B false) O)<|AQ 29 O Aa (dM (bR (c:=false) DN) (v:=B _) O)<|AD<|cL rfl<|ak<|aq<|aE mL<|V (ax O O J)<|aI rfl<|aa<| ?_
   refine⟨k+1,aT,oz.u4.u4.u4.u4.u4.u4.u4.u4.u1.u1.u1,cS,(aJ I aO),J,J,?_⟩
   exact hf.next (fun h=>by rw[iK];exact nf aK) (fun h=>by exfalso;omega)
  refine AK 6 O O (bF pS) cI<|AK 7 O O (bF pS) cI<|AK 8 O O (bF pS) cI<|AK 9 O O (bF pS) cI<|AK 10 O O (bF pS) cI<|AK 11 O O (bF pS) cI<|AK 12 O O (bF pS) cI<|AK 13 O O (bF pS) cI<|AK 14 O O (bF pS) cI<|AK 15 O O (bF pS) cI<|AQ 16 O s7 (dM (bF pS) (v:=B false) O)<|AQ 17 O s7 (mV (B _) O)<|BQ 18 O O O cI (run_move mL)<|BQ 19 O O O cI (fA dL 1 O gJ AV)<|AG 20 O O O cI (fun w hS=>aC dA O O (hS.cell (i:=1) O O))<|AG 21 O O O cI (fun w hS=>aA (hs.aL.sl.hp hS) O dA O)<|BQ 22 O O O cI (dD O O)<|BQ 23 O O O cI (mV (B _) O)<|B5 (dj:=36) O (fun rp=> ?_) (fun rp=> ?_)
  .refine BQ 24 O O (bT rp) cI (run_move mL)<|BQ 25 O O (bT rp) cI (bg cH dg CG O J)<|AG 26 O O (bT rp) cI (fun w hS=>aC dZ O O (hS.cell (i:=0) O (n5 _ J)))<|BQ 27 O O (bT rp) cI (uN O (b:=0#64) O)<|BQ 28 O O O cI (fZ (bT rp) (v:=B _) O)<|AQ 29 O s7 (dM O (v:=B _) O)<|AD<|aD O (fun h31=> ?_) (fun h31=> ?_)
   .refine SR<|va (v:=B false) rfl<|aa<|ai<|oB O ?_ cI
    exact(Mb h0 aK J aK).symm
   refine ak<|aq<|aE mL<|V (ax O O J)<|aI rfl<|aa<| ?_
   refine⟨k+1,aT,oz.u4.u4.u4.u4.u4.u4.u4.u4.u1.u1.u1,cI,(aJ I aO),J,J,?_⟩
   exact hf.next (fun h=>by exfalso;omega) (fun h=>by exact Ht aK)
  refine AK 24 O O (bF rp) cI<|AK 25 O O (bF rp) cI<|AK 26 O O (bF rp) cI<|AK 27 O O (bF rp) cI<|BQ 28 O O O cI (dM (bF rp) (v:=B false) O)<|AQ 29 O s7 (dM O (v:=B _) O)<|AD<|cL rfl<|ak<|aq<|aE mL<|V (ax O O J)<|aI rfl<|aa<| ?_
  refine⟨k+1,aT,oz.u4.u4.u4.u4.u4.u4.u4.u4.u1.u1.u1,cI,(aJ I aO),J,J,?_⟩
  exact hf.next (fun h=>by exfalso;omega) (fun h=>by exfalso;omega)
 refine aY (id:=0) rfl<|SR<|va (v:=B true) rfl<|aa<|ai<|oB O ?_ cJ
 exact(Mc hr aK hf).symm
theorem yy(s:kW)(w:World)(hs:ld (Kw w) s):Calls Tryz.prog 69 #[.agg (q9 s)] w (Pure (I (df s.sh)) w):=by
 have hsl:=rV s
 have hm:=hs.aL.sl.small
 unfold maxLen at hm
 refine eH func69 rfl rfl fun hH=>SR<|gV hH (v:= .agg _) rfl<|fun b3 w1 aZ=>va (v:=I 0) rfl<|aa<|SR<|va (v:=I 0) rfl<|aa<|ag<|SR<|va (v:=I 0) rfl<|aa<|ay<|bk (G:=Int×Int) (fun⟨k,m⟩ s' w'=>(Fr (rg 3 48 []) _ s')/\(Hp w w' _)/\(s' 3=I m)/\(s' 4=I k)/\(0<=k)/\(lW s.sh=true->k<=s.aL.length)/\(lW s.sh=true->m=x8 s.sh k)/\(lW s.sh=false->m=0)) (fun⟨k,m⟩=>(9-k).toNat) ((0,0)) ⟨Fr.refl _ _,aZ,rfl,rfl,J,(fun h=>J),(fun _=>rfl),fun _=>rfl⟩<| ?_
 rintro⟨k,m⟩ sg4 w4 ⟨ux,gy,oc,uy,h0,hk,xT,hz⟩
 have sv:=ux.w1 1
 refine ag<|SR<|V (cM (cs:=[B _,_]) dL O O sv (bp (gy.blk (i:=0) O)))<|aG O gy (mr _ _ (hs.mono gy.kw)) (an call73 O)<|fun w5 iT=>mB rfl<|fO 9 O (fun h8=> ?_) (fun h8=> ?_)
 .refine aE uy<|V (fA dL 1 O gJ sv)<|lV dA iT 0 O O rfl<|V (aA (hs.aL.sl.hp iT) O dA O)<|V (aM O O)<|mB rfl<|aa<|aD O (fun h10=> ?_) (fun h10=> ?_)
  .refine ak<|ag<|ay<|SR<|V (fA dL 1 O gJ sv)<|lV dA iT 0 O O rfl<|aE uy<|V (ah (hs.aL.sl.hp iT) dA rM O O J)<|V (eF (dv:=bI) fI (hs.aL.sl.hp iT) cV O O O J)<|nu iT (aW s5)<|fun KR FK cJ=>bt cJ (i:=0) O (rW (hs.at J J) O O O (cJ.blk (i:=0) O))<|fun Np fp=>aa<|SR<|V (fA cV 1 O nQ O)<|lV dO fp 0 O O rfl<|V (aA ((hs.at J J).names.sl.hp fp) O dO O)<|V (fF O O sD)<|aI rfl<|aa<|ag<|SR<|V (fA cV 0 O a8 O)<|lI bf fp 0 O O rfl<|V (bN O O)<|aa<|aD O (fun J6=> ?_) (fun J6=> ?_)
   .refine aq<|V (fA cV 1 O nQ O)<|lV dO fp 0 O O rfl<|V (aA ((hs.at J J).names.sl.hp fp) O dO O)<|aI rfl<|aa<|ag<|SR<|V (fA cV 0 O a8 O)<|lI bf fp 0 O O rfl<|V (bN O O)<|aa<|aD O (fun J1=> ?_) (fun J1=> ?_)
    .refine aq<|V (fA cV 2 O ij O)<|V (gE bL O O O (fp.blk (i:=0) O))<|aG O fp (qf _ _) (an call108 O)<|fun w20 fB=>aI rfl<|aa<|ag<|SR<|V (fA cV 0 O a8 O)<|lI bf fB 0 O O rfl<|V (bN O O)<|aa<|aD O (fun DN=> ?_) (fun DN=> ?_)
     .refine aq<|V (fA cV 2 O ij O)<|V (gE bL O O O (fB.blk (i:=0) O))<|aG O fB (kf _ _) (an call109 O)<|fun w24 og=> ?_
      refine V (run_move bC) ?_
      refine V (bx O (v:=I _) O)<|V (bx O (v:=B _) O)<|aI rfl<|aa<|aq<|aE oc<|mI rfl<|V (ax O O sD)<|aI rfl<|aa<|aq<|aE uy<|V (ax O O sD)<|aI rfl<|aa<| ?_
      refine⟨(k+1,_),?_,ux.u4.u4.u4.u4.u4.u4.u4.u4.u4.u4.u4.u4.u1.u1.u1,(og.sub (sQ sR)),(aJ I ec),(aJ I ec),J,?_,?_,?_⟩
      .have hln:=(mc ‹lW s.sh=true›).1;((try dsimp only);omega)
      .exact fun h=>by omega
      .exact fun _=>by rw[xT aK,<-qH h0,iK];first|(exfalso;omega)|(have e:((s.aL.getD k.toNat bI).names.length:Int)=eu (s.aL.getD k.toNat bI).fc:=Ce (f:=(s.aL.getD k.toNat bI).fc) (show(s.aL.getD k.toNat bI).kind=2 from aK);omega)|(have e:kN (s.aL.getD k.toNat bI).rel=eu (s.aL.getD k.toNat bI).fc:=za (f:=(s.aL.getD k.toNat bI).fc) (show(s.aL.getD k.toNat bI).kind=3 from aK);omega)|(have e:(qx (s.aL.getD k.toNat bI).rel).1=eu (s.aL.getD k.toNat bI).fc:=zc (f:=(s.aL.getD k.toNat bI).fc) (show(s.aL.getD k.toNat bI).kind=4 from aK);omega)|(have e:((s.aL.getD k.toNat bI).names.length:Int)-1=eu (s.aL.getD k.toNat bI).fc:=Cd (f:=(s.aL.getD k.toNat bI).fc) BT (show¬(s.aL.getD k.toNat bI).kind=2 from aK) (show¬(s.aL.getD k.toNat bI).kind=3 from aK) (show¬(s.aL.getD k.toNat bI).kind=4 from aK);omega)
      exact fun h=>by rw[‹lW s.sh=true›]at h;cases h
     refine ak<|aq<|aE oc<|mI rfl<|V (ax O O sD)<|aI rfl<|aa<|aq<|aE uy<|V (ax O O sD)<|aI rfl<|aa<| ?_
     refine⟨(k+1,_),?_,ux.u4.u4.u4.u4.u4.u4.u4.u4.u4.u4.u4,(fB.sub (sQ sR)),(aJ I ec),(aJ I ec),J,?_,?_,?_⟩
     .have hln:=(mc ‹lW s.sh=true›).1;((try dsimp only);omega)
     .exact fun h=>by omega
     .exact fun _=>by rw[xT aK,<-qH h0,iK];first|(exfalso;omega)|(have e:((s.aL.getD k.toNat bI).names.length:Int)=eu (s.aL.getD k.toNat bI).fc:=Ce (f:=(s.aL.getD k.toNat bI).fc) (show(s.aL.getD k.toNat bI).kind=2 from aK);omega)|(have e:kN (s.aL.getD k.toNat bI).rel=eu (s.aL.getD k.toNat bI).fc:=za (f:=(s.aL.getD k.toNat bI).fc) (show(s.aL.getD k.toNat bI).kind=3 from aK);omega)|(have e:(qx (s.aL.getD k.toNat bI).rel).1=eu (s.aL.getD k.toNat bI).fc:=zc (f:=(s.aL.getD k.toNat bI).fc) (show(s.aL.getD k.toNat bI).kind=4 from aK);omega)|(have e:((s.aL.getD k.toNat bI).names.length:Int)-1=eu (s.aL.getD k.toNat bI).fc:=Cd (f:=(s.aL.getD k.toNat bI).fc) BT (show¬(s.aL.getD k.toNat bI).kind=2 from aK) (show¬(s.aL.getD k.toNat bI).kind=3 from aK) (show¬(s.aL.getD k.toNat bI).kind=4 from aK);omega)
     exact fun h=>by rw[‹lW s.sh=true›]at h;cases h
    refine ak<|ag<|SR<|V (fA cV 0 O a8 O)<|lI bf fp 0 O O rfl<|V (bN O O)<|aa<|aD O (fun h28=> ?_) (fun h28=> ?_)
    .refine aq<|V (fA cV 2 O ij O)<|V (gE bL O O O (fp.blk (i:=0) O))<|aG O fp (kf _ _) (an call109 O)<|fun w29 jf=> ?_
     refine V (run_move bC) ?_
     refine V (bx O (v:=I _) O)<|V (bx O (v:=B _) O)<|aI rfl<|aa<|aq<|aE oc<|mI rfl<|V (ax O O sD)<|aI rfl<|aa<|aq<|aE uy<|V (ax O O sD)<|aI rfl<|aa<| ?_
     refine⟨(k+1,_),?_,ux.u4.u4.u4.u4.u4.u4.u4.u4.u4.u4.u4.u1.u1.u1,(jf.sub (sQ sR)),(aJ I ec),(aJ I ec),J,?_,?_,?_⟩
     .have hln:=(mc ‹lW s.sh=true›).1;((try dsimp only);omega)
     .exact fun h=>by omega
     .exact fun _=>by rw[xT aK,<-qH h0,iK];first|(exfalso;omega)|(have e:((s.aL.getD k.toNat bI).names.length:Int)=eu (s.aL.getD k.toNat bI).fc:=Ce (f:=(s.aL.getD k.toNat bI).fc) (show(s.aL.getD k.toNat bI).kind=2 from aK);omega)|(have e:kN (s.aL.getD k.toNat bI).rel=eu (s.aL.getD k.toNat bI).fc:=za (f:=(s.aL.getD k.toNat bI).fc) (show(s.aL.getD k.toNat bI).kind=3 from aK);omega)|(have e:(qx (s.aL.getD k.toNat bI).rel).1=eu (s.aL.getD k.toNat bI).fc:=zc (f:=(s.aL.getD k.toNat bI).fc) (show(s.aL.getD k.toNat bI).kind=4 from aK);omega)|(have e:((s.aL.getD k.toNat bI).names.length:Int)-1=eu (s.aL.getD k.toNat bI).fc:=Cd (f:=(s.aL.getD k.toNat bI).fc) BT (show¬(s.aL.getD k.toNat bI).kind=2 from aK) (show¬(s.aL.getD k.toNat bI).kind=3 from aK) (show¬(s.aL.getD k.toNat bI).kind=4 from aK);omega)
     exact fun h=>by rw[‹lW s.sh=true›]at h;cases h
    refine ak<|aq<|aE oc<|mI rfl<|V (ax O O sD)<|aI rfl<|aa<|aq<|aE uy<|V (ax O O sD)<|aI rfl<|aa<| ?_
    refine⟨(k+1,_),?_,ux.u4.u4.u4.u4.u4.u4.u4.u4.u4.u4,(fp.sub (sQ sR)),(aJ I ec),(aJ I ec),J,?_,?_,?_⟩
    .have hln:=(mc ‹lW s.sh=true›).1;((try dsimp only);omega)
    .exact fun h=>by omega
    .exact fun _=>by rw[xT aK,<-qH h0,iK];first|(exfalso;omega)|(have e:((s.aL.getD k.toNat bI).names.length:Int)=eu (s.aL.getD k.toNat bI).fc:=Ce (f:=(s.aL.getD k.toNat bI).fc) (show(s.aL.getD k.toNat bI).kind=2 from aK);omega)|(have e:kN (s.aL.getD k.toNat bI).rel=eu (s.aL.getD k.toNat bI).fc:=za (f:=(s.aL.getD k.toNat bI).fc) (show(s.aL.getD k.toNat bI).kind=3 from aK);omega)|(have e:(qx (s.aL.getD k.toNat bI).rel).1=eu (s.aL.getD k.toNat bI).fc:=zc (f:=(s.aL.getD k.toNat bI).fc) (show(s.aL.getD k.toNat bI).kind=4 from aK);omega)|(have e:((s.aL.getD k.toNat bI).names.length:Int)-1=eu (s.aL.getD k.toNat bI).fc:=Cd (f:=(s.aL.getD k.toNat bI).fc) BT (show¬(s.aL.getD k.toNat bI).kind=2 from aK) (show¬(s.aL.getD k.toNat bI).kind=3 from aK) (show¬(s.aL.getD k.toNat bI).kind=4 from aK);omega)
    exact fun h=>by rw[‹lW s.sh=true›]at h;cases h
   refine ak<|ag<|SR<|V (fA cV 0 O a8 O)<|lI bf fp 0 O O rfl<|V (bN O O)<|aa<|aD O (fun h33=> ?_) (fun h33=> ?_)
   .refine aq<|V (fA cV 2 O ij O)<|V (gE bL O O O (fp.blk (i:=0) O))<|aG O fp (qf _ _) (an call108 O)<|fun w34 tJ=>aI rfl<|aa<|ag<|SR<|V (fA cV 0 O a8 O)<|lI bf tJ 0 O O rfl<|V (bN O O)<|aa<|aD O (fun h37=> ?_) (fun h37=> ?_)
    .refine aq<|V (fA cV 2 O ij O)<|V (gE bL O O O (tJ.blk (i:=0) O))<|aG O tJ (kf _ _) (an call109 O)<|fun w38 m5=> ?_
     refine V (run_move bC) ?_
     refine V (bx O (v:=I _) O)<|V (bx O (v:=B _) O)<|aI rfl<|aa<|aq<|aE oc<|mI rfl<|V (ax O O sD)<|aI rfl<|aa<|aq<|aE uy<|V (ax O O sD)<|aI rfl<|aa<| ?_
     refine⟨(k+1,_),?_,ux.u4.u4.u4.u4.u4.u4.u4.u4.u4.u4.u4.u1.u1.u1,(m5.sub (sQ sR)),(aJ I ec),(aJ I ec),J,?_,?_,?_⟩
     .have hln:=(mc ‹lW s.sh=true›).1;((try dsimp only);omega)
     .exact fun h=>by omega
     .exact fun _=>by rw[xT aK,<-qH h0,iK];first|(exfalso;omega)|(have e:((s.aL.getD k.toNat bI).names.length:Int)=eu (s.aL.getD k.toNat bI).fc:=Ce (f:=(s.aL.getD k.toNat bI).fc) (show(s.aL.getD k.toNat bI).kind=2 from aK);omega)|(have e:kN (s.aL.getD k.toNat bI).rel=eu (s.aL.getD k.toNat bI).fc:=za (f:=(s.aL.getD k.toNat bI).fc) (show(s.aL.getD k.toNat bI).kind=3 from aK);omega)|(have e:(qx (s.aL.getD k.toNat bI).rel).1=eu (s.aL.getD k.toNat bI).fc:=zc (f:=(s.aL.getD k.toNat bI).fc) (show(s.aL.getD k.toNat bI).kind=4 from aK);omega)|(have e:((s.aL.getD k.toNat bI).names.length:Int)-1=eu (s.aL.getD k.toNat bI).fc:=Cd (f:=(s.aL.getD k.toNat bI).fc) BT (show¬(s.aL.getD k.toNat bI).kind=2 from aK) (show¬(s.aL.getD k.toNat bI).kind=3 from aK) (show¬(s.aL.getD k.toNat bI).kind=4 from aK);omega)
     exact fun h=>by rw[‹lW s.sh=true›]at h;cases h
    refine ak<|aq<|aE oc<|mI rfl<|V (ax O O sD)<|aI rfl<|aa<|aq<|aE uy<|V (ax O O sD)<|aI rfl<|aa<| ?_
    refine⟨(k+1,_),?_,ux.u4.u4.u4.u4.u4.u4.u4.u4.u4.u4,(tJ.sub (sQ sR)),(aJ I ec),(aJ I ec),J,?_,?_,?_⟩
    .have hln:=(mc ‹lW s.sh=true›).1;((try dsimp only);omega)
    .exact fun h=>by omega
    .exact fun _=>by rw[xT aK,<-qH h0,iK];first|(exfalso;omega)|(have e:((s.aL.getD k.toNat bI).names.length:Int)=eu (s.aL.getD k.toNat bI).fc:=Ce (f:=(s.aL.getD k.toNat bI).fc) (show(s.aL.getD k.toNat bI).kind=2 from aK);omega)|(have e:kN (s.aL.getD k.toNat bI).rel=eu (s.aL.getD k.toNat bI).fc:=za (f:=(s.aL.getD k.toNat bI).fc) (show(s.aL.getD k.toNat bI).kind=3 from aK);omega)|(have e:(qx (s.aL.getD k.toNat bI).rel).1=eu (s.aL.getD k.toNat bI).fc:=zc (f:=(s.aL.getD k.toNat bI).fc) (show(s.aL.getD k.toNat bI).kind=4 from aK);omega)|(have e:((s.aL.getD k.toNat bI).names.length:Int)-1=eu (s.aL.getD k.toNat bI).fc:=Cd (f:=(s.aL.getD k.toNat bI).fc) BT (show¬(s.aL.getD k.toNat bI).kind=2 from aK) (show¬(s.aL.getD k.toNat bI).kind=3 from aK) (show¬(s.aL.getD k.toNat bI).kind=4 from aK);omega)
    exact fun h=>by rw[‹lW s.sh=true›]at h;cases h
   refine ak<|ag<|SR<|V (fA cV 0 O a8 O)<|lI bf fp 0 O O rfl<|V (bN O O)<|aa<|aD O (fun h42=> ?_) (fun h42=> ?_)
   .refine aq<|V (fA cV 2 O ij O)<|V (gE bL O O O (fp.blk (i:=0) O))<|aG O fp (kf _ _) (an call109 O)<|fun w43 vC=> ?_
    refine V (run_move bC) ?_
    refine V (bx O (v:=I _) O)<|V (bx O (v:=B _) O)<|aI rfl<|aa<|aq<|aE oc<|mI rfl<|V (ax O O sD)<|aI rfl<|aa<|aq<|aE uy<|V (ax O O sD)<|aI rfl<|aa<| ?_
    refine⟨(k+1,_),?_,ux.u4.u4.u4.u4.u4.u4.u4.u4.u4.u4.u1.u1.u1,(vC.sub (sQ sR)),(aJ I ec),(aJ I ec),J,?_,?_,?_⟩
    .have hln:=(mc ‹lW s.sh=true›).1;((try dsimp only);omega)
    .exact fun h=>by omega
    .exact fun _=>by rw[xT aK,<-qH h0,iK];first|(exfalso;omega)|(have e:((s.aL.getD k.toNat bI).names.length:Int)=eu (s.aL.getD k.toNat bI).fc:=Ce (f:=(s.aL.getD k.toNat bI).fc) (show(s.aL.getD k.toNat bI).kind=2 from aK);omega)|(have e:kN (s.aL.getD k.toNat bI).rel=eu (s.aL.getD k.toNat bI).fc:=za (f:=(s.aL.getD k.toNat bI).fc) (show(s.aL.getD k.toNat bI).kind=3 from aK);omega)|(have e:(qx (s.aL.getD k.toNat bI).rel).1=eu (s.aL.getD k.toNat bI).fc:=zc (f:=(s.aL.getD k.toNat bI).fc) (show(s.aL.getD k.toNat bI).kind=4 from aK);omega)|(have e:((s.aL.getD k.toNat bI).names.length:Int)-1=eu (s.aL.getD k.toNat bI).fc:=Cd (f:=(s.aL.getD k.toNat bI).fc) BT (show¬(s.aL.getD k.toNat bI).kind=2 from aK) (show¬(s.aL.getD k.toNat bI).kind=3 from aK) (show¬(s.aL.getD k.toNat bI).kind=4 from aK);omega)
    exact fun h=>by rw[‹lW s.sh=true›]at h;cases h
   refine ak<|aq<|aE oc<|mI rfl<|V (ax O O sD)<|aI rfl<|aa<|aq<|aE uy<|V (ax O O sD)<|aI rfl<|aa<| ?_
   refine⟨(k+1,_),?_,ux.u4.u4.u4.u4.u4.u4.u4.u4.u4,(fp.sub (sQ sR)),(aJ I ec),(aJ I ec),J,?_,?_,?_⟩
   .have hln:=(mc ‹lW s.sh=true›).1;((try dsimp only);omega)
   .exact fun h=>by omega
   .exact fun _=>by rw[xT aK,<-qH h0,iK];first|(exfalso;omega)|(have e:((s.aL.getD k.toNat bI).names.length:Int)=eu (s.aL.getD k.toNat bI).fc:=Ce (f:=(s.aL.getD k.toNat bI).fc) (show(s.aL.getD k.toNat bI).kind=2 from aK);omega)|(have e:kN (s.aL.getD k.toNat bI).rel=eu (s.aL.getD k.toNat bI).fc:=za (f:=(s.aL.getD k.toNat bI).fc) (show(s.aL.getD k.toNat bI).kind=3 from aK);omega)|(have e:(qx (s.aL.getD k.toNat bI).rel).1=eu (s.aL.getD k.toNat bI).fc:=zc (f:=(s.aL.getD k.toNat bI).fc) (show(s.aL.getD k.toNat bI).kind=4 from aK);omega)|(have e:((s.aL.getD k.toNat bI).names.length:Int)-1=eu (s.aL.getD k.toNat bI).fc:=Cd (f:=(s.aL.getD k.toNat bI).fc) BT (show¬(s.aL.getD k.toNat bI).kind=2 from aK) (show¬(s.aL.getD k.toNat bI).kind=3 from aK) (show¬(s.aL.getD k.toNat bI).kind=4 from aK);omega)
   exact fun h=>by rw[‹lW s.sh=true›]at h;cases h
  refine aY (id:=0) rfl<|SR<|aE oc<|aI rfl<|aa<|ai<|oI O ?_ iT
  first|(rw[hz aK];exact(Ml aK).symm)|(rw[xT aK];exact Py aK (by have:=hk aK;omega))
 refine aE (v:=B false) rfl<|aa<|cL rfl<|aY (id:=0) rfl<|SR<|aE oc<|aI rfl<|aa<|ai<|oI O ?_ iT
 first|(rw[hz aK];exact(Ml aK).symm)|(rw[xT aK];exact Py aK (by have:=hk aK;omega))
theorem CL(s:kW)(w:World)(hs:ld (Kw w) s):Calls Tryz.prog 72 #[.agg (q9 s)] w (Pure (B (Uv s.sh)) w):=by
 have hsl:=rV s
 have hm:=hs.aL.sl.small
 unfold maxLen at hm
 refine eH func72 rfl rfl fun hH=>SR<|gV hH (v:= .agg _) rfl<|fun b3 w1 aZ=>va (v:=B false) rfl<|aa<|ag<|SR<|V (fA dL 1 O gJ O)<|lV dA aZ 0 O O rfl<|V (aA (hs.aL.sl.hp aZ) O dA O)<|V (cD O O)<|aa<|aD O (fun h5=> ?_) (fun h5=> ?_)
 .refine SR<|va (v:=B true) rfl<|aa<|ai<|oB O ?_ aZ
  exact(awj (s:=s.sh) J).symm
 refine ak<|ag<|SR<|va (v:=I 0) rfl<|aa<|ay<|bk (G:=Int) (fun k s' w'=>(Fr (rg 2 4 (rg 10 30 [])) _ s')/\(Hp w w' _)/\(s' 3=I k)/\(0<=k)/\(k<=s.aL.length)/\(∀j:Int,0<=j->j<k->Ox (s.aL.getD j.toNat bI).names=false)) (fun k=>(s.aL.length-k).toNat) (0) ⟨Fr.refl _ _,aZ,rfl,J,J,fun j a b=>absurd b J⟩<| ?_
 rintro k sg6 w6 ⟨Qs,iT,ZU,h0,hk,hg⟩
 have OF:=Qs.w1 1
 refine ag<|SR<|aE ZU<|V (fA dL 1 O gJ OF)<|lV dA iT 0 O O rfl<|V (aA (hs.aL.sl.hp iT) O dA O)<|V (aM O O)<|aa<|aD O (fun h8=> ?_) (fun h8=> ?_)
 .refine ak<|ag<|ay<|SR<|V (fA dL 1 O gJ OF)<|lV dA iT 0 O O rfl<|aE ZU<|V (ah (hs.aL.sl.hp iT) dA rM O O J)<|V (eF (dv:=bI) fI (hs.aL.sl.hp iT) cV O O O J)<|nu iT (aW s5)<|fun VT w9 bV=>bt bV (i:=0) O (rW (hs.at J J) O O O (bV.blk (i:=0) O))<|fun Bv cm=>aa<|ag<|SR<|V (fA cV 1 O nQ O)<|lV dO cm 0 O O rfl<|V (aA ((hs.at J J).names.sl.hp cm) O dO O)<|V (cD O O)<|aa<|aD O (fun J4=> ?_) (fun J4=> ?_)
  .refine SR<|va (v:=B true) rfl<|aa<|ai<|oB O ?_ cm
   exact(aoO (s:=s.sh) (k:=k) h0 J (by rw[iK];(exact arn (by show 70<(s.aL.getD k.toNat bI).names.length;omega)))).symm
  refine ak<|SR<|va (v:=I 0) rfl<|aa<|ay<|have hnb:(s.aL.getD k.toNat bI).names.length<=70:=J;bk (G:=Int) (fun i s' w'=>(Fr (2::(5::(rg 26 14 []))) _ s')/\(Hp w w' _)/\(s' 5=I i)/\(0<=i)/\(i<=(s.aL.getD k.toNat bI).names.length)/\(∀j:Int,0<=j->j<i->¬40<((s.aL.getD k.toNat bI).names.getD j.toNat pM).size)) (fun i=>((s.aL.getD k.toNat bI).names.length-i).toNat) (0) ⟨Fr.refl _ _,cm,rfl,J,J,fun j a b=>absurd b J⟩<| ?_
  rintro i aei J5 ⟨px,cI,Ei,i0,i1,hn⟩
  have NH:=px.w1 4
  have qX:=px.t1 3 ZU
  refine ag<|SR<|aE Ei<|V (fA cV 1 O nQ NH)<|lV dO cI 0 O O rfl<|V (aA ((hs.at J J).names.sl.hp cI) O dO O)<|V (aM O O)<|aa<|aD O (fun pS=> ?_) (fun pS=> ?_)
  .refine ak<|ag<|ay<|SR<|V (fA cV 1 O nQ NH)<|lV dO cI 0 O O rfl<|aE Ei<|V (ah ((hs.at J J).names.sl.hp cI) dO jX O O J)<|V (aC ic O O (((hs.at J J).names.sl.hp cI).cell _ _ (Ca J)))<|V (kV O ic O)<|V (cD O O)<|aa<|aD O (fun KP=> ?_) (fun KP=> ?_)
   .refine SR<|va (v:=B true) rfl<|aa<|ai<|oB O ?_ cI
    exact(aoO (s:=s.sh) (k:=k) h0 J (by rw[iK];(exact aro i0 aK (by show 40<((s.aL.getD k.toNat bI).names.getD i.toNat pM).size;omega)))).symm
   refine ak<|aq<|aE Ei<|V (ax O O J)<|aI rfl<|aa<| ?_
   refine⟨i+1,aT,px.u4.u4.u4.u1.u1.u1,cI,(aJ I aO),J,J,?_⟩
   exact fun j a b=>if e:j=i then e▸(by omega)else hn j a J
  refine aY (id:=2) rfl<|aq<|aE qX<|V (ax O O J)<|aI rfl<|aa<| ?_
  refine⟨k+1,aT,(((Qs.u4.u4.u4.u4).t px O)).u4.u4,(cI.sub (sQ sR)),(aJ I aO),J,J,?_⟩
  exact fun j a b=>if e:j=k then e▸amb J ‹¬i<_› hn else hg j a J
 refine aY (id:=0) rfl<|SR<|va (v:=B false) rfl<|aa<|ai<|oB O ?_ iT
 exact(arp (s:=s.sh) (k:=k) J J fun j a b=>by rw[iK];exact hg j a b).symm
theorem Em(K:Vu)(f:qk)(hn:f.names.length<=1000)(w:World)(hK:Le K (Kw w))(hf:vR K f):Calls Tryz.prog 94 #[.agg (ur f)] w (Jp K (fun K' u=>∃f':qk,u= .agg (ur f')/\f'.fc=f.fc/\vR K' f') w):=by
 refine eH func94 rfl rfl fun hH=>SR<|gV hH (v:= .agg _) rfl<|fun b3 w1 aZ=>nu aZ (aW s5)<|fun b6 w4 bP=>aa<|SR<|xP 0 0 bP (Kr dO jX)<|fun b9 w7 eU=> ?_
 (try simp only[o4]at eU)
 have bV:=eU.EV 0 1 O az
 refine V (fA cV 1 O nQ O)<|lV dO bV 2 O O rfl<|jI O bV (i:=0) O ((hf.mono hK).names.sl.hp bV) O O dO O O (size:=1) (bytes:=16) O O O az iF J gC<|fun v11 Bv cm=>V (fA cV 1 O nQ O)<|have hone:=(bj (cm.get (i:=0) O)).2;bt cm (i:=2) O (YG O O O (bj (cm.get (i:=0) O)).1 hone (cm.blk (i:=2) O))<|fun Np fp=>aa<|SR<|V (x9 cV O O O (fp.blk (i:=2) O))<|bt fp (i:=1) O (YF (adl hf hone) O O O (fp.blk (i:=1) O))<|fun J5 dS=>aa<|ai<| ?_
 obtain⟨Zc,hz,hzv,-⟩:=dS.Yx K
 refine tW O O dS (i:=1) O cV O (by simp only[Aq,fI];rfl) ⟨Zc,hz.sub (ae6 _ _),_,rfl,rfl,⟨?_⟩⟩
 simpa using hzv
theorem AY(K:Vu)(v:Value)(l:List kW)(hl:l.length<=1000)(hfn:∀s∈l,s.aL.length<=1000)(hnn:∀s∈l,∀f∈s.aL,f.names.length<=1000)(w:World)(hK:Le K (Kw w))(hs:Sl w v 2 l.length (l.flatMap zv))(hv:PA K l):Calls Tryz.prog 51 #[v] w (Jp K (fun K' u=>∃p:kW,u= .agg (q9 p)/\p.sh=⟨true,AB l⟩/\ld K' p) w):=by
 refine eH func51 rfl rfl fun hH=>SR<|nu hH (aW Tryz.zeroValue56)<|fun b3 w1 aZ=>aa<|SR<|V (dx (vs:=[(0,B true)]) O ZD)<|nu aZ (aW Tryz.zeroValue56)<|fun b6 w4 bP=>bt bP (i:=0) O (dF (c':=#[B true,.slice none 0 0]) O O O iF (bP.blk (i:=0) O) O)<|fun w7 eU=>have iJ:=eU.fx 88 67;aa<|ag<|SR<| ?_
 refine V (run_move bC) ?_
 refine V (aA (hs.hp iJ) O Ri O)<|aE (v:=I 0) rfl<|aa<|ay<|bk (G:=Int×Value×(List qk)×(List a7)) (fun⟨k,fv0,fs,Z⟩ s' w'=>(Fr (5::(7::(rg 11 20 []))) _ s')/\(Hp w w' (.row fv0 88 67 (fs.length) (fs.flatMap rU):: .blk b6 (.cells (#[B true,fv0]) 56 (0,0))::_::Z))/\(s' 11=I k)/\(0<=k)/\(k<=l.length)/\(fs.map qk.fc=AB (l.take k.toNat))/\(sU (Kz K Z) fs)/\((fs.length:Int)<=1000*k)) (fun⟨k,fv0,fs,Z⟩=>(l.length-k).toNat) ((0,(.slice none 0 0:Value),[],[])) ⟨Fr.refl _ _,iJ,rfl,J,J,rfl,sU.nil _,aF⟩<| ?_
 rintro⟨k,fv0,fs,Z⟩ ZQ GJ ⟨sw,bV,ZV,h0,hk,hm,hF,hb⟩
 obtain⟨GV,py,NO,ato⟩:=sw.w4 2 3 9 10
 refine SR<|V (aM ZV ato)<|aa<|ag<|aD O (fun h12=> ?_) (fun h12=> ?_)
 .refine ak<|ag<|ay<|SR<|V (ah (hs.hp bV) Ri yZ NO ZV J)<|V (eF (dv:=DE) Mm (hs.hp bV) dL O O O J)<|nu bV (aW Tryz.zeroValue56)<|fun b15 Bw cg=>bt cg (i:=0) O (Iq ((hv.mono hK).at J J) O O O (cg.blk (i:=0) O) O)<|fun J5 dS=>aa<|SR<|V (fA dL 1 O gJ O)<|lV dA dS 0 O O rfl<|V (aA (((hv.mono hK).at J J).aL.sl.hp dS) O dA O)<|aE (v:=I 0) rfl<|aa<|ay<|have hfk:=hfn _ (lz (fG (d:=DE) h0 ‹k<l.length›));bk (G:=Int×Value×(List qk)×(List a7)) (fun⟨i,fv1,gs,Z1⟩ s' w'=>(Fr (7::(rg 18 12 [])) _ s')/\(Hp w w' (_:: .row fv1 88 67 (gs.length) (gs.flatMap rU):: .blk b6 (.cells (#[B true,fv1]) 56 (0,0))::_::Z1))/\(s' 18=I i)/\(0<=i)/\(i<=(l.getD k.toNat DE).aL.length)/\(gs.map qk.fc=fs.map qk.fc++((l.getD k.toNat DE).aL.take i.toNat).map qk.fc)/\(sU (Kz K Z1) gs)/\((gs.length:Int)=fs.length+i)) (fun⟨i,fv1,gs,Z1⟩=>((l.getD k.toNat DE).aL.length-i).toNat) ((0,(fv0:Value),fs,Z)) ⟨Fr.refl _ _,dS,rfl,J,J,aF,hF,aF⟩<| ?_
  rintro⟨i,fv1,gs,Z1⟩ asV Ou ⟨xE,dQ,NQ,i0,ik,xT,hF1,hb1⟩
  obtain⟨atp,atq⟩:=xE.w2 16 17
  obtain⟨Ns,atr⟩:=xE.t2 3 py 11 ZV
  refine SR<|V (aM NQ atq)<|aa<|ag<|aD O (fun KP=> ?_) (fun KP=> ?_)
  .refine ak<|ag<|ay<|SR<|V (ah (((hv.mono hK).at J J).aL.sl.hp dQ) dA rM atp NQ J)<|V (eF (dv:=bI) fI (((hv.mono hK).at J J).aL.sl.hp dQ) cV O O O J)<|nu dQ (aW s5)<|fun b23 Qu dm=>bt dm (i:=0) O (rW (((hv.mono hK).at J J).at J J) O O O (dm.blk (i:=0) O))<|fun w24 og=>aa<|gK aP og (sP (sP (sQ (sQ sR))))<|fun V6 dK=>AQ 0 O (dK.sub (sP (sP (sQ (sQ sR))))) (fA dL 1 O gJ Ns)<|AT 2 O (dK.sub (sP (sP (sQ (sQ sR))))) (fun w hS=>x9 cV O O O (hS.blk (i:=0) O))<|gD 1 3 aP ?_ ?_
   .refine cr O aH O dK (sP (sP (sQ (sQ sR)))) (aC dA O O (dK.cell (i:=3) O O))<|A1 3<|agw O aH O dK (sP (sP (sQ (sQ sR)))) (Em K ((l.getD k.toNat DE).aL.getD i.toNat bI) (hnn _ (lz (fG (d:=DE) h0 ‹k<l.length›)) _ (lz (fG (d:=bI) i0 aK))) _ (hK.trans dK.kw) ((hv.at h0 aK).at i0 aK)) (an call94 O)<|fun v32 w33 Z35 ni aEI=>have yw:Hp _ w33 (_::_::_::_::_::(Z35++Z1)):=ni.Jo (L:=[_,_,_,_,_]) (L':=Z1);?_
    obtain⟨f38,rfl,ax0,apU⟩:=aEI
    refine A1 4<|cK O aH O yw (sP (sP (sQ (sQ (sP (sA sR)))))) (f:=fun b=> .slice (some ⟨b,0,none⟩) 1 1) (zw dA O O O (l:=[_]) O az az O)<|fun b43 w41 yx=>A1 5<|lJ O aH O yx (j:=3) O (fun _=>(sQ (sP (sP (sQ (sQ (sP (sA sR)))))))) (Hp.oQ fI yx (i:=0) (l:=[_]) O kU) O O dA O O (size:=67) (bytes:=552) O O O az (Mn apU) XY XU<|fun v46 w44 nn=>AQ 6 O (nn.sub (sQ (sP (sP (sQ (sQ (sP (sA sR)))))))) (fA dL 1 O gJ Ns)<|A1 7<|dU O aH nn (j:=4) O (sQ (sP (sP (sQ (sQ (sP (sA sR))))))) (bQ O O (v:=v46) O (bj (nn.get (i:=3) O)).1 (bj (nn.get (i:=3) O)).2 (nn.blk (i:=4) O) aF)<|fun w49 eT=>AD<|aq<|V (ax NQ O J)<|mI rfl<|aa<| ?_
    refine⟨(i+1,v46,(gs++[f38]),(Z35++Z1)),aT,xE.u4.u4.u4.u1,(Hp.conv (eT.sub (sQ (sQ sR))) aF),(aJ I aO),J,J,?_,?_,?_⟩
    .rw[Ip i0 aK,gz,xT,dG];simp only[lB,BM];rw[ax0]
    .exact(hF1.mono (Le.zz fun y hy=>bG _ hy)).snoc (apU.mono (Le.zz fun y hy=>dy _ hy))
    simp only[cZ,gN];omega
   refine agw O aH O dK (sP (sP (sQ (sQ sR)))) (Em K ((l.getD k.toNat DE).aL.getD i.toNat bI) (hnn _ (lz (fG (d:=DE) h0 ‹k<l.length›)) _ (lz (fG (d:=bI) i0 aK))) _ (hK.trans dK.kw) ((hv.at h0 aK).at i0 aK)) (an call94 O)<|fun v53 w54 Z56 jg aEK=>have vD:Hp _ w54 (_::_::_::_::_::(Z56++Z1)):=jg.Jo (L:=[_,_,_,_,_]) (L':=Z1);?_
   obtain⟨f59,rfl,apV,abY⟩:=aEK
   refine gD 1 4 aP ?_ ?_
   .refine cr O aH O vD (sP (sP (sQ (sQ (sP (sA sR)))))) (aC dA O O (vD.cell (i:=3) O O))<|A1 4<|cK O aH O vD (sP (sP (sQ (sQ (sP (sA sR)))))) (f:=fun b=> .slice (some ⟨b,0,none⟩) 1 1) (zw dA O O O (l:=[_]) O az az O)<|fun b66 w64 Bl=>A1 5<|lJ O aH O Bl (j:=3) O (fun _=>(sQ (sP (sP (sQ (sQ (sP (sA sR)))))))) (Hp.oQ fI Bl (i:=0) (l:=[_]) O kU) O O dA O O (size:=67) (bytes:=552) O O O az (Mn abY) XY XU<|fun v69 w67 mM=>AQ 6 O (mM.sub (sQ (sP (sP (sQ (sQ (sP (sA sR)))))))) (fA dL 1 O gJ Ns)<|A1 7<|dU O aH mM (j:=4) O (sQ (sP (sP (sQ (sQ (sP (sA sR))))))) (bQ O O (v:=v69) O (bj (mM.get (i:=3) O)).1 (bj (mM.get (i:=3) O)).2 (mM.blk (i:=4) O) aF)<|fun w72 wh=>AD<|aq<|V (ax NQ O J)<|mI rfl<|aa<| ?_
    refine⟨(i+1,v69,(gs++[f59]),(Z56++Z1)),aT,xE.u4.u4.u4.u1,(Hp.conv (wh.sub (sQ (sQ sR))) aF),(aJ I aO),J,J,?_,?_,?_⟩
    .rw[Ip i0 aK,gz,xT,dG];simp only[lB,BM];rw[apV]
    .exact(hF1.mono (Le.zz fun y hy=>bG _ hy)).snoc (abY.mono (Le.zz fun y hy=>dy _ hy))
    simp only[cZ,gN];omega
   refine cK O aH O vD (sP (sP (sQ (sQ (sP (sA sR)))))) (f:=fun b=> .slice (some ⟨b,0,none⟩) 1 1) (zw dA O O O (l:=[_]) O az az O)<|fun b76 w74 GY=>A1 1<|cr O aH O GY (sQ (sP (sP (sQ (sQ (sP (sA sR))))))) (aC dA O O (GY.cell (i:=4) O O))<|A1 5<|lJ O aH O GY (j:=3) O (fun _=>(sQ (sP (sP (sQ (sQ (sP (sA sR)))))))) (Hp.oQ fI GY (i:=0) (l:=[_]) O kU) O O dA O O (size:=67) (bytes:=552) O O O az (Mn abY) XY XU<|fun v81 w79 tK=>AQ 6 O (tK.sub (sQ (sP (sP (sQ (sQ (sP (sA sR)))))))) (fA dL 1 O gJ Ns)<|A1 7<|dU O aH tK (j:=4) O (sQ (sP (sP (sQ (sQ (sP (sA sR))))))) (bQ O O (v:=v81) O (bj (tK.get (i:=3) O)).1 (bj (tK.get (i:=3) O)).2 (tK.blk (i:=4) O) aF)<|fun w84 We=>AD<|aq<|V (ax NQ O J)<|mI rfl<|aa<| ?_
   refine⟨(i+1,v81,(gs++[f59]),(Z56++Z1)),aT,xE.u4.u4.u4.u1,(Hp.conv (We.sub (sQ (sQ sR))) aF),(aJ I aO),J,J,?_,?_,?_⟩
   .rw[Ip i0 aK,gz,xT,dG];simp only[lB,BM];rw[apV]
   .exact(hF1.mono (Le.zz fun y hy=>bG _ hy)).snoc (abY.mono (Le.zz fun y hy=>dy _ hy))
   simp only[cZ,gN];omega
  refine aY (id:=2) rfl<|aq<|V (ax atr O J)<|mI rfl<|aa<| ?_
  refine⟨(k+1,fv1,gs,Z1),aT,(((sw.u4.u4).t xE O)).u1.u1.u1,(Hp.conv (dQ.sub (sQ sR)) aO),(aJ I aO),J,J,?_,?_,J⟩
  .rw[adk h0 aK,<-hm,xT,iV J];rfl
  exact hF1
 refine aY (id:=0) rfl<|SR<|V (cM (cs:=[B _,_]) dL O O py (bp (bV.blk (i:=1) O)))<|bt bV (i:=2) O (dF (c':=#[B true,fv0]) O GV O (amc (bj (bV.get (i:=0) O)).2) (bV.blk (i:=2) O) O)<|fun w86 IX=>aa<|ai<| ?_
 obtain⟨Zr,hz,hzv,-⟩:=IX.Yx K
 refine tW (i:=Zr.length+1) results51 GV hz (amd (i:=1) O) dL O O ⟨Zr++Z,hz.sub (List.Sublist.append (.refl _) (sQ (sQ (.refl _)))),⟨true,fv0,fs⟩,rfl,?_,?_,?_⟩
 .rw[kW.sh,hm,agO aK]
 .exact hzv.mono (Le.zz fun y hy=>dy _ hy)
 exact(hF.mono (Le.zz fun y hy=>bG _ hy)).each
theorem CM(s:kE)(w:World)(hs:E5 (Kw w) s):Calls Tryz.prog 32 #[.agg (Ir s)] w (Pure (B (u3 s)) w):=by
 have xT:=hs.au.sl.small
 have Ol:=hs.vars.sl.small
 unfold maxLen at xT Ol
 refine eH func32 rfl rfl fun hH=>SR<|gV hH (v:= .agg _) rfl<|fun b3 w1 aZ=>va (v:=B false) rfl<|aa<|ag<|SR<|V (fA ig 0 O qw O)<|V (cf (hs.au.sl.hp aZ) ku O O (aZ.cell (i:=0) O O))<|V (aA (hs.au.sl.hp aZ) O ku O)<|V (cD O O)<|mB rfl<|bM 11 O (fun h5=> ?_) (fun h5=> ?_)
 .refine aE (v:=B true) rfl<|aa<|cC rfl<|SR<|va (v:=B true) rfl<|aa<|ai<|oB O ?_ aZ
  (rw[u3,gQ J];rfl)
 refine V (fA ig 1 O xk O)<|V (cf (hs.vars.sl.hp aZ) oE O O (aZ.cell (i:=0) O O))<|V (aA (hs.vars.sl.hp aZ) O oE O)<|V (cD O O)<|mB rfl<|aa<|aD O (fun h7=> ?_) (fun h7=> ?_)
 .refine SR<|va (v:=B true) rfl<|aa<|ai<|oB O ?_ aZ
  (rw[u3,gQ J];rfl)
 refine ak<|ag<|SR<|V (fA ig 0 O qw O)<|V (cf (hs.au.sl.hp aZ) ku O O (aZ.cell (i:=0) O O))<|V (aA (hs.au.sl.hp aZ) O ku O)<|aE (v:=I 0) rfl<|aa<|ay<|have hno:¬(20<s.au.length\/80<s.vars.length):=J;bk (G:=Int) (fun k s' w'=>(Fr (2::(4::(rg 20 14 []))) _ s')/\(Hp w w' _)/\(s' 20=I k)/\(0<=k)/\(k<=s.au.length)/\(∀j:Int,0<=j->j<k->Uy (s.au.getD j.toNat me)=false)) (fun k=>(s.au.length-k).toNat) (0) ⟨Fr.refl _ _,aZ,rfl,J,J,fun j a b=>absurd b J⟩<| ?_
 rintro k sg8 w8 ⟨fr8,eU,ajH,h0,hk,hg⟩
 obtain⟨aEO,ax1,ax2⟩:=fr8.w3 1 18 19
 refine SR<|V (aM ajH ax2)<|aa<|ag<|aD O (fun h10=> ?_) (fun h10=> ?_)
 .refine ak<|ag<|ay<|SR<|V (ah (hs.au.sl.hp eU) ku BP ax1 ajH J)<|V (eF (dv:=me) qI (hs.au.sl.hp eU) uI O O O J)<|nu eU (aW VO)<|fun KR FK cJ=>bt cJ (i:=0) O (dF (c':=(Mp _).toArray) O O O (Ux (hs.at J J)) (cJ.blk (i:=0) O) O)<|fun Np fp=>aa<|SR<|V (fA uI 1 O yZ O)<|V (iB (sub:=zv _) dL O O O (fp.blk (i:=0) O) O)<|aG O fp (CL _ _ ((hs.at J J).mono fp.kw)) (an call72 O)<|fun J5 dS=>mB rfl<|fO 27 O (fun J1=> ?_) (fun J1=> ?_)
  .refine aE (v:=B true) rfl<|aa<|cC rfl<|SR<|va (v:=B true) rfl<|aa<|ai<|oB O ?_ dS
   (rw[u3,Gc (d:=me) (P:=Uy) h0 ‹k<_› (by rw[Uy,pE];exact .inl aK)];simp)
  refine V (fA uI 0 O jX O)<|V (aC ic O O (dS.cell (i:=0) O (v:= .string _) O))<|V (kV O ic O)<|V (cD O O)<|mB rfl<|aa<|aD O (fun NA=> ?_) (fun NA=> ?_)
  .refine SR<|va (v:=B true) rfl<|aa<|ai<|oB O ?_ dS
   (rw[u3,Gc (d:=me) (P:=Uy) h0 ‹k<_› (by rw[Uy,pE];exact .inr (gQ J))];simp)
  refine ak<|aq<|V (ax ajH O J)<|mI rfl<|aa<| ?_
  refine⟨k+1,aT,fr8.u4.u4.u4.u1.u1.u1,(dS.sub (sQ sR)),(aJ I aO),J,J,?_⟩
  exact fun j a b=>if e:j=k then e▸(by rw[Uy,Bool.or_eq_false_iff];exact⟨aK,gO J⟩)else hg j a J
 refine aY (id:=0) rfl<|ag<|SR<|V (fA ig 1 O xk aEO)<|V (cf (hs.vars.sl.hp eU) oE O O (eU.cell (i:=0) O O))<|V (aA (hs.vars.sl.hp eU) O oE O)<|aE (v:=I 0) rfl<|aa<|ay<|have hla:s.au.any Uy=false:=R8 (d:=me) aK hg;bk (G:=Int) (fun j s' w'=>(Fr (2::(6::(rg 37 9 []))) _ s')/\(Hp w w' _)/\(s' 37=I j)/\(0<=j)/\(j<=s.vars.length)/\(∀i:Int,0<=i->i<j->arv (s.vars.getD i.toNat gL)=false)) (fun j=>(s.vars.length-j).toNat) (0) ⟨Fr.refl _ _,eU,rfl,J,J,fun j a b=>absurd b J⟩<| ?_
 rintro j axK OO ⟨J7,dm,ZW,j0,jk,hv⟩
 obtain⟨atu,atv⟩:=J7.w2 35 36
 refine SR<|V (aM ZW atv)<|aa<|ag<|aD O (fun AM=> ?_) (fun AM=> ?_)
 .refine ak<|ag<|ay<|SR<|V (ah (hs.vars.sl.hp dm) oE Ln atu ZW J)<|V (eF (dv:=gL) ya (hs.vars.sl.hp dm) pG O O O J)<|nu dm (aW Tryz.zeroValue63)<|fun b27 w25 kG=>bt kG (i:=0) O (dF (c':=(TO _).toArray) O O O X5 (kG.blk (i:=0) O) O)<|fun w28 gG=>aa<|SR<|V (fA pG 0 O jX O)<|V (aC ic O O (gG.cell (i:=0) O (v:= .string _) O))<|V (kV O ic O)<|V (cD O O)<|aa<|aD O (fun h31=> ?_) (fun h31=> ?_)
  .refine SR<|va (v:=B true) rfl<|aa<|ai<|oB O ?_ gG
   (rw[u3,Gc (d:=gL) (P:=arv) j0 ‹j<_› (gQ J)];simp)
  refine ak<|aq<|V (ax ZW O J)<|mI rfl<|aa<| ?_
  refine⟨j+1,aT,J7.u4.u4.u1.u1,(gG.sub (sQ sR)),(aJ I aO),J,J,?_⟩
  exact fun i a b=>if e:i=j then e▸(gO J)else hv i a J
 refine aY (id:=2) rfl<|SR<|va (v:=B false) rfl<|aa<|ai<|oB O ?_ dm
 (rw[u3,hla,R8 (d:=gL) aK hv,gO hno];rfl)
theorem Ad(s:kE)(w:World)(hs:E5 (Kw w) s):Calls Tryz.prog 34 #[.agg (Ir s)] w (Pure (B (gM s)) w):=by
 have xT:=hs.au.sl.small
 have Ol:=hs.vars.sl.small
 unfold maxLen at xT Ol
 refine eH func34 rfl rfl fun hH=>SR<|gV hH (v:= .agg _) rfl<|fun b3 w1 aZ=>va (v:=B false) rfl<|aa<|SR<|va (v:= .slice none 0 0) rfl<|have gy:=aZ.fx 9 1;aa<|ag<|SR<|V (fA ig 0 O qw O)<|V (cf (hs.au.sl.hp gy) ku O O (gy.cell (i:=1) O O))<|V (aA (hs.au.sl.hp gy) O ku O)<|V (cD O O)<|mB rfl<|bM 12 O (fun h6=> ?_) (fun h6=> ?_)
 .refine aE (v:=B true) rfl<|aa<|cC rfl<|SR<|va (v:=B false) rfl<|aa<|ai<|oB O ?_ gy
  exact(PK J).symm
 refine V (fA ig 1 O xk O)<|V (cf (hs.vars.sl.hp gy) oE O O (gy.cell (i:=1) O O))<|V (aA (hs.vars.sl.hp gy) O oE O)<|V (cD O O)<|mB rfl<|aa<|aD O (fun h8=> ?_) (fun h8=> ?_)
 .refine SR<|va (v:=B false) rfl<|aa<|ai<|oB O ?_ gy
  exact(PK J).symm
 refine ak<|ag<|SR<|va (v:=I 0) rfl<|aa<|ay<|have hsz:s.au.length<=16/\s.vars.length<=64:=J;have hnl:(qK s).length=s.au.length+s.vars.length:=(by simp[qK]);bk (G:=Int×(List Tx)×Value) (fun⟨k,m,v3⟩ s' w'=>(Fr (rg 2 3 (rg 18 24 [])) _ s')/\(Hp w w' (.row v3 9 1 (m.length) (Jn m)::_))/\(s' 3=v3)/\(s' 4=I k)/\(0<=k)/\(k<=s.au.length)/\(m=(s.au.take k.toNat).map DF.name)/\((m.length:Int)=k)/\(∀j:Int,0<=j->j<k->lW (s.au.getD j.toNat me).zx.sh=true)) (fun⟨k,m,v3⟩=>(s.au.length-k).toNat) ((0,[],(.slice none 0 0:Value))) ⟨Fr.refl _ _,gy,rfl,rfl,J,J,rfl,rfl,fun j a b=>absurd b J⟩<| ?_
 rintro⟨k,m,v3⟩ sg9 w9 ⟨fr9,iJ,ZK,OP,h0,hk,hm,hml,hg⟩
 have ZJ:=fr9.w1 1
 refine ag<|SR<|aE OP<|V (fA ig 0 O qw ZJ)<|V (cf (hs.au.sl.hp iJ) ku O O (iJ.cell (i:=1) O O))<|V (aA (hs.au.sl.hp iJ) O ku O)<|V (aM O O)<|aa<|aD O (fun h11=> ?_) (fun h11=> ?_)
 .refine ak<|ag<|ay<|ag<|SR<|V (fA ig 0 O qw ZJ)<|V (cf (hs.au.sl.hp iJ) ku O O (iJ.cell (i:=1) O O))<|aE OP<|V (ah (hs.au.sl.hp iJ) ku BP O O J)<|V (fA uI 1 O yZ O)<|V (n4 (dv:=me) (off:=1) (cs:=zv _) qI (hs.au.sl.hp iJ) dL O O O J (Gd _))<|aG O iJ (mr _ _ ((hs.at J J).mono iJ.kw)) (an call73 O)<|fun Bv cm=>V (bO O)<|aa<|bW O (fun wc=> ?_) (fun wc=> ?_)
  .refine SR<|va (v:=B false) rfl<|aa<|ai<|oB O ?_ cm
   exact(adq h0 ‹k<_› (by rw[Mx,nt ‹(!lW _)=true›,KW])).symm
  refine ak<|aq<|aE ZK<|V (fA ig 0 O qw ZJ)<|V (cf (hs.au.sl.hp cm) ku O O (cm.cell (i:=1) O O))<|aE OP<|V (ah (hs.au.sl.hp cm) ku BP O O J)<|V (fA uI 0 O jX O)<|V (fQ (dv:=me) (off:=0) qI (hs.au.sl.hp cm) ic O O J O)<|xP 1 1 cm (cA dO O O (sz:=1) (vs:=[.string _]) O O az az O O)<|fun ZI OM dQ=> ?_
  (try simp only[o4]at dQ)
  refine jI O dQ (i:=1) O (dQ.dV (i:=0) (n:=1) (sz:=1) O O az) O O dO O O (size:=1) (bytes:=16) O O O az iF J gC<|fun v20 Qu dm=> ?_
  refine V (run_assign bC) ?_
  refine aa<|aq<|aE OP<|V (ax O O J)<|aI rfl<|aa<| ?_
  refine⟨(k+1,m++[(s.au.getD k.toNat me).name],v20),aT,fr9.u4.u4.u4.u4.u4.u4.u1.u1,(Hp.conv (dm.sub (sQ sR)) aF),rfl,(aJ I aO),J,J,?_,?_,?_⟩
  .rw[UE h0 ‹k<_›,<-hm]
  .simp only[cZ,gN];omega
  exact fun j a b=>if e:j=k then e▸nf ‹(!lW _)=false›else hg j a J
 refine aY (id:=0) rfl<|ag<|SR<|va (v:=I 0) rfl<|aa<|ay<|bk (G:=Int×(List Tx)×Value) (fun⟨j,m2,v3⟩ s' w'=>(Fr (2::3::(5::6::(rg 42 38 []))) _ s')/\(Hp w w' (.row v3 9 1 (m2.length) (Jn m2)::_))/\(s' 3=v3)/\(s' 5=I j)/\(0<=j)/\(j<=s.vars.length)/\(m2=m++(s.vars.take j.toNat).map vS.name)/\((m2.length:Int)=k+j)/\(∀i:Int,0<=i->i<j->((s.vars.getD i.toNat gL).kind=1\/(s.vars.getD i.toNat gL).kind=2)/\0<=(s.vars.getD i.toNat gL).aX/\(s.vars.getD i.toNat gL).aX<s.au.length)) (fun⟨j,m2,v3⟩=>(s.vars.length-j).toNat) ((0,m,(v3:Value))) ⟨Fr.refl _ _,iJ,ZK,rfl,J,J,(lY m).symm,J,fun j a b=>absurd b J⟩<| ?_
 rintro⟨j,m2,v3⟩ aEP w23 ⟨aen,eO,ajI,abZ,j0,hj,Ol,aNj,hv⟩
 have QB:=aen.t1 1 ZJ
 refine ag<|SR<|aE abZ<|V (fA ig 1 O xk QB)<|V (cf (hs.vars.sl.hp eO) oE O O (eO.cell (i:=1) O O))<|V (aA (hs.vars.sl.hp eO) O oE O)<|V (aM O O)<|aa<|aD O (fun GK=> ?_) (fun GK=> ?_)
 .refine ak<|ag<|ay<|SR<|V (fA ig 1 O xk QB)<|V (cf (hs.vars.sl.hp eO) oE O O (eO.cell (i:=1) O O))<|aE abZ<|V (ah (hs.vars.sl.hp eO) oE Ln O O J)<|V (eF (dv:=gL) ya (hs.vars.sl.hp eO) pG O O O J)<|nu eO (aW Tryz.zeroValue63)<|fun b28 V6 dK=>bt dK (i:=0) O (dF (c':=(TO _).toArray) O O O X5 (dK.blk (i:=0) O) O)<|fun w29 jf=>aa<|ag<|SR<|V (fA pG 1 O a8 O)<|lI bf jf 0 O O rfl<|V (ke O O)<|mB rfl<|bM 57 O (fun IY=> ?_) (fun IY=> ?_)
  .refine V (fA pG 1 O a8 O)<|lI bf jf 0 O O rfl<|V (ke O O)<|mB rfl<|mB rfl<|bM 62 O (fun IS=> ?_) (fun IS=> ?_)
   .refine aE (v:=B true) rfl<|mB rfl<|bZ O rfl<|aE (v:=B true) rfl<|aa<|cC rfl<|SR<|va (v:=B false) rfl<|aa<|ai<|oB O ?_ jf
    exact(yb j0 ‹j<_› Lq).symm
   refine V (fA pG 2 O a8 O)<|lI bf jf 0 O O rfl<|V (aM O O)<|mB rfl<|mB rfl<|bM 67 O (fun h36=> ?_) (fun h36=> ?_)
   .refine aE (v:=B true) rfl<|aa<|cC rfl<|SR<|va (v:=B false) rfl<|aa<|ai<|oB O ?_ jf
    exact(yb j0 ‹j<_› Lq).symm
   refine V (fA pG 2 O a8 O)<|lI bf jf 0 O O rfl<|V (fA ig 0 O qw QB)<|V (cf (hs.au.sl.hp jf) ku O O (jf.cell (i:=2) O O))<|V (aA (hs.au.sl.hp jf) O ku O)<|V (dD O O)<|mB rfl<|aa<|aD O (fun h38=> ?_) (fun h38=> ?_)
   .refine SR<|va (v:=B false) rfl<|aa<|ai<|oB O ?_ jf
    exact(yb j0 ‹j<_› Lq).symm
   refine ak<|aq<|aE ajI<|V (fA pG 0 O jX O)<|V (aC ic O O (jf.cell (i:=0) O (v:= .string _) O))<|xP 1 1 jf (cA dO O O (sz:=1) (vs:=[.string _]) O O az az O O)<|fun b41 w39 oy=> ?_
   (try simp only[o4]at oy)
   refine jI O oy (i:=2) O (oy.dV (i:=0) (n:=1) (sz:=1) O O az) O O dO O O (size:=1) (bytes:=16) O O O az iF J gC<|fun v42 w43 vC=> ?_
   refine V (run_assign bC) ?_
   refine aa<|aq<|aE abZ<|V (ax O O J)<|aI rfl<|aa<| ?_
   refine⟨(j+1,m2++[(s.vars.getD j.toNat gL).name],v42),aT,aen.u4.u4.u4.u4.u4.u4.u4.u4.u4.u4.u1,(Hp.conv (vC.sub (sQ (sQ sR))) aF),rfl,(aJ I aO),J,J,?_,?_,?_⟩
   .rw[Jr j0 ‹j<_›,Ol,dG]
   .simp only[cZ,gN];omega
   exact fun i a b=>if e:i=j then e▸(by omega)else hv i a J
  refine aE (v:=B false) rfl<|mB rfl<|bZ O rfl<|V (fA pG 2 O a8 O)<|lI bf jf 0 O O rfl<|V (aM O O)<|mB rfl<|mB rfl<|bM 67 O (fun h46=> ?_) (fun h46=> ?_)
  .refine aE (v:=B true) rfl<|aa<|cC rfl<|SR<|va (v:=B false) rfl<|aa<|ai<|oB O ?_ jf
   exact(yb j0 ‹j<_› Lq).symm
  refine V (fA pG 2 O a8 O)<|lI bf jf 0 O O rfl<|V (fA ig 0 O qw QB)<|V (cf (hs.au.sl.hp jf) ku O O (jf.cell (i:=2) O O))<|V (aA (hs.au.sl.hp jf) O ku O)<|V (dD O O)<|mB rfl<|aa<|aD O (fun h48=> ?_) (fun h48=> ?_)
  .refine SR<|va (v:=B false) rfl<|aa<|ai<|oB O ?_ jf
   exact(yb j0 ‹j<_› Lq).symm
  refine ak<|aq<|aE ajI<|V (fA pG 0 O jX O)<|V (aC ic O O (jf.cell (i:=0) O (v:= .string _) O))<|xP 1 1 jf (cA dO O O (sz:=1) (vs:=[.string _]) O O az az O O)<|fun b51 w49 eT=> ?_
  (try simp only[o4]at eT)
  refine jI O eT (i:=2) O (eT.dV (i:=0) (n:=1) (sz:=1) O O az) O O dO O O (size:=1) (bytes:=16) O O O az iF J gC<|fun v52 w53 gH=> ?_
  refine V (run_assign bC) ?_
  refine aa<|aq<|aE abZ<|V (ax O O J)<|aI rfl<|aa<| ?_
  refine⟨(j+1,m2++[(s.vars.getD j.toNat gL).name],v52),aT,aen.u4.u4.u4.u4.u4.u4.u4.u4.u4.u4.u1,(Hp.conv (gH.sub (sQ (sQ sR))) aF),rfl,(aJ I aO),J,J,?_,?_,?_⟩
  .rw[Jr j0 ‹j<_›,Ol,dG]
  .simp only[cZ,gN];omega
  exact fun i a b=>if e:i=j then e▸(by omega)else hv i a J
 refine aY (id:=2) rfl<|ag<|SR<|va (v:=I 0) rfl<|aa<|ay<|have hnm:m2=qK s:=(by rw[Ol,hm,iV J,iV J];rfl);bk (G:=Int) (fun i s' w'=>(Fr (2::(7::(rg 80 12 []))) _ s')/\(Hp w w' _)/\(s' 7=I i)/\(0<=i)/\(i<=m2.length)/\(∀x:Int,0<=x->x<i->iG (m2.getD x.toNat pM)=true)) (fun i=>(m2.length-i).toNat) (0) ⟨Fr.refl _ _,eO,rfl,J,J,fun j a b=>absurd b J⟩<| ?_
 rintro i ax3 w55 ⟨NR,jg,Wf,i0,i1,hn⟩
 have NS:=NR.t1 3 ajI
 refine ag<|SR<|aE Wf<|aE NS<|V (aA (jg.sl (i:=0) O) O dO O)<|V (aM O O)<|aa<|aD O (fun OW=> ?_) (fun OW=> ?_)
 .refine ak<|ag<|ay<|SR<|aE NS<|aE Wf<|V (ah (jg.sl (i:=0) O) dO jX O O J)<|V (aC ic O O ((jg.sl (i:=0) O).cell _ _ (Ca J)))<|aG O jg (iz _ _) (an call74 O)<|fun w58 Bm=>V (bO O)<|aa<|bW O (fun h62=> ?_) (fun h62=> ?_)
  .refine SR<|va (v:=B false) rfl<|aa<|ai<|oB O ?_ Bm
   exact(YL i0 (by rw[hnm]at*;omega) (by rw[<-hnm];exact nt ‹(!iG _)=true›)).symm
  refine ak<|aq<|aE Wf<|V (ax O O J)<|aI rfl<|aa<| ?_
  refine⟨i+1,aT,NR.u4.u4.u4.u1,Bm,(aJ I aO),J,J,?_⟩
  exact fun x a b=>if e:x=i then e▸nf ‹(!iG _)=false›else hn x a J
 refine aY (id:=4) rfl<|SR<|aE NS<|aG O jg (jP _ _ _ (jg.sl (i:=0) O)) (an call75 O)<|fun w63 uz=>V (aM O O)<|aB rfl<|aa<|ai<|oB O ?_ uz
 (rw[hnm]at*;exact(ads hk hj hsz ‹¬k<_› hg ‹¬j<_› hv ‹¬i<_› hn).symm)
theorem GZ(v:Value)(l:List dz)(w:World)(hs:Sl w v 10 l.length (l.flatMap j6)):Calls Tryz.prog 103 #[v] w (Pure (B (gq l)) w):=by
 have hm:=hs.small
 unfold maxLen at hm
 refine eH func103 rfl rfl fun hH=>SR<|va (v:=B false) rfl<|aa<|SR<|va (v:=I 0) rfl<|aa<|ag<|SR<| ?_
 refine V (run_move bC) ?_
 refine V (aA (hs.hp hH) O gI O)<|aE (v:=I 0) rfl<|aa<|ay<|bk (G:=Int×Int) (fun⟨k,d⟩ s' w'=>(Fr (2::3::(5::(rg 8 29 []))) _ s')/\(Hp w w' _)/\(s' 3=I d)/\(s' 8=I k)/\(0<=k)/\(k<=l.length)/\(jx l k=some d)) (fun⟨k,d⟩=>(l.length-k).toNat) ((0,0)) ⟨Fr.refl _ _,hH,rfl,rfl,J,J,Dr l⟩<| ?_
 rintro⟨k,d⟩ sg1 w1 ⟨ug,iI,sr,OG,h0,hk,hd⟩
 obtain⟨OH,VQ⟩:=ug.w2 6 7
 have hdb:=Sd h0 hk hd
 refine SR<|V (aM OG VQ)<|aa<|ag<|aD O (fun h3=> ?_) (fun h3=> ?_)
 .refine ak<|ag<|ay<|SR<|V (ah (hs.hp iI) gI nR OH OG J)<|V (eF (dv:=cB) gj (hs.hp iI) eD O O O J)<|nu iI (aW CB)<|fun b6 w4 bP=>bt bP (i:=0) O (dF (c':=(j6 _).toArray) O O O (yd _) (bP.blk (i:=0) O) O)<|fun w7 eU=>aa<|SR<|V (fA eD 0 O a8 O)<|lI bf eU 0 O O rfl<|aa<|ay<|ag<|SR<|V (bN O O)<|aB rfl<|aa<|aD O (fun h10=> ?_) (fun h10=> ?_)
  .refine ak<|cC (bT h10)<|aq<|aE sr<|V (ax O O J)<|aI rfl<|aa<|aq<|V (ax OG O J)<|mI rfl<|aa<| ?_
   refine⟨(k+1,d+1),aT,ug.u4.u4.u4.u1,(eU.sub (sQ sR)),(aJ I aO),(aJ I aO),J,J,?_⟩
   rw[jS h0 ‹k<_›,hd];exact zA (.inl aK)
  refine aq<|V (bN O O)<|aB rfl<|aa<|aD O (fun h12=> ?_) (fun h12=> ?_)
  .refine aq<|aE sr<|V (ax O O J)<|aI rfl<|aa<|aq<|V (ax OG O J)<|mI rfl<|aa<| ?_
   refine⟨(k+1,d+1),aT,ug.u4.u4.u4.u1.u1.u1,(eU.sub (sQ sR)),(aJ I aO),(aJ I aO),J,J,?_⟩
   rw[jS h0 ‹k<_›,hd];exact zA (.inr aK)
  refine ag<|SR<|V (bN O O)<|aB rfl<|aa<|aD O (fun KQ=> ?_) (fun KQ=> ?_)
  .refine ak<|cC (bT KQ)<|ag<|SR<|V (fA eD 1 O a8 O)<|lI bf eU 0 O O rfl<|V (aM O O)<|mB rfl<|bM 25 O (fun wc=> ?_) (fun wc=> ?_)
   .refine aE (v:=B true) rfl<|aa<|cC rfl<|SR<|va (v:=B false) rfl<|aa<|ai<|oB O ?_ eU
    exact(D7 h0 ‹k<_› hd (zB J J)).symm
   refine V (fA eD 1 O a8 O)<|lI bf eU 0 O O rfl<|aE sr<|V (cD O O)<|mB rfl<|aa<|aD O (fun pS=> ?_) (fun pS=> ?_)
   .refine SR<|va (v:=B false) rfl<|aa<|ai<|oB O ?_ eU
    exact(D7 h0 ‹k<_› hd (zB J J)).symm
   refine ak<|aq<|aE sr<|V (fA eD 1 O a8 O)<|lI bf eU 0 O O rfl<|V (fF O O J)<|V (fF O O J)<|aI rfl<|aa<|aq<|V (ax OG O J)<|mI rfl<|aa<| ?_
   refine⟨(k+1,d-(l.getD k.toNat cB).n+1),aT,ug.u4.u4.u4.u4.u4.u4.u4.u1,(eU.sub (sQ sR)),(aJ I J),(aJ I aO),J,J,?_⟩
   rw[jS h0 ‹k<_›,hd];exact Mz J J J
  refine aq<|V (bN O O)<|aB rfl<|aa<|aD O (fun KP=> ?_) (fun KP=> ?_)
  .refine ag<|SR<|V (fA eD 1 O a8 O)<|lI bf eU 0 O O rfl<|V (aM O O)<|mB rfl<|bM 25 O (fun h22=> ?_) (fun h22=> ?_)
   .refine aE (v:=B true) rfl<|aa<|cC rfl<|SR<|va (v:=B false) rfl<|aa<|ai<|oB O ?_ eU
    exact(D7 h0 ‹k<_› hd (zB J J)).symm
   refine V (fA eD 1 O a8 O)<|lI bf eU 0 O O rfl<|aE sr<|V (cD O O)<|mB rfl<|aa<|aD O (fun AM=> ?_) (fun AM=> ?_)
   .refine SR<|va (v:=B false) rfl<|aa<|ai<|oB O ?_ eU
    exact(D7 h0 ‹k<_› hd (zB J J)).symm
   refine ak<|aq<|aE sr<|V (fA eD 1 O a8 O)<|lI bf eU 0 O O rfl<|V (fF O O J)<|V (fF O O J)<|aI rfl<|aa<|aq<|V (ax OG O J)<|mI rfl<|aa<| ?_
   refine⟨(k+1,d-(l.getD k.toNat cB).n+1),aT,ug.u4.u4.u4.u4.u4.u4.u4.u1.u1.u1,(eU.sub (sQ sR)),(aJ I J),(aJ I aO),J,J,?_⟩
   rw[jS h0 ‹k<_›,hd];exact Mz J J J
  refine SR<|va (v:=B false) rfl<|aa<|ai<|oB O ?_ eU
  exact(D7 h0 ‹k<_› hd (Se J J)).symm
 refine aY (id:=0) rfl<|SR<|aE sr<|V (bN O O)<|aB rfl<|aa<|ai<|oB O ?_ iI
 exact(YN hk ‹¬k<_› hd).symm
theorem Ae(v:Value)(l:List dz)(w:World)(hs:Sl w v 10 l.length (l.flatMap j6)):Calls Tryz.prog 78 #[v] w (Pure (B (gq l)) w):=by
 have hm:=hs.small
 unfold maxLen at hm
 refine eH func78 rfl rfl fun hH=>SR<|va (v:=B false) rfl<|aa<|SR<|va (v:=I 0) rfl<|aa<|ag<|SR<|va (v:=I 0) rfl<|aa<|ay<|bk (G:=Int×Int) (fun⟨k,d⟩ s' w'=>(Fr (rg 2 45 []) _ s')/\(Hp w w' _)/\(s' 3=I d)/\(s' 4=I k)/\(0<=k)/\(k<=l.length)/\(jx l k=some d)) (fun⟨k,d⟩=>(l.length-k).toNat) ((0,0)) ⟨Fr.refl _ _,hH,rfl,rfl,J,J,Dr l⟩<| ?_
 rintro⟨k,d⟩ sg1 w1 ⟨ug,iI,sr,zR,h0,hk,hd⟩
 have lX:=ug.w1 0
 have hdb:=Sd h0 hk hd
 refine ag<|SR<|aE zR<|aE lX<|V (aA (hs.hp iI) O gI O)<|V (aM O O)<|aa<|aD O (fun h3=> ?_) (fun h3=> ?_)
 .refine ak<|ag<|ay<|SR<|aE lX<|aE zR<|V (ah (hs.hp iI) gI nR O O J)<|V (fA eD 0 O a8 O)<|V (fQ (dv:=cB) (off:=0) gj (hs.hp iI) bf O O J O)<|aa<|ay<|ag<|SR<|V (bN O O)<|aB rfl<|aa<|aD O (fun h5=> ?_) (fun h5=> ?_)
  .refine ak<|cC (bT h5)<|aq<|aE sr<|V (ax O O J)<|aI rfl<|aa<|aq<|aE zR<|V (ax O O J)<|aI rfl<|aa<| ?_
   refine⟨(k+1,d+1),aT,ug.u4.u4.u4.u4.u1,iI,(aJ I aO),(aJ I aO),J,J,?_⟩
   rw[jS h0 ‹k<_›,hd];exact zA (.inl aK)
  refine aq<|V (bN O O)<|aB rfl<|aa<|aD O (fun h7=> ?_) (fun h7=> ?_)
  .refine aq<|aE sr<|V (ax O O J)<|aI rfl<|aa<|aq<|aE zR<|V (ax O O J)<|aI rfl<|aa<| ?_
   refine⟨(k+1,d+1),aT,ug.u4.u4.u4.u4.u1.u1.u1,iI,(aJ I aO),(aJ I aO),J,J,?_⟩
   rw[jS h0 ‹k<_›,hd];exact zA (.inr aK)
  refine ag<|SR<|V (bN O O)<|aB rfl<|aa<|aD O (fun h9=> ?_) (fun h9=> ?_)
  .refine ak<|cC (bT h9)<|ag<|SR<|aE lX<|aE zR<|V (ah (hs.hp iI) gI nR O O J)<|V (fA eD 1 O a8 O)<|V (fQ (dv:=cB) (off:=1) gj (hs.hp iI) bf O O J O)<|V (aM O O)<|mB rfl<|bM 30 O (fun h11=> ?_) (fun h11=> ?_)
   .refine aE (v:=B true) rfl<|aa<|cC rfl<|SR<|va (v:=B false) rfl<|aa<|ai<|oB O ?_ iI
    exact(D7 h0 ‹k<_› hd (zB J J)).symm
   refine aE lX<|aE zR<|V (ah (hs.hp iI) gI nR O O J)<|V (fA eD 1 O a8 O)<|V (fQ (dv:=cB) (off:=1) gj (hs.hp iI) bf O O J O)<|aE sr<|V (cD O O)<|mB rfl<|aa<|aD O (fun OK=> ?_) (fun OK=> ?_)
   .refine SR<|va (v:=B false) rfl<|aa<|ai<|oB O ?_ iI
    exact(D7 h0 ‹k<_› hd (zB J J)).symm
   refine ak<|aq<|aE sr<|aE lX<|aE zR<|V (ah (hs.hp iI) gI nR O O J)<|V (fA eD 1 O a8 O)<|V (fQ (dv:=cB) (off:=1) gj (hs.hp iI) bf O O J O)<|V (fF O O J)<|V (ax O O J)<|aI rfl<|aa<|aq<|aE zR<|V (ax O O J)<|aI rfl<|aa<| ?_
   refine⟨(k+1,d-(l.getD k.toNat cB).n+1),aT,ug.u4.u4.u4.u4.u4.u4.u4.u4.u4.u4.u1.u1,iI,(aJ I aO),(aJ I aO),J,J,?_⟩
   rw[jS h0 ‹k<_›,hd];exact Mz J J J
  refine aq<|V (bN O O)<|aB rfl<|aa<|aD O (fun J4=> ?_) (fun J4=> ?_)
  .refine ag<|SR<|aE lX<|aE zR<|V (ah (hs.hp iI) gI nR O O J)<|V (fA eD 1 O a8 O)<|V (fQ (dv:=cB) (off:=1) gj (hs.hp iI) bf O O J O)<|V (aM O O)<|mB rfl<|bM 30 O (fun J6=> ?_) (fun J6=> ?_)
   .refine aE (v:=B true) rfl<|aa<|cC rfl<|SR<|va (v:=B false) rfl<|aa<|ai<|oB O ?_ iI
    exact(D7 h0 ‹k<_› hd (zB J J)).symm
   refine aE lX<|aE zR<|V (ah (hs.hp iI) gI nR O O J)<|V (fA eD 1 O a8 O)<|V (fQ (dv:=cB) (off:=1) gj (hs.hp iI) bf O O J O)<|aE sr<|V (cD O O)<|mB rfl<|aa<|aD O (fun J1=> ?_) (fun J1=> ?_)
   .refine SR<|va (v:=B false) rfl<|aa<|ai<|oB O ?_ iI
    exact(D7 h0 ‹k<_› hd (zB J J)).symm
   refine ak<|aq<|aE sr<|aE lX<|aE zR<|V (ah (hs.hp iI) gI nR O O J)<|V (fA eD 1 O a8 O)<|V (fQ (dv:=cB) (off:=1) gj (hs.hp iI) bf O O J O)<|V (fF O O J)<|V (ax O O J)<|aI rfl<|aa<|aq<|aE zR<|V (ax O O J)<|aI rfl<|aa<| ?_
   refine⟨(k+1,d-(l.getD k.toNat cB).n+1),aT,ug.u4.u4.u4.u4.u4.u4.u4.u4.u4.u4.u4,iI,(aJ I aO),(aJ I aO),J,J,?_⟩
   rw[jS h0 ‹k<_›,hd];exact Mz J J J
  refine SR<|va (v:=B false) rfl<|aa<|ai<|oB O ?_ iI
  exact(D7 h0 ‹k<_› hd (Se J J)).symm
 refine aY (id:=0) rfl<|SR<|aE sr<|V (bN O O)<|aB rfl<|aa<|ai<|oB O ?_ iI
 exact(YN hk ‹¬k<_› hd).symm
theorem kg(s:kE)(v kd aX:Int)(w:World)(hs:E5 (Kw w) s):Calls Tryz.prog 76 #[.agg (Ir s),I v,I kd,I aX] w (Pure (B (qA s v kd aX)) w):=by
 have xT:=hs.au.sl.small
 have Ol:=hs.vars.sl.small
 unfold maxLen at xT Ol
 refine eH func76 rfl rfl fun hH=>SR<|gV hH (v:= .agg _) rfl<|fun b3 w1 aZ=>va (v:=B false) rfl<|aa<|SR<|mI rfl<|V (dD O O)<|mB rfl<|bM 11 O (fun h5=> ?_) (fun h5=> ?_)
 .refine mI rfl<|V (fA ig 1 O xk O)<|V (cf (hs.vars.sl.hp aZ) oE O O (aZ.cell (i:=0) O O))<|V (aA (hs.vars.sl.hp aZ) O oE O)<|V (aM O O)<|mB rfl<|mB rfl<|bM 18 O (fun h7=> ?_) (fun h7=> ?_)
  .refine V (fA ig 1 O xk O)<|V (cf (hs.vars.sl.hp aZ) oE O O (aZ.cell (i:=0) O O))<|mI rfl<|V (ah (hs.vars.sl.hp aZ) oE Ln O O J)<|V (fA pG 1 O a8 O)<|V (fQ (dv:=gL) (off:=1) ya (hs.vars.sl.hp aZ) bf O O J O)<|mI rfl<|V (bN O O)<|mB rfl<|mB rfl<|bM 28 O (fun h9=> ?_) (fun h9=> ?_)
   .refine V (fA ig 1 O xk O)<|V (cf (hs.vars.sl.hp aZ) oE O O (aZ.cell (i:=0) O O))<|mI rfl<|V (ah (hs.vars.sl.hp aZ) oE Ln O O J)<|V (fA pG 2 O a8 O)<|V (fQ (dv:=gL) (off:=2) ya (hs.vars.sl.hp aZ) bf O O J O)<|mI rfl<|V (bN O O)<|mB rfl<|aB rfl<|aa<|ai<|oB O ?_ aZ
    (rw[ag9 ⟨J,J⟩ ‹(List.getD s.vars _ _).kind=kd›];done)
   refine aE (v:=B false) rfl<|aB rfl<|aa<|ai<|oB O ?_ aZ
   (rw[ag8 ‹¬(List.getD s.vars _ _).kind=kd›];done)
  refine aE (v:=B false) rfl<|mB rfl<|bZ O rfl<|aE (v:=B false) rfl<|aB rfl<|aa<|ai<|oB O ?_ aZ
  (rw[UJ J];done)
 refine aE (v:=B false) rfl<|mB rfl<|bZ O rfl<|aE (v:=B false) rfl<|mB rfl<|bZ O rfl<|aE (v:=B false) rfl<|aB rfl<|aa<|ai<|oB O ?_ aZ
 (rw[UJ J];done)
theorem lR(s:kE)(aX:Int)(t:iw)(aES:0<=aX/\aX<s.au.length)(w:World)(hs:E5 (Kw w) s):Calls Tryz.prog 79 #[.agg (Ir s),I aX,.agg (jq t).toArray] w (Pure (B (lO s aX t)) w):=by
 have xT:=hs.au.sl.small
 have Ol:=hs.vars.sl.small
 unfold maxLen at xT Ol
 refine eH func79 rfl rfl fun hH=>SR<|gV hH (v:= .agg _) rfl<|fun b3 w1 aZ=>gV aZ (v:= .agg _) rfl<|fun b6 w4 bP=>va (v:=B false) rfl<|aa<|ag<|SR<|V (fA nO 0 O a8 O)<|lI bf bP 0 O O rfl<|V (aM O O)<|aa<|aD O (fun h8=> ?_) (fun h8=> ?_)
 .refine ag<|ed aP bP<|fun w9 bV=>have zZ:=bV;AQ 0 O zZ (fA ig 0 O qw O)<|AT 1 O zZ (fun w hS=>cf (hs.au.sl.hp hS) ku O O (hS.cell (i:=1) O O))<|AQ 2 O zZ (mV (I _) O)<|AT 3 O zZ (fun w hS=>ah (hs.au.sl.hp hS) ku BP O O J)<|AQ 4 O zZ (fA uI 1 O yZ O)<|AT 5 O zZ (fun w hS=>n4 (dv:=me) (off:=1) (cs:=zv _) qI (hs.au.sl.hp hS) dL O O O J (Gd _))<|AQ 6 O zZ (fA nO 1 O iq O)<|AT 7 O zZ (fun w hS=>r5 cH O O O (hS.blk (i:=0) O) (UF _))<|A1 8<|bX O aH O bV sR (m6 _ _ _ ((hs.at J J).mono bV.kw)) (aN call80 O O)<|fun FK cJ=>AQ 9 O cJ (aV (B _) O)<|AD<|ai<|oB O ?_ cJ
  (rw[atom_1 ‹t.var<0›];rfl)
 refine ak<|SR<|V (cM (cs:=Cf _) ig O O O (bp (bP.blk (i:=1) O)))<|V (fA nO 0 O a8 O)<|lI bf bP 0 O O rfl<|mI rfl<|aG O bP (kg _ _ _ _ _ (hs.mono bP.kw)) (jm call76 O O (show _=I 1 from O) O)<|fun Np fp=>aB rfl<|aa<|ai<|oB O ?_ fp
 (rw[arK ‹¬t.var<0›];done)
theorem qY(s:kE)(aX:Int)(r:A5)(aES:0<=aX/\aX<s.au.length)(w:World)(hs:E5 (Kw w) s)(hr:YM (Kw w) r):Calls Tryz.prog 77 #[.agg (Ir s),I aX,.agg (Sb r).toArray] w (Pure (B (u6 s aX r)) w):=by
 have xT:=hs.au.sl.small
 have Ol:=hs.vars.sl.small
 unfold maxLen at xT Ol
 have hm3:=hr.fields.small
 unfold maxLen at hm3
 refine eH func77 rfl rfl fun hH=>SR<|gV hH (v:= .agg _) rfl<|fun b3 w1 aZ=>gV aZ (v:= .agg _) rfl<|fun b6 w4 bP=>va (v:=B false) rfl<|aa<|SR<|va (v:= .slice none 0 0) rfl<|have eN:=bP.fx 9 1;aa<|ag<|SR<|V (fA pH 0 O uK O)<|V (cf (hr.fields.sl.hp eN) mC O O (eN.cell (i:=1) O O))<|V (aA (hr.fields.sl.hp eN) O mC O)<|V (cD O O)<|mB rfl<|bM 13 O (fun h9=> ?_) (fun h9=> ?_)
 .refine eV O O rfl<|eV O O rfl<|eV O O rfl<|eV O O rfl<|eV O O rfl<|eV O O rfl<|uQ<|aE (v:=B true) rfl<|aa<|cC rfl<|SR<|va (v:=B false) rfl<|aa<|ai<|oB O ?_ eN
  exact(amm J).symm
 refine V (fA pH 1 O a8 O)<|lI bf eN 1 O O rfl<|V (dD O O)<|mB rfl<|bM 17 O (fun h11=> ?_) (fun h11=> ?_)
 .refine V (cM (cs:=Cf _) ig O O O (bp (eN.blk (i:=2) O)))<|V (fA pH 1 O a8 O)<|lI bf eN 1 O O rfl<|mI rfl<|aG O eN (kg _ _ _ _ _ (hs.mono eN.kw)) (jm call76 O O (show _=I 2 from O) O)<|fun Bv cm=>V (bO O)<|mB rfl<|mB rfl<|aa<|bW O (fun wc=> ?_) (fun wc=> ?_)
  .refine SR<|va (v:=B false) rfl<|aa<|ai<|oB O ?_ cm
   exact(amn J (nt ‹(!qA s r.tail 2 aX)=true›)).symm
  refine ak<|ag<|SR<|va (v:=I 0) rfl<|aa<|ay<|have hsz:r.fields.length<=16:=J;have ZX:r.tail<0\/qA s r.tail 2 aX=true:=(by exact .inr (nf ‹(!qA s r.tail 2 aX)=false›));bk (G:=Int×(List Tx)×Value) (fun⟨k,m,v7⟩ s' w'=>(Fr (rg 6 3 (rg 26 34 [])) _ s')/\(Hp w w' (.row v7 9 1 (m.length) (Jn m)::_))/\(s' 7=v7)/\(s' 8=I k)/\(0<=k)/\(k<=r.fields.length)/\(m=(r.fields.take k.toNat).map kX.name)/\((m.length:Int)=k)/\(∀j:Int,0<=j->j<k->qM s aX (r.fields.getD j.toNat mZ)=true)) (fun⟨k,m,v7⟩=>(r.fields.length-k).toNat) ((0,[],(.slice none 0 0:Value))) ⟨Fr.refl _ _,cm,rfl,rfl,J,J,rfl,rfl,fun j a b=>absurd b J⟩<| ?_
  rintro⟨k,m,v7⟩ axJ OM ⟨ON,dS,V1,Wg,h0,hk,hm,hml,hg⟩
  obtain⟨abV,apM,Jz⟩:=ON.w3 1 3 5
  refine ag<|SR<|aE Wg<|V (fA pH 0 O uK Jz)<|V (cf (hr.fields.sl.hp dS) mC O O (dS.cell (i:=1) O O))<|V (aA (hr.fields.sl.hp dS) O mC O)<|V (aM O O)<|aa<|aD O (fun J1=> ?_) (fun J1=> ?_)
  .refine ak<|ag<|ay<|SR<|aE V1<|V (fA pH 0 O uK Jz)<|V (cf (hr.fields.sl.hp dS) mC O O (dS.cell (i:=1) O O))<|aE Wg<|V (ah (hr.fields.sl.hp dS) mC HC O O J)<|V (fA HA 0 O jX O)<|V (fQ (dv:=mZ) (off:=0) rZ (hr.fields.sl.hp dS) ic O O J O)<|xP 1 1 dS (cA dO O O (sz:=1) (vs:=[.string _]) O O az az O O)<|fun b22 w20 fB=> ?_
   (try simp only[o4]at fB)
   refine jI O fB (i:=1) O (fB.dV (i:=0) (n:=1) (sz:=1) O O az) O O dO O O (size:=1) (bytes:=16) O O O az iF J gC<|fun v23 w24 og=> ?_
   refine V (run_assign bC) ?_
   refine aa<|ag<|ed aP og<|fun V6 dK=>have Ta:=dK;?_
   refine AQ 0 O Ta (run_move bC) ?_
   refine AQ 1 O Ta (run_move Wg)<|AT 2 O Ta (fun w hS=>ah (hS.sl (i:=1) O) dO jX O O J)<|AT 3 O Ta (fun w hS=>aC ic O O ((hS.sl (i:=1) O).cell _ _ (UK hml)))<|A1 4<|bX O aH O dK sR (iz _ _) (an call74 O)<|fun w28 gG=>have DQ:=gG;AQ 5 O DQ (bO O)<|AQ 6 O DQ (mV (B _) O)<|Jj (dj:=48) O (fun IY=> ?_) (fun IY=> ?_)
   .refine AK 7 O O (bR (c:=true) IY) gG<|AK 8 O O (bR (c:=true) IY) gG<|AK 9 O O (bR (c:=true) IY) gG<|AK 10 O O (bR (c:=true) IY) gG<|AK 11 O O (bR (c:=true) IY) gG<|AK 12 O O (bR (c:=true) IY) gG<|AK 13 O O (bR (c:=true) IY) gG<|AK 14 O O (bR (c:=true) IY) gG<|AK 15 O O (bR (c:=true) IY) gG<|AK 16 O O (bR (c:=true) IY) gG<|AQ 17 O DQ (fZ (bR (c:=true) IY) (v:=B true) O)<|AD<|cC rfl<|SR<|va (v:=B false) rfl<|aa<|ai<|oB O ?_ gG
    exact(KF h0 ‹k<_› (PM (nt ‹(!iG _)=true›))).symm
   refine AG 7 O O (bR (c:=false) IY) gG (fun w hS=>cM (cs:=Cf _) ig O O apM (bp (hS.blk (i:=3) O)))<|BQ 8 O O (bR (c:=false) IY) gG (run_move abV)<|BQ 9 O O (bR (c:=false) IY) gG (fA pH 0 O uK Jz)<|AG 10 O O (bR (c:=false) IY) gG (fun w hS=>cf (hr.fields.sl.hp hS) mC O O (hS.cell (i:=2) O O))<|BQ 11 O O (bR (c:=false) IY) gG (run_move Wg)<|AG 12 O O (bR (c:=false) IY) gG (fun w hS=>ah (hr.fields.sl.hp hS) mC HC O O J)<|BQ 13 O O (bR (c:=false) IY) gG (fA HA 1 O pJ O)<|AG 14 O O (bR (c:=false) IY) gG (fun w hS=>n4 (dv:=mZ) (off:=1) (cs:=jq _) rZ (hr.fields.sl.hp hS) nO O O O J (PL _))<|A1 15<|bX O (Aw O (bR (c:=false) IY)) O gG sR (lR _ _ _ J _ (hs.mono gG.kw)) (bB call79 O O O)<|fun w33 ni=>BQ 16 O O (bR (c:=false) IY) ni (bO O)<|AQ 17 O ni (dM (bR (c:=false) IY) (v:=B _) O)<|AD<|bW O (fun h37=> ?_) (fun h37=> ?_)
   .refine SR<|va (v:=B false) rfl<|aa<|ai<|oB O ?_ ni
    exact(KF h0 ‹k<_› (PN (nt ‹(!lO s aX _)=true›))).symm
   refine ak<|aq<|aE Wg<|V (ax O O J)<|aI rfl<|aa<| ?_
   refine⟨(k+1,m++[(r.fields.getD k.toNat mZ).name],v23),aT,ON.u4.u4.u4.u4.u4.u4.u4.u4.u4,(Hp.conv (ni.sub (sQ sR)) aF),rfl,(aJ I aO),J,J,?_,?_,?_⟩
   .rw[Js h0 ‹k<_›,<-hm]
   .simp only[cZ,gN];omega
   exact fun j a b=>if e:j=k then e▸PO (nf ‹(!iG _)=false›) (nf ‹(!lO s aX _)=false›)else hg j a J
  refine aY (id:=0) rfl<|SR<|aE V1<|aG O dS (jP _ _ _ (dS.sl (i:=0) O)) (an call75 O)<|fun w38 m5=>V (aM O O)<|aB rfl<|aa<|ai<|oB O ?_ m5
  (rw[aa2 hsz ZX ‹¬k<_› hg,show m=Sg r by rw[hm,iV J];rfl])
 refine aE (v:=B false) rfl<|mB rfl<|aa<|cL rfl<|ak<|ag<|SR<|va (v:=I 0) rfl<|aa<|ay<|have hsz:r.fields.length<=16:=J;have ZX:r.tail<0\/qA s r.tail 2 aX=true:=(by exact .inl J);bk (G:=Int×(List Tx)×Value) (fun⟨k,m,v7⟩ s' w'=>(Fr (rg 6 3 (rg 26 34 [])) _ s')/\(Hp w w' (.row v7 9 1 (m.length) (Jn m)::_))/\(s' 7=v7)/\(s' 8=I k)/\(0<=k)/\(k<=r.fields.length)/\(m=(r.fields.take k.toNat).map kX.name)/\((m.length:Int)=k)/\(∀j:Int,0<=j->j<k->qM s aX (r.fields.getD j.toNat mZ)=true)) (fun⟨k,m,v7⟩=>(r.fields.length-k).toNat) ((0,[],(.slice none 0 0:Value))) ⟨Fr.refl _ _,eN,rfl,rfl,J,J,rfl,rfl,fun j a b=>absurd b J⟩<| ?_
 rintro⟨k,m,v7⟩ aET w41 ⟨Wh,iU,apW,Wi,h0,hk,hm,hml,hg⟩
 obtain⟨ax4,NT,En⟩:=Wh.w3 1 3 5
 refine ag<|SR<|aE Wi<|V (fA pH 0 O uK En)<|V (cf (hr.fields.sl.hp iU) mC O O (iU.cell (i:=1) O O))<|V (aA (hr.fields.sl.hp iU) O mC O)<|V (aM O O)<|aa<|aD O (fun h43=> ?_) (fun h43=> ?_)
 .refine ak<|ag<|ay<|SR<|aE apW<|V (fA pH 0 O uK En)<|V (cf (hr.fields.sl.hp iU) mC O O (iU.cell (i:=1) O O))<|aE Wi<|V (ah (hr.fields.sl.hp iU) mC HC O O J)<|V (fA HA 0 O jX O)<|V (fQ (dv:=mZ) (off:=0) rZ (hr.fields.sl.hp iU) ic O O J O)<|xP 1 1 iU (cA dO O O (sz:=1) (vs:=[.string _]) O O az az O O)<|fun b46 w44 nn=> ?_
  (try simp only[o4]at nn)
  refine jI O nn (i:=1) O (nn.dV (i:=0) (n:=1) (sz:=1) O O az) O O dO O O (size:=1) (bytes:=16) O O O az iF J gC<|fun v47 w48 IZ=> ?_
  refine V (run_assign bC) ?_
  refine aa<|ag<|ed aP IZ<|fun w50 wg=>have Bn:=wg;?_
  refine AQ 0 O Bn (run_move bC) ?_
  refine AQ 1 O Bn (run_move Wi)<|AT 2 O Bn (fun w hS=>ah (hS.sl (i:=1) O) dO jX O O J)<|AT 3 O Bn (fun w hS=>aC ic O O ((hS.sl (i:=1) O).cell _ _ (UK hml)))<|A1 4<|bX O aH O wg sR (iz _ _) (an call74 O)<|fun w52 jU=>have aty:=jU;AQ 5 O aty (bO O)<|AQ 6 O aty (mV (B _) O)<|Jj (dj:=48) O (fun Ka=> ?_) (fun Ka=> ?_)
  .refine AK 7 O O (bR (c:=true) Ka) jU<|AK 8 O O (bR (c:=true) Ka) jU<|AK 9 O O (bR (c:=true) Ka) jU<|AK 10 O O (bR (c:=true) Ka) jU<|AK 11 O O (bR (c:=true) Ka) jU<|AK 12 O O (bR (c:=true) Ka) jU<|AK 13 O O (bR (c:=true) Ka) jU<|AK 14 O O (bR (c:=true) Ka) jU<|AK 15 O O (bR (c:=true) Ka) jU<|AK 16 O O (bR (c:=true) Ka) jU<|AQ 17 O aty (fZ (bR (c:=true) Ka) (v:=B true) O)<|AD<|cC rfl<|SR<|va (v:=B false) rfl<|aa<|ai<|oB O ?_ jU
   exact(KF h0 ‹k<_› (PM (nt ‹(!iG _)=true›))).symm
  refine AG 7 O O (bR (c:=false) Ka) jU (fun w hS=>cM (cs:=Cf _) ig O O NT (bp (hS.blk (i:=3) O)))<|BQ 8 O O (bR (c:=false) Ka) jU (run_move ax4)<|BQ 9 O O (bR (c:=false) Ka) jU (fA pH 0 O uK En)<|AG 10 O O (bR (c:=false) Ka) jU (fun w hS=>cf (hr.fields.sl.hp hS) mC O O (hS.cell (i:=2) O O))<|BQ 11 O O (bR (c:=false) Ka) jU (run_move Wi)<|AG 12 O O (bR (c:=false) Ka) jU (fun w hS=>ah (hr.fields.sl.hp hS) mC HC O O J)<|BQ 13 O O (bR (c:=false) Ka) jU (fA HA 1 O pJ O)<|AG 14 O O (bR (c:=false) Ka) jU (fun w hS=>n4 (dv:=mZ) (off:=1) (cs:=jq _) rZ (hr.fields.sl.hp hS) nO O O O J (PL _))<|A1 15<|bX O (Aw O (bR (c:=false) Ka)) O jU sR (lR _ _ _ J _ (hs.mono jU.kw)) (bB call79 O O O)<|fun w57 vD=>BQ 16 O O (bR (c:=false) Ka) vD (bO O)<|AQ 17 O vD (dM (bR (c:=false) Ka) (v:=B _) O)<|AD<|bW O (fun h61=> ?_) (fun h61=> ?_)
  .refine SR<|va (v:=B false) rfl<|aa<|ai<|oB O ?_ vD
   exact(KF h0 ‹k<_› (PN (nt ‹(!lO s aX _)=true›))).symm
  refine ak<|aq<|aE Wi<|V (ax O O J)<|aI rfl<|aa<| ?_
  refine⟨(k+1,m++[(r.fields.getD k.toNat mZ).name],v47),aT,Wh.u4.u4.u4.u4.u4.u4.u4.u4.u4,(Hp.conv (vD.sub (sQ sR)) aF),rfl,(aJ I aO),J,J,?_,?_,?_⟩
  .rw[Js h0 ‹k<_›,<-hm]
  .simp only[cZ,gN];omega
  exact fun j a b=>if e:j=k then e▸PO (nf ‹(!iG _)=false›) (nf ‹(!lO s aX _)=false›)else hg j a J
 refine aY (id:=0) rfl<|SR<|aE apW<|aG O iU (jP _ _ _ (iU.sl (i:=0) O)) (an call75 O)<|fun w62 pT=>V (aM O O)<|aB rfl<|aa<|ai<|oB O ?_ pT
 (rw[aa2 hsz ZX ‹¬k<_› hg,show m=Sg r by rw[hm,iV J];rfl])
end
end Go.Proofs.YtlhjdflgjbkpmaaGreatDoor.W

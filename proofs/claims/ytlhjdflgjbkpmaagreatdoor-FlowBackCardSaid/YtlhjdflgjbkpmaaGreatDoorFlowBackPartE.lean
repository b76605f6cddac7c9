/- Part 5 of the proof of FlowBack: its plain laws and the walks of its functions. -/
import Derived.Test.YtlhjdflgjbkpmaaGreatDoorFlowBackPartD
set_option linter.all false
namespace Go.Proofs.YtlhjdflgjbkpmaaGreatDoor.W
section
open Go Go.RowKit Go.Proofs.YtlhjdflgjbkpmaaGreatDoor.E Go.Proofs.YtlhjdflgjbkpmaaGreatDoor.M
set_option maxRecDepth 100000
open Go.Proofs.Tryz
abbrev FX:FTy:=(⟨(⟨134,243,193,3,35,8⟩:UT),111,35,1,3⟩:FTy)
theorem wJ{nA nB nC nD nE nF nG nH nI nJ nK nL:Value}(F:Nat)(vW vU vT:Value)(cnt:Int)(W:List (BitVec 64))(w:World)(hb:w.heap[F]?=some (.cells #[nA,nB,nC,nD,nE,nF,nG,nH,vW,vU,vT,I cnt,nI,nJ,nK,nL] 111 (0,0)))(hW:Sl w vW 1 W.length (W.map U)):Calls Tryz.prog 133 #[.pointer (some ⟨F,8,none⟩)] w (Pure (I W.length) w):=by
 refine eH func133 rfl rfl fun hH=>SR<|va (v:=I 0) rfl<|aa<|ah<|SR<|aE (v:=Pn _ _) rfl<|V (jf pF O O)<|aa<|dh rfl<|ak<|SR<|aE (v:=Pn _ _) rfl<|V (af O)<|V (fA lR 0 O iN O)<|V (au cS O O (hH.ed hb O))<|V (aA (hW.hp hH) O cS O)<|aI rfl<|aa<|aj<|oI O ?_ hH
 rfl
theorem yo{nA nB nC nD nE nF nG nH nI nJ nK nL:Value}(F:Nat)(vW vU vT:Value)(cnt:Int)(W:List (BitVec 64))(i:Int)(w:World)(hb:w.heap[F]?=some (.cells #[nA,nB,nC,nD,nE,nF,nG,nH,vW,vU,vT,I cnt,nI,nJ,nK,nL] 111 (0,0)))(hW:Sl w vW 1 W.length (W.map U)):Calls Tryz.prog 218 #[.pointer (some ⟨F,8,none⟩),I i] w (Pure (B (decide (0<=i/\i<W.length))) w):=by
 refine eH func218 rfl rfl fun hH=>SR<|va (v:=B false) rfl<|aa<|SR<|mI rfl<|V (dA O O)<|mB rfl<|bN 7 O (fun h2=> ?_) (fun h2=> ?_)
 .refine mI rfl<|aE (v:=Pn _ _) rfl<|aG O hH (wJ _ _ _ _ _ _ _ (hH.ext hb) (hW.hp hH)) (aq call133 O)<|fun w3 gE=>V (aL O O)<|mB rfl<|aB rfl<|aa<|aj<|oB O ?_ gE
  (simp;omega)
 refine aE (v:=B false) rfl<|aB rfl<|aa<|aj<|oB O ?_ hH
 (rw[gF J];done)
theorem Ga{nA nB nC nD nE nF nG nH nI nJ nK nL:Value}(F:Nat)(vW vU vT:Value)(cnt:Int)(W:List (BitVec 64))(i:Int)(hi:0<=i/\i<W.length)(w:World)(hb:w.heap[F]?=some (.cells #[nA,nB,nC,nD,nE,nF,nG,nH,vW,vU,vT,I cnt,nI,nJ,nK,nL] 111 (0,0)))(hW:Sl w vW 1 W.length (W.map U)):Calls Tryz.prog 190 #[.pointer (some ⟨F,8,none⟩),I i] w (Pure (U (W.getD i.toNat 0)) w):=by
 refine eH func190 rfl rfl fun hH=>SR<|va (v:=U 0#64) rfl<|aa<|ah<|SR<|aE (v:=Pn _ _) rfl<|mI rfl<|aG O hH (yo _ _ _ _ _ _ _ _ (hH.ext hb) (hW.hp hH)) (aJ call218 O O)<|fun w1 aW=>V (uC O)<|aa<|aF O (fun h6=> ?_) (fun h6=> ?_)
 .refine SR<|va (v:=U 0#64) rfl<|aa<|aj<|oU O ?_ aW
  omega
 refine ak<|SR<|aE (v:=Pn _ _) rfl<|V (af O)<|V (fA lR 0 O iN O)<|V (au cS O O (aW.ed hb O))<|mI rfl<|V (ag (hW.hp aW) cS c8 O O J)<|V (au dW O O (Sl.atU (hW.hp aW) J J))<|aU rfl<|aa<|aj<|oU O ?_ aW
 rfl
theorem l8{nA nB nC nD nE nF nG nH nI nJ nK nL:Value}(F:Nat)(vW vU vT:Value)(cnt:Int)(W:List (BitVec 64))(us:List Value)(w:World)(hb:w.heap[F]?=some (.cells #[nA,nB,nC,nD,nE,nF,nG,nH,vW,vU,vT,I cnt,nI,nJ,nK,nL] 111 (0,0)))(hW:Sl w vW 1 W.length (W.map U))(hU:Sl w vU 1 us.length us):Calls Tryz.prog 90 #[.pointer (some ⟨F,8,none⟩)] w (Pure (I us.length) w):=by
 refine eH func90 rfl rfl fun hH=>SR<|va (v:=I 0) rfl<|aa<|ah<|SR<|aE (v:=Pn _ _) rfl<|V (jf pF O O)<|aa<|dh rfl<|ak<|SR<|aE (v:=Pn _ _) rfl<|V (af O)<|V (fA lR 1 O jQ O)<|V (au gH O O (hH.ed hb O))<|V (aA (hU.hp hH) O gH O)<|aI rfl<|aa<|aj<|oI O ?_ hH
 rfl
theorem df{nA nB nC nD nE nF nG nH nI nJ nK nL:Value}(F:Nat)(vW vU vT:Value)(cnt:Int)(W:List (BitVec 64))(i k:Int)(hi:0<=i/\i<1000000/\0<=k/\k<4/\4*i+k<W.length)(w:World)(hb:w.heap[F]?=some (.cells #[nA,nB,nC,nD,nE,nF,nG,nH,vW,vU,vT,I cnt,nI,nJ,nK,nL] 111 (0,0)))(hW:Sl w vW 1 W.length (W.map U)):Calls Tryz.prog 159 #[.pointer (some ⟨F,8,none⟩),I i,I k] w (Pure (I (W.getD (4*i+k).toNat 0).toInt) w):=by
 refine eH func159 rfl rfl fun hH=>SR<|va (v:=I 0) rfl<|aa<|SR<|aE (v:=Pn _ _) rfl<|V (af O)<|V (fA yD 0 O yH O)<|mI rfl<|V (CA O O J)<|mI rfl<|V (ay O O J)<|aG O hH (Ga _ _ _ _ _ _ _ J _ (hH.ext hb) (hW.hp hH)) (aJ call190 O O)<|fun w1 aW=>V (Xs dW bx O)<|aI rfl<|aa<|aj<|oI O ?_ aW
 rfl
theorem k9{nA nB nC nD nE nF nG nH nI nJ nK nL:Value}(F:Nat)(vW vU vT:Value)(cnt:Int)(nd:List pN)(hn:nd.length<=1000000)(w:World)(hb:w.heap[F]?=some (.cells #[nA,nB,nC,nD,nE,nF,nG,nH,vW,vU,vT,I cnt,nI,nJ,nK,nL] 111 (0,0)))(hW:Sl w vW 1 (bD nd).length ((bD nd).map U)):Calls Tryz.prog 89 #[.pointer (some ⟨F,8,none⟩)] w (Pure (I nd.length) w):=by
 have Zb:=gW nd
 refine eH func89 rfl rfl fun hH=>SR<|va (v:=I 0) rfl<|aa<|ah<|SR<|aE (v:=Pn _ _) rfl<|V (jf Kr O O)<|aa<|dh rfl<|ak<|SR<|aE (v:=Pn _ _) rfl<|V (af O)<|V (fA gR 0 O uw O)<|V (fA yD 0 O yH O)<|aG O hH (wJ _ _ _ _ _ _ _ (hH.ext hb) (hW.hp hH)) (aq call133 O)<|fun w1 aW=>V (ak3 O O J J)<|aI rfl<|aa<|aj<|oI O ?_ aW
 omega
theorem l9{nA nB nC nD nE nF nG nH nI nJ nK nL:Value}(F:Nat)(vW vU vT:Value)(cnt:Int)(nd:List pN)(i:Int)(hn:nd.length<=1000000)(w:World)(hb:w.heap[F]?=some (.cells #[nA,nB,nC,nD,nE,nF,nG,nH,vW,vU,vT,I cnt,nI,nJ,nK,nL] 111 (0,0)))(hW:Sl w vW 1 (bD nd).length ((bD nd).map U)):Calls Tryz.prog 158 #[.pointer (some ⟨F,8,none⟩),I i] w (Pure (B (decide (0<=i/\i<nd.length))) w):=by
 refine eH func158 rfl rfl fun hH=>SR<|va (v:=B false) rfl<|aa<|SR<|mI rfl<|V (dA O O)<|mB rfl<|bN 7 O (fun h2=> ?_) (fun h2=> ?_)
 .refine mI rfl<|aE (v:=Pn _ _) rfl<|aG O hH (k9 _ _ _ _ _ _ m6 _ (hH.ext hb) (hW.hp hH)) (aq call89 O)<|fun w3 gE=>V (aL O O)<|mB rfl<|aB rfl<|aa<|aj<|oB O ?_ gE
  (simp;omega)
 refine aE (v:=B false) rfl<|aB rfl<|aa<|aj<|oB O ?_ hH
 (rw[gF J];done)
theorem AZ{nA nB nC nD nE nF nG nH nI nJ nK nL:Value}(F:Nat)(vW vU vT:Value)(cnt:Int)(W:List (BitVec 64))(w:World)(hb:w.heap[F]?=some (.cells #[nA,nB,nC,nD,nE,nF,nG,nH,vW,vU,vT,I cnt,nI,nJ,nK,nL] 111 (0,0)))(hW:Sl w vW 1 W.length (W.map U)):Calls Tryz.prog 123 #[.pointer (some ⟨F,8,none⟩)] w (Pure (I cnt) w):=by
 refine eH func123 rfl rfl fun hH=>SR<|va (v:=I 0) rfl<|aa<|ah<|SR<|aE (v:=Pn _ _) rfl<|V (jf Kr O O)<|aa<|dh rfl<|ak<|SR<|aE (v:=Pn _ _) rfl<|V (af O)<|V (fA gR 3 O bz O)<|V (au bx O O (hH.ed hb (v:=I _) O))<|aI rfl<|aa<|aj<|oI O ?_ hH
 rfl
theorem Cm{nA nB nC nD nE nF nG nH nI nJ nK nL:Value}(F:Nat)(vW vU vT:Value)(cnt:Int)(W:List (BitVec 64))(ts:List Int)(w:World)(hb:w.heap[F]?=some (.cells #[nA,nB,nC,nD,nE,nF,nG,nH,vW,vU,vT,I cnt,nI,nJ,nK,nL] 111 (0,0)))(hW:Sl w vW 1 W.length (W.map U))(hT:Sl w vT 1 ts.length (ts.map I)):Calls Tryz.prog 46 #[.pointer (some ⟨F,8,none⟩)] w (Pure (I ts.length) w):=by
 refine eH func46 rfl rfl fun hH=>SR<|va (v:=I 0) rfl<|aa<|ah<|SR<|aE (v:=Pn _ _) rfl<|V (jf Kr O O)<|aa<|dh rfl<|ak<|SR<|aE (v:=Pn _ _) rfl<|V (af O)<|V (fA gR 2 O cP O)<|V (au bg O O (hH.ed hb O))<|V (aA (hT.hp hH) O bg O)<|aI rfl<|aa<|aj<|oI O ?_ hH
 rfl
theorem nU{nA nB nC nD nE nF nG nH nI nJ nK nL:Value}(F:Nat)(vW vU vT:Value)(cnt:Int)(nd:List pN)(cl:List Nat)(i:Int)(hn:nd.length<=1000000)(hf:Fo nd cl)(hi:0<=i/\i<nd.length)(w:World)(hb:w.heap[F]?=some (.cells #[nA,nB,nC,nD,nE,nF,nG,nH,vW,vU,vT,I cnt,nI,nJ,nK,nL] 111 (0,0)))(hW:Sl w vW 1 (bD nd).length ((bD nd).map U)):Calls Tryz.prog 160 #[.pointer (some ⟨F,8,none⟩),I i] w (Pure (I (oo nd cl i.toNat)) w):=by
 have Zb:=gW nd
 refine eH func160 rfl rfl fun hH=>SR<|va (v:=I 0) rfl<|aa<|ah<|aC<|bj (G:=Nat) (fun c s' w'=>(Fr (1::(rg 5 12 [])) _ s')/\(Hp w w' _)/\(s' 1=I (c:Int))/\(c<nd.length)/\(cg cl c=cg cl i.toNat)) (fun c=>nd.length-kr nd c) (i.toNat) ⟨Fr.refl _ _,hH,(aK I (show i=((i.toNat:Nat):Int)by omega)),J,rfl⟩<| ?_
 rintro c sg1 w1 ⟨tR,iL,zy,hc,ni⟩
 have lO:=tR.w1 0
 have hcu:=amb hf hn hc
 refine ah<|SR<|aE lO<|V (af O)<|V (fA gR 0 O uw O)<|aE zy<|aG O iL (df _ _ _ _ _ _ _ _ J _ (iL.ext hb) (hW.hp iL)) (bB s8 O O (show _=I 0 from O))<|fun w2 rY=>aE zy<|V (jB O O)<|aa<|aF O (fun h5=> ?_) (fun h5=> ?_)
 .refine ak<|aC<|ax<|aE lO<|V (af O)<|V (fA gR 0 O uw O)<|aE zy<|aG O rY (df _ _ _ _ _ _ _ _ J _ (rY.ext hb) (hW.hp rY)) (bB s8 O O (show _=I 0 from O))<|fun w6 eD=>aI rfl<|aa<| ?_
  refine⟨rI nd c,?_,tR.u4.u4.u4.u1,eD,(aK I hcu),?_,?_⟩
  .have hne:rI nd c≠c:=fun e=>‹_≠(c:Int)› (hcu.trans (by rw[e]));exact(Rv hf hc O).2.2 hne
  .exact(Rv hf hc ni).1
  exact(Rv hf hc ni).2.1
 refine a7 (id:=0) rfl<|SR<|aE zy<|aI rfl<|aa<|aj<|oI O ?_ rY
 exact aK (fun x:Nat=>(x:Int)) (agU hf J hc J ni)
theorem Co{nA nB nC nD nE nF nG nH nI nJ nK nL:Value}(F:Nat)(vW vU vT:Value)(cnt:Int)(nd:List pN)(cl:List Nat)(i:Int)(hn:nd.length<=1000000)(hf:Fo nd cl)(w:World)(hb:w.heap[F]?=some (.cells #[nA,nB,nC,nD,nE,nF,nG,nH,vW,vU,vT,I cnt,nI,nJ,nK,nL] 111 (0,0)))(hW:Sl w vW 1 (bD nd).length ((bD nd).map U)):Calls Tryz.prog 128 #[.pointer (some ⟨F,8,none⟩),I i] w (Pure (I (fl cl i)) w):=by
 have Zb:=gW nd
 refine eH func128 rfl rfl fun hH=>SR<|va (v:=I 0) rfl<|aa<|ah<|SR<|aE (v:=Pn _ _) rfl<|mI rfl<|aG O hH (l9 _ _ _ _ _ _ _ m6 _ (hH.ext hb) (hW.hp hH)) (aJ call158 O O)<|fun w1 aW=>V (uC O)<|aa<|aF O (fun h6=> ?_) (fun h6=> ?_)
 .refine SR<|va (v:=I (-1)) rfl<|aa<|aj<|oI O ?_ aW
  exact acz hf J
 refine ak<|ah<|eF aM aW<|fun w7 fq=>have zh8:=fq;AQ 0 O zh8 (mV (Pn _ _) O)<|AQ 1 O zh8 (af O)<|AQ 2 O zh8 (fA gR 0 O uw O)<|AQ 3 O zh8 (mV (Pn _ _) O)<|AQ 4 O zh8 (mV (I _) O)<|A1 5<|cJ O aH O fq sR (nU _ _ _ _ _ nd cl _ m6 m6 J _ (fq.ext hb) (hW.hp fq)) (aJ call160 O O)<|fun w9 bW=>A1 6<|cJ O aH O bW sR (df _ _ _ _ _ _ _ _ (by have:=(oM hf (i:=i.toNat) J).1;omega) _ (bW.ext hb) (hW.hp bW)) (bB s8 O O (show _=I 3 from O))<|fun ID cK=>AQ 7 O cK (aV (I _) O)<|AD<|aj<|oI O ?_ cK
 exact acA hf hn J
theorem Dc{nA nB nC nD nE nF nG nH nI nJ nK nL:Value}(W0:World)(F:Nat)(vW vU vT:Value)(cnt:Int)(cW:Option (Nat×Array Value))(W:List (BitVec 64))(L:List a8)(b1 b2:Nat)(n:Int)(hn:0<=n/\n<=W.length)(w:World)(h1:a8.blk b1 (.cells #[.pointer (some ⟨F,8,none⟩)] 193 (0,0))∈L)(h2:a8.blk b2 (.cells #[I n] 3 (0,0))∈L)(yw:cO cW vW (W.map U))(hH:Hp W0 w (.blk F (.cells #[nA,nB,nC,nD,nE,nF,nG,nH,vW,vU,vT,I (cnt),nI,nJ,nK,nL] 111 (0,0))::cE cW vW 35 (W.map U)::L)):Calls Tryz.prog 134 #[.pointer (some ⟨b1,0,none⟩),.pointer (some ⟨b2,0,none⟩)] w (iA fun u w'=>u= .tuple #[]/\∃v' c',cO c' v' ((W.take n.toNat).map U)/\Hp W0 w' (.blk F (.cells #[nA,nB,nC,nD,nE,nF,nG,nH,v',vU,vT,I (cnt),nI,nJ,nK,nL] 111 (0,0))::cE c' v' 35 ((W.take n.toNat).map U)::L)):=by
 refine en func134 rfl rfl<|gY aM hH (sQ (sQ sR))<|fun w1 aW=>have fK:=aW.sub (sQ (sQ sR));AT 0 O fK (fun w hS=>au pF O O (hS.gP h1 (v:=Pn _ _) O))<|AT 1 O fK (fun w hS=>au pF O O (hS.gP h1 (v:=Pn _ _) O))<|AQ 2 O fK (af O)<|AQ 3 O fK (fA lR 0 O iN O)<|AT 5 O fK (fun w hS=>au bx O O (hS.gP h2 (v:=I _) O))<|AT 6 O fK (fun w hS=>au bx O O (hS.gP h2 (v:=I _) O))<|A1 4<|cf O aH O aW (sQ (sQ sR)) (au cS O O (aW.cell (i:=0) O O))<|A1 7<|cf O aH O aW (sQ (sQ sR)) (uR (aW.xY (i:=1) O yw) cS c8 O O O J)<|AQ 8 O fK (af O)<|AQ 9 O fK (fA lR 0 O iN O)<|A1 10<|have hs1:=((aW.xY (i:=1) O yw)).sD (n:=(n).toNat) J;?_
 obtain⟨c9,ayv,dF⟩:=aW.arG (i:=1) O yw (m:=(n).toNat) Xn
 simp only[fO,gU,<-wY]at dF ayv
 refine ec O aH dF (j:=0) O (sQ (sQ sR)) (bL O O (v:=(sD vW (n).toNat)) O (gN hs1).2 (gN hs1).1 (dF.blk (i:=0) O) az)<|fun B7 cm=>AD<|nW O ⟨rfl,(sD vW (n).toNat),c9,ayv,cm⟩
theorem Dd{nA nB nC nD nE nF nG nH nI nJ nK nL:Value}(W0:World)(F:Nat)(vW vU vT:Value)(cnt:Int)(cW:Option (Nat×Array Value))(W:List (BitVec 64))(L:List a8)(b1 b2 b3:Nat)(i:Int)(b:BitVec 64)(hi:0<=i/\i<W.length)(w:World)(h1:a8.blk b1 (.cells #[U b] 35 (0,0))∈L)(h2:a8.blk b2 (.cells #[.pointer (some ⟨F,8,none⟩)] 193 (0,0))∈L)(h3:a8.blk b3 (.cells #[I i] 3 (0,0))∈L)(yw:cO cW vW (W.map U))(hH:Hp W0 w (.blk F (.cells #[nA,nB,nC,nD,nE,nF,nG,nH,vW,vU,vT,I (cnt),nI,nJ,nK,nL] 111 (0,0))::cE cW vW 35 (W.map U)::L)):Calls Tryz.prog 243 #[.pointer (some ⟨b1,0,none⟩),.pointer (some ⟨b2,0,none⟩),.pointer (some ⟨b3,0,none⟩)] w (iA fun u w'=>u= .tuple #[]/\∃v' c',cO c' v' ((W.set i.toNat b).map U)/\Hp W0 w' (.blk F (.cells #[nA,nB,nC,nD,nE,nF,nG,nH,v',vU,vT,I (cnt),nI,nJ,nK,nL] 111 (0,0))::cE c' v' 35 ((W.set i.toNat b).map U)::L)):=by
 refine en func243 rfl rfl<|gY aM hH (sP (sQ sR))<|fun w1 aW=>have fK:=aW.sub (sP (sQ sR));AT 0 O fK (fun w hS=>au pF O O (hS.gP (mT h2) (v:=Pn _ _) O))<|AQ 1 O fK (af O)<|AQ 2 O fK (fA lR 0 O iN O)<|tV 3 O fK cS 0 O O rfl<|AT 4 O fK (fun w hS=>au bx O O (hS.gP (mT h3) (v:=I _) O))<|AT 5 O fK (fun w hS=>au dW O O (hS.gP (mT h1) (v:=U _) O))<|A1 6<|cf O aH O aW (sP (sQ sR)) (ag (aW.xY (i:=1) O yw) cS c8 O O J)<|A1 7<|agZ (u:=U _) O aH aW (i:=1) O yw (fun _ _=>(sP (sQ sR))) Xn O O O O rfl<|fun c7 w9 hk8 bW=> ?_
 simp only[fO,gU,Fz]at bW hk8
 refine AD<|nW O ⟨rfl,vW,c7,hk8,bW⟩
theorem qJ{nA nB nC nD nE nF nG nH nI nJ nK nL:Value}(W0:World)(F:Nat)(vW vU vT:Value)(cnt:Int)(cW cU:Option (Nat×Array Value))(W:List (BitVec 64))(ul:List (Value×jo))(L:List a8)(b:BitVec 64)(Zb:W.length<=4000000)(NU:ul.length<=4000000)(w:World)(yw:cO cW vW (W.map U))(IF:cO cU vU (ul.map Prod.fst))(hH:Hp W0 w (.blk F (.cells #[nA,nB,nC,nD,nE,nF,nG,nH,vW,vU,vT,I (cnt),nI,nJ,nK,nL] 111 (0,0))::cE cW vW 35 (W.map U)::cE cU vU 1 (ul.map Prod.fst)::L)):Calls Tryz.prog 91 #[.pointer (some ⟨F,8,none⟩),U b] w (iA fun u w'=>u=I W.length/\∃(v':Value) (c':Option (Nat×Array Value)) (v2:Value) (c2:Option (Nat×Array Value)) (wK:List (Value×jo)) (Lb:List a8),cO c' v' ((W++[b]).map U)/\cO c2 v2 (wK.map Prod.fst)/\wK.map Prod.snd=ul.map Prod.snd++[jo.add W.length]/\wK.take ul.length=ul/\wK.length<=ul.length+1/\(∀x∈wK.drop ul.length,oQ (⟨134,243,193,3,35,8⟩:UT) F Lb x)/\Hp W0 w' (.blk F (.cells #[nA,nB,nC,nD,nE,nF,nG,nH,v',v2,vT,I (cnt),nI,nJ,nK,nL] 111 (0,0))::cE c' v' 35 ((W++[b]).map U)::cE c2 v2 1 (wK.map Prod.fst)::(Lb++L))):=by
 refine en func91 rfl rfl<|SR<|iu hH (v:=Pn _ _) rfl<|fun b3 w1 aW=>va (v:=I 0) rfl<|aa<|ah<|SR<|lP pF aW 0 O O rfl<|V (jf pF O O)<|aa<|dh rfl<|ak<|SR<|lP pF aW 0 O O rfl<|V (af O)<|V (fA lR 0 O iN O)<|lV cS aW 1 O O rfl<|V (aA (aW.xY (i:=2) O yw) O cS O)<|oY aW (bf Tryz.zeroValue3)<|fun b6 w4 bU=>bu bU (i:=0) O (bL O O (v:=I _) O O O (bU.blk (i:=0) O) aD)<|fun w7 fq=>aa<|ah<|gY aM fq (sP (sP (sQ (sQ sR))))<|fun w9 bW=>have kU:=bW.sub (sP (sP (sQ (sQ sR))));tP 0 O kU pF 1 O O rfl<|tP 1 O kU pF 1 O O rfl<|AQ 2 O kU (af O)<|AQ 3 O kU (fA lR 0 O iN O)<|AQ 5 O kU (mV (U _) O)<|iy 4 6 aM ?_ ?_
 .refine cf O aH O bW (sP (sP (sQ (sQ sR)))) (au cS O O (bW.cell (i:=2) O O))<|A1 6<|cY O aH O bW (sP (sP (sQ (sQ sR)))) (f:=fun b=> .slice (some ⟨b,0,none⟩) 1 1) (ct cS O O (sz:=1) (vs:=[U _]) O O aD aD O O)<|fun b15 C7 cF=> ?_
  (try simp only[oX]at cF)
  refine A1 7<|BJ (y0:=U b) O aH O cF (i:=4) O yw (fun _ _=>(sQ (sP (sP (sQ (sQ sR)))))) (cF.dQ (i:=0) (n:=1) (sz:=1) O O aD) O O cS O O O (bytes:=8) O O O tJ tJ<|fun v18 Vo cL=> ?_
  rw[Pk]at cL
  refine AQ 8 O (cL.sub (sQ (sP (sP (sQ (sQ sR)))))) (af O)<|AQ 9 O (cL.sub (sQ (sP (sP (sQ (sQ sR)))))) (fA lR 0 O iN O)<|A1 10<|ec O aH cL (j:=3) O (sQ (sP (sP (sQ (sQ sR))))) (bL O O (v:=v18) O (gN (cL.xY (i:=4) O trivial)).2 (gN (cL.xY (i:=4) O trivial)).1 (cL.blk (i:=3) O) az)<|fun w23 oF=>AD<|ah<|gY aM oF (sP (sP (sP (sQ (sP (sQ sR))))))<|fun w25 kB=>have I8:=kB.sub (sP (sP (sP (sQ (sP (sQ sR))))));tP 0 O I8 pF 2 O O rfl<|tP 1 O I8 pF 2 O O rfl<|AQ 2 O I8 (af O)<|AQ 3 O I8 (fA lR 1 O jQ O)<| ?_
  refine AQ 5 O I8 (r6 bG bG) ?_
  refine iy 4 6 aM ?_ ?_
  .refine cf O aH O kB (sP (sP (sP (sQ (sP (sQ sR)))))) (au gH O O (kB.cell (i:=3) O O))<|A1 6<|cY O aH O kB (sP (sP (sP (sQ (sP (sQ sR)))))) (f:=fun b=> .slice (some ⟨b,0,none⟩) 1 1) (ct gH O O (sz:=1) (vs:=[.func _ _ _]) O O aD aD O O)<|fun b31 w29 jx=> ?_
   (try simp only[oX]at jx)
   refine A1 7<|BJ (y0:= .func (.func 134) #[] #[.pointer (some ⟨b3,0,none⟩),.pointer (some ⟨b6,0,none⟩)]) rfl aH rfl jx (i:=6) O IF (fun _ _=>(sQ (sP (sP (sP (sQ (sP (sQ sR)))))))) (jx.dQ (i:=0) (n:=1) (sz:=1) O O aD) O O gH O O O (bytes:=8) O O O tJ tJ<|fun v34 w35 nO=> ?_
   rw[uk (jo.add W.length)]at nO
   refine AQ 8 O (nO.sub (sQ (sP (sP (sP (sQ (sP (sQ sR)))))))) (af O)<|AQ 9 O (nO.sub (sQ (sP (sP (sP (sQ (sP (sQ sR)))))))) (fA lR 1 O jQ O)<|A1 10<|ec O aH nO (j:=4) O (sQ (sP (sP (sP (sQ (sP (sQ sR))))))) (bL O O (v:=v34) O (gN (nO.Az (i:=6) O trivial)).2 (gN (nO.Az (i:=6) O trivial)).1 (nO.blk (i:=4) O) az)<|fun w39 n8=>AD<|SR<|lI bx n8 2 O O rfl<|aI rfl<|aa<|aj<|iG O (v:=I W.length) O ⟨rfl,v18,none,v34,none,(ul++[(.func (.func 134) #[] #[.pointer (some ⟨b3,0,none⟩),.pointer (some ⟨b6,0,none⟩)],jo.add W.length)]),[a8.blk b3 (.cells #[.pointer (some ⟨F,8,none⟩)] 193 (0,0)),a8.blk b6 (.cells #[I W.length] 3 (0,0))],trivial,trivial,az,az,az,?_,(n8.pj [4,4,4,3,2]).sub (sP (sP (sP (sP (sP (sQ (sQ sR)))))))⟩
   intro x hx;rw[D3,fZ]at hx;subst hx;exact⟨_,_,rfl,az,az⟩
  refine cY O aH O kB (sP (sP (sP (sQ (sP (sQ sR)))))) (f:=fun b=> .slice (some ⟨b,0,none⟩) 1 1) (ct gH O O (sz:=1) (vs:=[.func _ _ _]) O O aD aD O O)<|fun b43 w41 ym=> ?_
  (try simp only[oX]at ym)
  refine A1 4<|cf O aH O ym (sQ (sP (sP (sP (sQ (sP (sQ sR))))))) (au gH O O (ym.cell (i:=4) O O))<|A1 7<|BJ (y0:= .func (.func 134) #[] #[.pointer (some ⟨b3,0,none⟩),.pointer (some ⟨b6,0,none⟩)]) rfl aH rfl ym (i:=6) O IF (fun _ _=>(sQ (sP (sP (sP (sQ (sP (sQ sR)))))))) (ym.dQ (i:=0) (n:=1) (sz:=1) O O aD) O O gH O O O (bytes:=8) O O O tJ tJ<|fun v48 w49 eS=> ?_
  rw[uk (jo.add W.length)]at eS
  refine AQ 8 O (eS.sub (sQ (sP (sP (sP (sQ (sP (sQ sR)))))))) (af O)<|AQ 9 O (eS.sub (sQ (sP (sP (sP (sQ (sP (sQ sR)))))))) (fA lR 1 O jQ O)<|A1 10<|ec O aH eS (j:=4) O (sQ (sP (sP (sP (sQ (sP (sQ sR))))))) (bL O O (v:=v48) O (gN (eS.Az (i:=6) O trivial)).2 (gN (eS.Az (i:=6) O trivial)).1 (eS.blk (i:=4) O) az)<|fun w53 gy=>AD<|SR<|lI bx gy 2 O O rfl<|aI rfl<|aa<|aj<|iG O (v:=I W.length) O ⟨rfl,v18,none,v48,none,(ul++[(.func (.func 134) #[] #[.pointer (some ⟨b3,0,none⟩),.pointer (some ⟨b6,0,none⟩)],jo.add W.length)]),[a8.blk b3 (.cells #[.pointer (some ⟨F,8,none⟩)] 193 (0,0)),a8.blk b6 (.cells #[I W.length] 3 (0,0))],trivial,trivial,az,az,az,?_,(gy.pj [4,4,4,3,2]).sub (sP (sP (sP (sP (sP (sQ (sQ sR)))))))⟩
  intro x hx;rw[D3,fZ]at hx;subst hx;exact⟨_,_,rfl,az,az⟩
 refine cY O aH O bW (sP (sP (sQ (sQ sR)))) (f:=fun b=> .slice (some ⟨b,0,none⟩) 1 1) (ct cS O O (sz:=1) (vs:=[U _]) O O aD aD O O)<|fun b57 w55 oH=> ?_
 (try simp only[oX]at oH)
 refine A1 4<|cf O aH O oH (sQ (sP (sP (sQ (sQ sR))))) (au cS O O (oH.cell (i:=3) O O))<|A1 7<|BJ (y0:=U b) O aH O oH (i:=4) O yw (fun _ _=>(sQ (sP (sP (sQ (sQ sR)))))) (oH.dQ (i:=0) (n:=1) (sz:=1) O O aD) O O cS O O O (bytes:=8) O O O tJ tJ<|fun v62 w63 Cg=> ?_
 rw[Pk]at Cg
 refine AQ 8 O (Cg.sub (sQ (sP (sP (sQ (sQ sR)))))) (af O)<|AQ 9 O (Cg.sub (sQ (sP (sP (sQ (sQ sR)))))) (fA lR 0 O iN O)<|A1 10<|ec O aH Cg (j:=3) O (sQ (sP (sP (sQ (sQ sR))))) (bL O O (v:=v62) O (gN (Cg.xY (i:=4) O trivial)).2 (gN (Cg.xY (i:=4) O trivial)).1 (Cg.blk (i:=3) O) az)<|fun w67 mA=>AD<|ah<|gY aM mA (sP (sP (sP (sQ (sP (sQ sR))))))<|fun w69 vk=>have No:=vk.sub (sP (sP (sP (sQ (sP (sQ sR))))));tP 0 O No pF 2 O O rfl<|tP 1 O No pF 2 O O rfl<|AQ 2 O No (af O)<|AQ 3 O No (fA lR 1 O jQ O)<| ?_
 refine AQ 5 O No (r6 bG bG) ?_
 refine iy 4 6 aM ?_ ?_
 .refine cf O aH O vk (sP (sP (sP (sQ (sP (sQ sR)))))) (au gH O O (vk.cell (i:=3) O O))<|A1 6<|cY O aH O vk (sP (sP (sP (sQ (sP (sQ sR)))))) (f:=fun b=> .slice (some ⟨b,0,none⟩) 1 1) (ct gH O O (sz:=1) (vs:=[.func _ _ _]) O O aD aD O O)<|fun b75 w73 zS=> ?_
  (try simp only[oX]at zS)
  refine A1 7<|BJ (y0:= .func (.func 134) #[] #[.pointer (some ⟨b3,0,none⟩),.pointer (some ⟨b6,0,none⟩)]) rfl aH rfl zS (i:=6) O IF (fun _ _=>(sQ (sP (sP (sP (sQ (sP (sQ sR)))))))) (zS.dQ (i:=0) (n:=1) (sz:=1) O O aD) O O gH O O O (bytes:=8) O O O tJ tJ<|fun v78 w79 tA=> ?_
  rw[uk (jo.add W.length)]at tA
  refine AQ 8 O (tA.sub (sQ (sP (sP (sP (sQ (sP (sQ sR)))))))) (af O)<|AQ 9 O (tA.sub (sQ (sP (sP (sP (sQ (sP (sQ sR)))))))) (fA lR 1 O jQ O)<|A1 10<|ec O aH tA (j:=4) O (sQ (sP (sP (sP (sQ (sP (sQ sR))))))) (bL O O (v:=v78) O (gN (tA.Az (i:=6) O trivial)).2 (gN (tA.Az (i:=6) O trivial)).1 (tA.blk (i:=4) O) az)<|fun w83 oc=>AD<|SR<|lI bx oc 2 O O rfl<|aI rfl<|aa<|aj<|iG O (v:=I W.length) O ⟨rfl,v62,none,v78,none,(ul++[(.func (.func 134) #[] #[.pointer (some ⟨b3,0,none⟩),.pointer (some ⟨b6,0,none⟩)],jo.add W.length)]),[a8.blk b3 (.cells #[.pointer (some ⟨F,8,none⟩)] 193 (0,0)),a8.blk b6 (.cells #[I W.length] 3 (0,0))],trivial,trivial,az,az,az,?_,(oc.pj [4,4,4,3,2]).sub (sP (sP (sP (sP (sP (sQ (sQ sR)))))))⟩
  intro x hx;rw[D3,fZ]at hx;subst hx;exact⟨_,_,rfl,az,az⟩
 refine cY O aH O vk (sP (sP (sP (sQ (sP (sQ sR)))))) (f:=fun b=> .slice (some ⟨b,0,none⟩) 1 1) (ct gH O O (sz:=1) (vs:=[.func _ _ _]) O O aD aD O O)<|fun b87 w85 vX=> ?_
 (try simp only[oX]at vX)
 refine A1 4<|cf O aH O vX (sQ (sP (sP (sP (sQ (sP (sQ sR))))))) (au gH O O (vX.cell (i:=4) O O))<|A1 7<|BJ (y0:= .func (.func 134) #[] #[.pointer (some ⟨b3,0,none⟩),.pointer (some ⟨b6,0,none⟩)]) rfl aH rfl vX (i:=6) O IF (fun _ _=>(sQ (sP (sP (sP (sQ (sP (sQ sR)))))))) (vX.dQ (i:=0) (n:=1) (sz:=1) O O aD) O O gH O O O (bytes:=8) O O O tJ tJ<|fun v92 w93 vY=> ?_
 rw[uk (jo.add W.length)]at vY
 refine AQ 8 O (vY.sub (sQ (sP (sP (sP (sQ (sP (sQ sR)))))))) (af O)<|AQ 9 O (vY.sub (sQ (sP (sP (sP (sQ (sP (sQ sR)))))))) (fA lR 1 O jQ O)<|A1 10<|ec O aH vY (j:=4) O (sQ (sP (sP (sP (sQ (sP (sQ sR))))))) (bL O O (v:=v92) O (gN (vY.Az (i:=6) O trivial)).2 (gN (vY.Az (i:=6) O trivial)).1 (vY.blk (i:=4) O) az)<|fun w97 Sq=>AD<|SR<|lI bx Sq 2 O O rfl<|aI rfl<|aa<|aj<|iG O (v:=I W.length) O ⟨rfl,v62,none,v92,none,(ul++[(.func (.func 134) #[] #[.pointer (some ⟨b3,0,none⟩),.pointer (some ⟨b6,0,none⟩)],jo.add W.length)]),[a8.blk b3 (.cells #[.pointer (some ⟨F,8,none⟩)] 193 (0,0)),a8.blk b6 (.cells #[I W.length] 3 (0,0))],trivial,trivial,az,az,az,?_,(Sq.pj [4,4,4,3,2]).sub (sP (sP (sP (sP (sP (sQ (sQ sR)))))))⟩
 intro x hx;rw[D3,fZ]at hx;subst hx;exact⟨_,_,rfl,az,az⟩
theorem Gb{nA nB nC nD nE nF nG nH nI nJ nK nL:Value}(W0:World)(F:Nat)(vW vU vT:Value)(cnt:Int)(cW cU:Option (Nat×Array Value))(W:List (BitVec 64))(ul:List (Value×jo))(L:List a8)(i:Int)(b:BitVec 64)(Zb:W.length<=4000000)(NU:ul.length<=4000000)(hi:0<=i/\i<W.length)(w:World)(yw:cO cW vW (W.map U))(IF:cO cU vU (ul.map Prod.fst))(hH:Hp W0 w (.blk F (.cells #[nA,nB,nC,nD,nE,nF,nG,nH,vW,vU,vT,I (cnt),nI,nJ,nK,nL] 111 (0,0))::cE cW vW 35 (W.map U)::cE cU vU 1 (ul.map Prod.fst)::L)):Calls Tryz.prog 217 #[.pointer (some ⟨F,8,none⟩),I i,U b] w (iA fun u w'=>u=B true/\∃(v':Value) (c':Option (Nat×Array Value)) (v2:Value) (c2:Option (Nat×Array Value)) (wK:List (Value×jo)) (Lb:List a8),cO c' v' ((W.set i.toNat b).map U)/\cO c2 v2 (wK.map Prod.fst)/\wK.map Prod.snd=Hx W (ul.map Prod.snd) i.toNat b/\wK.take ul.length=ul/\wK.length<=ul.length+1/\(∀x∈wK.drop ul.length,oQ (⟨134,243,193,3,35,8⟩:UT) F Lb x)/\Hp W0 w' (.blk F (.cells #[nA,nB,nC,nD,nE,nF,nG,nH,v',v2,vT,I (cnt),nI,nJ,nK,nL] 111 (0,0))::cE c' v' 35 ((W.set i.toNat b).map U)::cE c2 v2 1 (wK.map Prod.fst)::(Lb++L))):=by
 refine en func217 rfl rfl<|SR<|iu hH (v:=Pn _ _) rfl<|fun b3 w1 aW=>iu aW (v:=I _) rfl<|fun b6 w4 bU=>va (v:=B false) rfl<|aa<|ah<|SR<|lP pF bU 1 O O rfl<|lI bx bU 0 O O rfl<|aG O bU (yo _ _ _ _ _ _ _ _ (bU.blk (i:=2) O) (bU.xY (i:=3) O yw)) (aJ call218 O O)<|fun w7 fq=>V (bO (bT (hi)))<|aa<|dh rfl<|ak<|ah<|eF aM fq<|fun ID cK=>have Zg:=cK;tP 0 O Zg pF 1 O O rfl<|AQ 1 O Zg (af O)<|AQ 2 O Zg (fA lR 0 O iN O)<|tV 3 O Zg cS 2 O O rfl<|tI 4 O Zg bx 0 O O rfl<|AT 5 O Zg (fun w hS=>ag (hS.xY (i:=3) O yw) cS c8 O O J)<|AT 6 O Zg (fun w hS=>au dW O O (Sl.atU (hS.xY (i:=3) O yw) J J))<|A1 7<|cY O aH O cK sR (f:=fun b=> .pointer (some ⟨b,0,none⟩)) (bf Tryz.zeroValue35)<|fun b15 C7 cF=>A1 8<|ec O aH cF (j:=0) O (sQ sR) (bL O O (v:=U _) O O O (cF.blk (i:=0) O) aD)<|fun JZ dU=>AD<|ah<|SR<|V (au dW O O (dU.cell (i:=0) O (v:=U _) O))<|mU rfl<|V (uB O O)<|aa<|aF O (fun MU=> ?_) (fun MU=> ?_)
 .refine ah<|gY aM dU (sP (sP (sP (sP (sQ sR)))))<|fun w20 fp=>have nS:=fp.sub (sP (sP (sP (sP (sQ sR)))));tP 0 O nS pF 2 O O rfl<|AQ 1 O nS (af O)<|AQ 2 O nS (fA lR 0 O iN O)<|tV 3 O nS cS 3 O O rfl<|tI 4 O nS bx 1 O O rfl<|AQ 5 O nS (mV (U _) O)<|A1 6<|cf O aH O fp (sP (sP (sP (sP (sQ sR))))) (ag (fp.xY (i:=4) O yw) cS c8 O O J)<|A1 7<|agZ (u:=U _) O aH fp (i:=4) O yw (fun _ _=>(sP (sP (sP (sP (sQ sR)))))) Xn O O O O rfl<|fun c26 w28 atB gx=> ?_
  simp only[fO,gU,Fz]at gx atB
  refine AD<|gY aM gx (sP (sP (sP (sQ (sP (sQ sR))))))<|fun w30 l7=>have HQ:=l7.sub (sP (sP (sP (sQ (sP (sQ sR))))));tP 0 O HQ pF 2 O O rfl<|tP 1 O HQ pF 2 O O rfl<|AQ 2 O HQ (af O)<|AQ 3 O HQ (fA lR 1 O jQ O)<| ?_
  refine AQ 5 O HQ (KZ bG bG bG) ?_
  refine iy 4 6 aM ?_ ?_
  .refine cf O aH O l7 (sP (sP (sP (sQ (sP (sQ sR)))))) (au gH O O (l7.cell (i:=3) O O))<|A1 6<|cY O aH O l7 (sP (sP (sP (sQ (sP (sQ sR)))))) (f:=fun b=> .slice (some ⟨b,0,none⟩) 1 1) (ct gH O O (sz:=1) (vs:=[.func _ _ _]) O O aD aD O O)<|fun b36 w34 yl=> ?_
   (try simp only[oX]at yl)
   refine A1 7<|BJ (y0:= .func (.func 243) #[] #[.pointer (some ⟨b15,0,none⟩),.pointer (some ⟨b3,0,none⟩),.pointer (some ⟨b6,0,none⟩)]) rfl aH rfl yl (i:=6) O IF (fun _ _=>(sQ (sP (sP (sP (sQ (sP (sQ sR)))))))) (yl.dQ (i:=0) (n:=1) (sz:=1) O O aD) O O gH O O O (bytes:=8) O O O tJ tJ<|fun v39 w40 jM=> ?_
   rw[uk (jo.set i.toNat (W.getD i.toNat 0))]at jM
   refine AQ 8 O (jM.sub (sQ (sP (sP (sP (sQ (sP (sQ sR)))))))) (af O)<|AQ 9 O (jM.sub (sQ (sP (sP (sP (sQ (sP (sQ sR)))))))) (fA lR 1 O jQ O)<|A1 10<|ec O aH jM (j:=4) O (sQ (sP (sP (sP (sQ (sP (sQ sR))))))) (bL O O (v:=v39) O (gN (jM.Az (i:=6) O trivial)).2 (gN (jM.Az (i:=6) O trivial)).1 (jM.blk (i:=4) O) az)<|fun w44 qR=>AD<|SR<|va (v:=B true) rfl<|aa<|aj<|iG O (v:=B true) O ⟨rfl,vW,c26,v39,none,(ul++[(.func (.func 243) #[] #[.pointer (some ⟨b15,0,none⟩),.pointer (some ⟨b3,0,none⟩),.pointer (some ⟨b6,0,none⟩)],jo.set i.toNat (W.getD i.toNat 0))]),[a8.blk b15 (.cells #[U (W.getD i.toNat 0)] 35 (0,0)),a8.blk b3 (.cells #[.pointer (some ⟨F,8,none⟩)] 193 (0,0)),a8.blk b6 (.cells #[I i] 3 (0,0))],atB,trivial,?_,az,az,?_,(qR.pj [4,4,4,1,2,1]).sub (sP (sP (sP (sP (sP (sP (sQ sR)))))))⟩
   ·(rw[Hx,aP ‹_≠b›];simp;done)
   (intro x hx;rw[D3,fZ]at hx;subst hx;exact⟨_,_,_,rfl,az,az,by simp[fN hi.1]⟩)
  refine cY O aH O l7 (sP (sP (sP (sQ (sP (sQ sR)))))) (f:=fun b=> .slice (some ⟨b,0,none⟩) 1 1) (ct gH O O (sz:=1) (vs:=[.func _ _ _]) O O aD aD O O)<|fun b48 w46 oa=> ?_
  (try simp only[oX]at oa)
  refine A1 4<|cf O aH O oa (sQ (sP (sP (sP (sQ (sP (sQ sR))))))) (au gH O O (oa.cell (i:=4) O O))<|A1 7<|BJ (y0:= .func (.func 243) #[] #[.pointer (some ⟨b15,0,none⟩),.pointer (some ⟨b3,0,none⟩),.pointer (some ⟨b6,0,none⟩)]) rfl aH rfl oa (i:=6) O IF (fun _ _=>(sQ (sP (sP (sP (sQ (sP (sQ sR)))))))) (oa.dQ (i:=0) (n:=1) (sz:=1) O O aD) O O gH O O O (bytes:=8) O O O tJ tJ<|fun v53 w54 iY=> ?_
  rw[uk (jo.set i.toNat (W.getD i.toNat 0))]at iY
  refine AQ 8 O (iY.sub (sQ (sP (sP (sP (sQ (sP (sQ sR)))))))) (af O)<|AQ 9 O (iY.sub (sQ (sP (sP (sP (sQ (sP (sQ sR)))))))) (fA lR 1 O jQ O)<|A1 10<|ec O aH iY (j:=4) O (sQ (sP (sP (sP (sQ (sP (sQ sR))))))) (bL O O (v:=v53) O (gN (iY.Az (i:=6) O trivial)).2 (gN (iY.Az (i:=6) O trivial)).1 (iY.blk (i:=4) O) az)<|fun w58 sS=>AD<|SR<|va (v:=B true) rfl<|aa<|aj<|iG O (v:=B true) O ⟨rfl,vW,c26,v53,none,(ul++[(.func (.func 243) #[] #[.pointer (some ⟨b15,0,none⟩),.pointer (some ⟨b3,0,none⟩),.pointer (some ⟨b6,0,none⟩)],jo.set i.toNat (W.getD i.toNat 0))]),[a8.blk b15 (.cells #[U (W.getD i.toNat 0)] 35 (0,0)),a8.blk b3 (.cells #[.pointer (some ⟨F,8,none⟩)] 193 (0,0)),a8.blk b6 (.cells #[I i] 3 (0,0))],atB,trivial,?_,az,az,?_,(sS.pj [4,4,4,1,2,1]).sub (sP (sP (sP (sP (sP (sP (sQ sR)))))))⟩
  ·(rw[Hx,aP ‹_≠b›];simp;done)
  (intro x hx;rw[D3,fZ]at hx;subst hx;exact⟨_,_,_,rfl,az,az,by simp[fN hi.1]⟩)
 refine ak<|SR<|va (v:=B true) rfl<|aa<|aj<| ?_
 rw[L6 (Qk.1 ‹¬_≠b›)]
 refine iG O (v:=B true) O ⟨rfl,vW,cW,vU,cU,ul,[],yw,IF,?_,az,az,?_,(dU.pj [3,3,3]).sub (sP (sP (sP (sQ (sQ (sQ sR))))))⟩
 ·(rw[Hx,aQ (Qk.1 ‹¬_≠b›)])
 (intro x hx;simp at hx)
theorem j9{nA nB nC nD nE nF nG nH nI nJ nK nL:Value}(W0:World)(F:Nat)(vW vU vT:Value)(cnt:Int)(cW cU:Option (Nat×Array Value))(W:List (BitVec 64))(ul:List (Value×jo))(L:List a8)(i k to:Int)(Zb:W.length<=4000000)(NU:ul.length<=4000000)(hi:0<=i/\i<1000000/\0<=k/\k<4/\4*i+k<W.length)(w:World)(yw:cO cW vW (W.map U))(IF:cO cU vU (ul.map Prod.fst))(hH:Hp W0 w (.blk F (.cells #[nA,nB,nC,nD,nE,nF,nG,nH,vW,vU,vT,I (cnt),nI,nJ,nK,nL] 111 (0,0))::cE cW vW 35 (W.map U)::cE cU vU 1 (ul.map Prod.fst)::L)):Calls Tryz.prog 189 #[.pointer (some ⟨F,8,none⟩),I i,I k,I to] w (iA fun u w'=>u= .tuple #[]/\∃(v':Value) (c':Option (Nat×Array Value)) (v2:Value) (c2:Option (Nat×Array Value)) (wK:List (Value×jo)) (Lb:List a8),cO c' v' ((W.set (4*i+k).toNat (BitVec.ofInt 64 to)).map U)/\cO c2 v2 (wK.map Prod.fst)/\wK.map Prod.snd=Hx W (ul.map Prod.snd) (4*i+k).toNat (BitVec.ofInt 64 to)/\wK.take ul.length=ul/\wK.length<=ul.length+1/\(∀x∈wK.drop ul.length,oQ (⟨134,243,193,3,35,8⟩:UT) F Lb x)/\Hp W0 w' (.blk F (.cells #[nA,nB,nC,nD,nE,nF,nG,nH,v',v2,vT,I (cnt),nI,nJ,nK,nL] 111 (0,0))::cE c' v' 35 ((W.set (4*i+k).toNat (BitVec.ofInt 64 to)).map U)::cE c2 v2 1 (wK.map Prod.fst)::(Lb++L))):=by
 refine en func189 rfl rfl<|ax<|aE (v:=Pn _ _) rfl<|V (af O)<|V (fA yD 0 O yH O)<|mI rfl<|V (CA O O J)<|mI rfl<|V (ay O O J)<|mI rfl<|V (jW bx dW O)<|bV O (Gb _ _ _ _ _ _ _ _ _ _ _ _ _ J J J _ yw IF hH) (bB call217 O O O)<| ?_
 rintro _ w3 ⟨rfl,v6,c7,u8,e9,aFH,aFI,aFJ,aFK,aFL,atC,aFM,aFN,h4⟩
 refine aa<|nW O ⟨rfl,v6,c7,u8,e9,aFH,aFI,aFJ,aFK,aFL,atC,aFM,aFN,h4⟩
theorem ajq{nA nB nC nD nE nF nG nH nI nJ nK nL:Value}{W0 w:World}{F:Nat}{vW vU vT:Value}{cnt:Int}{cW:Option (Nat×Array Value)}{W:List (BitVec 64)}{L:List a8}(x:Value×jo)(hx:oQ (⟨134,243,193,3,35,8⟩:UT) F L x)(hok:match x.2 with| .add n=>n<=W.length| .set i _=>i<W.length)(yw:cO cW vW (W.map U))(hH:Hp W0 w (.blk F (.cells #[nA,nB,nC,nD,nE,nF,nG,nH,vW,vU,vT,I (cnt),nI,nJ,nK,nL] 111 (0,0))::cE cW vW 35 (W.map U)::L)):
  ∃(f:FuncId) (cs:List Value),x.1= .func (.func f) #[] cs.toArray/\(∀args w,(callFunc f args).run Tryz.prog w= .ok (.enter f args) w)/\Calls Tryz.prog f cs.toArray w (iA fun u w'=>u= .tuple #[]/\∃v' c',cO c' v' ((Ru W x.2).map U)/\Hp W0 w' (.blk F (.cells #[nA,nB,nC,nD,nE,nF,nG,nH,v',vU,vT,I (cnt),nI,nJ,nK,nL] 111 (0,0))::cE c' v' 35 ((Ru W x.2).map U)::L)):=by
 obtain⟨v,u⟩:=x
 cases u with
 |add n=>
  obtain⟨b1,b2,h0,h1,h2⟩:=hx
  have hc:=Dc W0 F vW vU vT cnt cW W L b1 b2 n ⟨J,by exact Bf.2 hok⟩ w h1 h2 yw hH
  rw[dN]at hc
  exact⟨_,[_,_],h0,call134,hc⟩
 |set i b=>
  obtain⟨b1,b2,b3,h0,h1,h2,h3⟩:=hx
  have hc:=Dd W0 F vW vU vT cnt cW W L b1 b2 b3 i b ⟨J,by exact Int.ofNat_lt.2 hok⟩ w h1 h2 h3 yw hH
  rw[dN]at hc
  exact⟨_,[_,_,_],h0,call243,hc⟩
theorem EQ{nA nB nC nD nE nF nG nH nI nJ nK nL:Value}(W0:World)(F:Nat)(vW vU vT:Value)(cnt:Int)(cW cU:Option (Nat×Array Value))(W:List (BitVec 64))(ul:List (Value×jo))(L:List a8)(m:Int)(Zb:W.length<=4000000)(NU:ul.length<=4000000)(hm:0<=m/\m<=ul.length)(w:World)(hI:∀x∈ul,oQ (⟨134,243,193,3,35,8⟩:UT) F L x)(hok:L3 W.length (ul.map Prod.snd))(yw:cO cW vW (W.map U))(IF:cO cU vU (ul.map Prod.fst))(hH:Hp W0 w (.blk F (.cells #[nA,nB,nC,nD,nE,nF,nG,nH,vW,vU,vT,I (cnt),nI,nJ,nK,nL] 111 (0,0))::cE cW vW 35 (W.map U)::cE cU vU 1 (ul.map Prod.fst)::L)):Calls Tryz.prog 92 #[.pointer (some ⟨F,8,none⟩),I m] w (iA fun u w'=>u=B true/\∃(v':Value) (c':Option (Nat×Array Value)) (v2:Value) (c2:Option (Nat×Array Value)),cO c' v' ((je W (ul.map Prod.snd) m.toNat).map U)/\cO c2 v2 ((ul.take m.toNat).map Prod.fst)/\Hp W0 w' (.blk F (.cells #[nA,nB,nC,nD,nE,nF,nG,nH,v',v2,vT,I (cnt),nI,nJ,nK,nL] 111 (0,0))::cE c' v' 35 ((je W (ul.map Prod.snd) m.toNat).map U)::cE c2 v2 1 ((ul.take m.toNat).map Prod.fst)::L)):=by
 have hlm:(ul.map Prod.fst).length=ul.length:=gj ..
 refine en func92 rfl rfl<|SR<|va (v:=B false) rfl<|aa<|ah<|SR<|aE (v:=Pn _ _) rfl<|V (jf pF O O)<|mB rfl<|cC O rfl<|mI rfl<|aE (v:=Pn _ _) rfl<|V (af O)<|V (fA lR 1 O jQ O)<|lV gH hH 0 O O rfl<|V (aA (hH.Az (i:=2) O IF) O gH O)<|V (dz O O)<|mB rfl<|aa<|aF O (fun h2=> ?_) (fun h2=> ?_)
 .refine SR<|va (v:=B false) rfl<|aa<|aj<| ?_
  exfalso;omega
 refine ak<|ah<|SR<|aE (v:=Pn _ _) rfl<|V (af O)<|V (fA lR 1 O jQ O)<|lV gH hH 0 O O rfl<|V (aA (hH.Az (i:=2) O IF) O gH O)<|V (fG O O J)<|aI rfl<|aa<|aC<|have e0:je W (ul.map Prod.snd) (ul.length:Int).toNat=W:=(by rw[dN,<-gj (f:=Prod.snd)];exact CR);have e1:ul.take (ul.length:Int).toNat=ul:=az;bj (G:=Int×Value×(Option (Nat×Array Value))×Value×(Option (Nat×Array Value))) (fun⟨k,v1,c1,u1,c2⟩ s' w'=>(Fr (5::(rg 23 24 [])) _ s')/\(Hp W0 w' (.blk F (.cells #[nA,nB,nC,nD,nE,nF,nG,nH,v1,u1,vT,I (cnt),nI,nJ,nK,nL] 111 (0,0))::cE c1 v1 35 ((je W (ul.map Prod.snd) k.toNat).map U)::cE c2 u1 1 ((ul.take k.toNat).map Prod.fst)::_))/\(s' 5=I (k-1))/\(m<=k)/\(k<=ul.length)/\(cO c1 v1 ((je W (ul.map Prod.snd) k.toNat).map U))/\(cO c2 u1 ((ul.take k.toNat).map Prod.fst))) (fun⟨k,v1,c1,u1,c2⟩=>(k-m).toNat) ((ul.length,vW,cW,vU,cU)) ⟨Fr.refl _ _,(by rw[e0,e1];exact hH),(aK I J),J,J,QZ,(by rw[e1];exact IF)⟩<| ?_
 rintro⟨k,v1,c1,u1,c2⟩ sg3 w3 ⟨fr3,rY,Jg,k0,k1,Il,CQ⟩
 obtain⟨AJ,atD⟩:=fr3.w2 0 1
 refine ah<|SR<|aE Jg<|aE atD<|V (Br O O)<|V (dA O O)<|aa<|aF O (fun h5=> ?_) (fun h5=> ?_)
 .refine ak<|ah<|aC<|SR<|aE AJ<|V (af O)<|V (fA lR 1 O jQ O)<|lV gH rY 0 O O rfl<|aE Jg<|V (ag (rY.Az (i:=2) O CQ) gH sizeOf1 O O (by(simp only[gj,eo];omega)))<|V (au underlying1 O O ((rY.Az (i:=2) O CQ).cell _ _ (ame J J)))<|have hkl:(k-1).toNat<ul.length:=J;have hL1:Hp W0 w3 (.blk F (.cells #[nA,nB,nC,nD,nE,nF,nG,nH,v1,u1,vT,I (cnt),nI,nJ,nK,nL] 111 (0,0))::cE c1 v1 35 ((je W (ul.map Prod.snd) k.toNat).map U)::(cE c2 u1 1 ((ul.take k.toNat).map Prod.fst)::L)):=rY;?_
  obtain⟨f6,cs7,hv8,hf9,aFO⟩:=ajq (ul[(k-1).toNat]) ((hI _ (p6 hkl)).mono fun e he=>mT he) (arI hok (by simpa using hkl) J) Il hL1
  refine bV O aFO (Lj hf9 ((show _=_ from O).trans ((ag0 J hkl).trans hv8))) ?_
  rintro _ Wg ⟨rfl,v11,c12,adw,JY⟩
  rw[arH J hkl]at adw JY
  refine aa<|ax<|aE AJ<|aE AJ<|V (af O)<|V (fA lR 1 O jQ O)<|lV gH JY 0 O O rfl<|aE Jg<|aE Jg<|V (uR (JY.Az (i:=2) O CQ) gH sizeOf1 O O O Xk)<|V (af O)<|V (fA lR 1 O jQ O)<|have hs1:=((JY.Az (i:=2) O CQ)).sD (n:=(k-1).toNat) Xk;?_
  obtain⟨c18,Zh,cL⟩:=JY.arG (i:=2) O CQ (m:=(k-1).toNat) Xk
  simp only[fO,gU,<-wY,Ba,show min (k-1).toNat k.toNat=(k-1).toNat by omega]at cL Zh
  refine bu cL (i:=0) O (bL O O (v:=(sD u1 (k-1).toNat)) O (gN hs1).2 (gN hs1).1 (cL.blk (i:=0) O) az)<|fun Og dm=>aa<|ax<|aE Jg<|V (fG O O J)<|aI rfl<|aa<| ?_
  refine⟨(k-1,v11,c12,(sD u1 (k-1).toNat),c18),aZ,fr3.u4.u4.u4.u4.u4.u4.u1,(Hp.conv dm aN),(aK I aN),J,J,?_,?_⟩
  .exact adw
  exact Zh
 refine a7 (id:=0) rfl<|SR<|va (v:=B true) rfl<|aa<|aj<|have ek:k=m:=J;?_
 subst ek
 exact iG O (v:=B true) O ⟨rfl,v1,c1,u1,c2,Il,CQ,rY⟩
def Tryz.St:Go.Shelf.Ren:=⟨fun|189=>161|125=>192|257=>191|128=>228|129=>229|294=>219|295=>220|296=>221|297=>222|298=>223|299=>224|216=>225|300=>226|301=>227|328=>244|329=>245|330=>246|331=>247|332=>248|215=>249|343=>257|n=>n,fun|28=>99|3=>3|46=>59|0=>0|51=>201|53=>35|4=>4|183=>247|182=>246|131=>174|5=>5|9=>9|218=>260|222=>264|228=>270|229=>271|n=>n,fun|n=>n⟩
theorem Tryz.ajr:Go.Proofs.Lays.n189 Tryz.prog Tryz.St:={
 mixed:=aM
 f125:=func192.trans (aK some aM)
 f128:=func228.trans (aK some aM)
 f129:=func229.trans (aK some aM)
 f189:=func161.trans (aK some aM)
 f215:=func249.trans (aK some aM)
 f216:=func225.trans (aK some aM)
 f257:=func191.trans (aK some aM)
 f294:=func219.trans (aK some aM)
 f295:=func220.trans (aK some aM)
 f296:=func221.trans (aK some aM)
 f297:=func222.trans (aK some aM)
 f298:=func223.trans (aK some aM)
 f299:=func224.trans (aK some aM)
 f300:=func226.trans (aK some aM)
 f301:=func227.trans (aK some aM)
 f328:=func244.trans (aK some aM)
 f329:=func245.trans (aK some aM)
 f330:=func246.trans (aK some aM)
 f331:=func247.trans (aK some aM)
 f332:=func248.trans (aK some aM)
 f343:=func257.trans (aK some aM)
 t0:=underlying0
 a0:=isAgg0
 z0:=sizeOf0
 v0:=Tryz.zeroValue0
 t3:=bx
 a3:=isAgg3
 z3:=bz
 v3:=Tryz.zeroValue3
 t4:=qb
 a4:=isAgg4
 z4:=mG
 v4:=Tryz.zeroValue4
 t5:=Kx
 a5:=isAgg5
 z5:=sizeOf5
 v5:=Tryz.zeroValue5
 t9:=gS
 a9:=isAgg9
 z9:=jT
 v9:=Tryz.zeroValue9
 t28:=bg
 a28:=isAgg99
 z28:=cP
 v28:=Tryz.zeroValue99
 t46:=Be
 a46:=isAgg59
 z46:=sizeOf59
 v46:=Tryz.zeroValue59
 t51:=underlying201
 a51:=isAgg201
 z51:=sizeOf201
 v51:=Tryz.zeroValue201
 t53:=dW
 a53:=isAgg35
 z53:=c8
 v53:=Tryz.zeroValue35
 t131:=underlying174
 a131:=isAgg174
 z131:=sizeOf174
 v131:=Tryz.zeroValue174
 t182:=underlying246
 a182:=isAgg246
 z182:=sizeOf246
 v182:=Tryz.zeroValue246
 t183:=underlying247
 a183:=isAgg247
 z183:=sizeOf247
 v183:=Tryz.zeroValue247
 t218:=underlying260
 a218:=isAgg260
 z218:=sizeOf260
 v218:=Tryz.zeroValue260
 t222:=underlying264
 a222:=isAgg264
 z222:=sizeOf264
 v222:=Tryz.zeroValue264
 t228:=underlying270
 a228:=isAgg270
 z228:=sizeOf270
 v228:=Tryz.zeroValue270
 t229:=underlying271
 a229:=isAgg271
 z229:=sizeOf271
 v229:=Tryz.zeroValue271}
section
open Go.Sort Go.Shelf
theorem atE(blk cap:Nat)(zs:List Int)(w:World)(hH:Holds (Value.int .i64) w blk 0 zs.toArray)(hblk:blk<w.heap.size)(hsz:zs.length<4611686018427387904):
  Calls Tryz.prog 161 #[.slice (some ⟨blk,0,none⟩) zs.length cap] w fun e w'=>e= .returned (.tuple #[])/\∃n os,w'=grow (putRow (Value.int .i64) (Sort.ahead w n) blk 0 (zs.mergeSort fun x y=>decide (x<=y)).toArray) os:=
 calls_of_every_depth fun D=>AnyS.slices_Sort_int_alone Tryz.ajr D blk 0 cap zs w hH hblk hsz
theorem Zi{w0 w:World}{L:List a8}{i:Nat}{v:Value}{e:TypeId}{zs:List Int}(hH:Hp w0 w L)(hi:L[i]?=some (.row v e 1 zs.length (zs.map I)))(hn:0<zs.length)(hs:zs.length<=4000000):
  Calls Tryz.prog 161 #[v] w (iA fun u w'=>u= .tuple #[]/\Hp w0 w' (L.set i (.row v e 1 zs.length ((zs.mergeSort fun x y=>decide (x<=y)).map I)))):=by
 obtain⟨hl,h2⟩:=hH.get hi
 rcases h2 with⟨rfl,q⟩|⟨gb,cap,cur,rfl,hb,hg,hnc,hm,hsz,ht⟩
 .omega
 have hlt:gb<w.heap.size:=(A6.1 hg).1
 have hlen:(zs.mergeSort fun x y=>decide (x<=y)).length=zs.length:=List.length_mergeSort _
 refine Calls.mono (atE gb cap zs w (holds_of_blockI hg (by rw[kP]at ht;exact ht)) hlt J) fun en w' ⟨he,n,os,hw⟩=> ?_
 subst he
 refine⟨rfl,?_⟩
 subst hw
 have h3:=ownsRow_sortedI (w:=w) (base:=w0.heap.size) (os:=os) (n:=n) (ss:=zs) (ts:=zs.mergeSort fun x y=>decide (x<=y)) hlen hb hg hnc hm hsz
 exact hH.xM hi h3 (grownBy_sortedI _) (.inr (.inl O))
end
theorem A0{nA nB nC nD nE nF nG nH nI nJ nK nL:Value}(F:Nat)(vW vU vT:Value)(cnt:Int)(nd:List pN)(cl:List Nat)(i:Int)(hn:nd.length<=1000000)(hf:Fo nd cl)(w:World)(hb:w.heap[F]?=some (.cells #[nA,nB,nC,nD,nE,nF,nG,nH,vW,vU,vT,I cnt,nI,nJ,nK,nL] 111 (0,0)))(hW:Sl w vW 1 (bD nd).length ((bD nd).map U)):Calls Tryz.prog 129 #[.pointer (some ⟨F,8,none⟩),I i] w (rV 3 1 (bK cl i).length ((bK cl i).map I) w):=by
 have Zb:=gW nd
 refine eH func129 rfl rfl fun hH=>SR<|va (v:= .slice none 0 0) rfl<|have iL:=hH.fD 3 1;aa<|Yc<|ah<|SR<|aE (v:=Pn _ _) rfl<|mI rfl<|aG O iL (l9 _ _ _ _ _ _ _ m6 _ (iL.ext hb) (hW.hp iL)) (aJ call158 O O)<|fun w2 rY=>V (uC O)<|aa<|aF O (fun h7=> ?_) (fun h7=> ?_)
 .refine SR<|va (v:= .slice none 0 0) rfl<|have fq:=rY.fD 3 1;aa<|aj<|N1 O O fq (i:=0) O ((by rw[Pj hf J];rfl)) ((by rw[Pj hf J];rfl))
 refine ak<|SR<|va (v:= .slice none 0 0) rfl<|have iB:=rY.fD 3 1;aa<|SR<|mI rfl<|aI rfl<|aa<|ah<|Yd<|ah<|aC<|have hin:0<=i/\i<nd.length:=J;?_
 obtain⟨t,ht,hmt⟩:=hf.ring i.toNat J
 have S6:(i.toNat::t).length<=nd.length:=Ui ht.2 fun k hk=>((hmt k).1 hk).1
 refine bj (G:=Nat×(List Nat)×(List Nat)×Value) (fun⟨a,o,m,v5⟩ s' w'=>(Fr (5::6::(rg 12 12 [])) _ s')/\(Hp w w' (.row v5 3 1 (o.length) ((o.map Int.ofNat).map I)::_))/\(s' 5=v5)/\(s' 6=I (a:Int))/\(i.toNat::t=o++a::m)/\(a<nd.length)/\(o.length+1<=nd.length)) (fun⟨a,o,m,v5⟩=>m.length) ((i.toNat,[],t,(.slice none 0 0:Value))) ⟨Fr.refl _ _,iB,rfl,(aK I (show i=((i.toNat:Nat):Int)by omega)),rfl,J,(by simp at S6⊢;omega)⟩ ?_
 rintro⟨a,o,m,v5⟩ Y2 Gk ⟨rS,bW,M7,F3,he,ha,ho⟩
 obtain⟨DH,ai1⟩:=rS.w2 0 1
 have hnx:=aan hf hn ha
 have hst:=Hy ht he
 refine aC<|SR<|aE M7<|aE F3<|yd 1 1 bW (ct bg O O (sz:=1) (vs:=[I _]) O O aD aD O O)<|fun MY ID cK=> ?_
 (try simp only[oX]at cK)
 refine jX O cK (i:=1) O (cK.dQ (i:=0) (n:=1) (sz:=1) O O aD) O O bg O O (size:=1) (bytes:=8) O O O aD kq J jU<|fun v14 Wg cG=> ?_
 refine V (run_assign bG) ?_
 refine aa<|SR<|aE DH<|V (af O)<|V (fA gR 0 O uw O)<|aE F3<|aG O cG (df _ _ _ _ _ _ _ _ J _ (cG.ext hb) (hW.hp cG)) (bB s8 O O (show _=I 2 from O))<|fun Sa dS=>aI rfl<|aa<|SR<|mI rfl<|aE ai1<|V (bX O O)<|aa<|aF O (fun NY=> ?_) (fun NY=> ?_)
 .refine a7 (id:=0) rfl<|SR<| ?_
  refine V (run_move bG) ?_
  have hzl:((o++[a]).map Int.ofNat).length<=4000000:=by rw[gj,cV,gk];omega
  rw[show(o.map Int.ofNat).map I++[I (a:Int)]=((o++[a]).map Int.ofNat).map I by simp,show o.length+1=((o++[a]).map Int.ofNat).length by simp]at dS
  refine bV O (Zi (zs:=((o++[a]).map Int.ofNat)) (i:=1) (v:=v14) dS O az hzl) (aq call161 O) ?_
  rintro _ Og ⟨rfl,dm⟩
  refine aa<|SR<| ?_
  refine V (run_move bG) ?_
  refine V (run_assign bG) ?_
  refine aa<|aj<|N1 O O dm (i:=1) O ((by rw[<-L7 hf hin ht hmt he J,List.length_mergeSort])) ((by rw[<-L7 hf hin ht hmt he J]))
 refine ak ?_
 refine⟨(sE nd a,o++[a],m.tail,v14),?_,rS.u4.u4.u4.u1.u1,(Hp.conv (dS.sub (sQ sR)) az),rfl,(aK I (aan hf hn ha)),?_,?_,?_⟩
 .exact(zh ht hmt he (fun e=>‹¬_=i› J)).2.2.2
 .exact(zh ht hmt he (fun e=>‹¬_=i› J)).1
 .exact(zh ht hmt he (fun e=>‹¬_=i› J)).2.1
 (have:=(zh ht hmt he (fun e=>‹¬_=i› J)).2.2.1;have:=Ui ht.2 (fun k hk=>((hmt k).1 hk).1);omega)
set_option maxHeartbeats 1000000 in
theorem De{nA nB nC nD nE nF nG nH nI nJ nK nL:Value}(W0:World)(F:Nat)(vW vU vT:Value)(cnt:Int)(cW cU:Option (Nat×Array Value))(nd:List pN)(ul:List (Value×jo))(ts:List Int)(L:List a8)(hn:nd.length<=100000)(NU:ul.length<=1000000)(hts:ts.length<=1000000)(VM: -1000000<=cnt/\cnt<=1000000)(w:World)(yw:cO cW vW ((bD nd).map U))(IF:cO cU vU (ul.map Prod.fst))(hH:Hp W0 w (.blk F (.cells #[nA,nB,nC,nD,nE,nF,nG,nH,vW,vU,vT,I (cnt),nI,nJ,nK,nL] 111 (0,0))::cE cW vW 35 ((bD nd).map U)::cE cU vU 1 (ul.map Prod.fst):: .row vT 3 1 ts.length (ts.map I)::L)):Calls Tryz.prog 47 #[.pointer (some ⟨F,8,none⟩)] w (iA fun u w'=>u=I nd.length/\∃(v1:Value) (c1:Option (Nat×Array Value)) (u1:Value) (c2:Option (Nat×Array Value)) (t1:Value) (lK:List (Value×jo)) (Lb:List a8),cO c1 v1 ((bD (nd++[qM nd.length])).map U)/\cO c2 u1 (lK.map Prod.fst)/\lK.map Prod.snd=N6 (ul.map Prod.snd) (bD nd).length/\lK.take ul.length=ul/\(∀x∈lK.drop ul.length,oQ (⟨134,243,193,3,35,8⟩:UT) F Lb x)/\Hp W0 w' (.blk F (.cells #[nA,nB,nC,nD,nE,nF,nG,nH,v1,u1,t1,I (cnt+1),nI,nJ,nK,nL] 111 (0,0))::cE c1 v1 35 ((bD (nd++[qM nd.length])).map U)::cE c2 u1 1 (lK.map Prod.fst):: .row t1 3 1 (ts++[(ul.length:Int)]).length ((ts++[(ul.length:Int)]).map I)::(Lb++L))):=by
 have Zb:=gW nd
 refine en func47 rfl rfl<|SR<|va (v:=I 0) rfl<|aa<|ah<|SR<|aE (v:=Pn _ _) rfl<|V (jf Kr O O)<|aa<|dh rfl<|ak<|SR<|aE (v:=Pn _ _) rfl<|aG O hH (k9 _ _ _ _ _ _ J _ (hH.blk (i:=0) O) (hH.xY (i:=1) O yw)) (aq call89 O)<|fun w1 aW=>aI rfl<|aa<|ah<|gY aM aW (sQ (sP (sP (sQ sR))))<|fun w3 gE=>have DN:=gE.sub (sQ (sP (sP (sQ sR))));AQ 0 O DN (mV (Pn _ _) O)<|AQ 1 O DN (mV (Pn _ _) O)<|AQ 2 O DN (af O)<|AQ 3 O DN (fA gR 2 O cP O)<|AQ 5 O DN (mV (Pn _ _) O)<|AQ 6 O DN (af O)<|AQ 7 O DN (fA gR 0 O uw O)<|AQ 8 O DN (fA yD 0 O yH O)<|iy 4 9 aM ?_ ?_
 .refine cf O aH O gE (sQ (sP (sP (sQ sR)))) (au bg O O (gE.cell (i:=0) O O))<|A1 9<|cJ O aH O gE (sQ (sP (sP (sQ sR)))) (l8 _ _ _ _ _ _ _ _ (gE.blk (i:=0) O) (gE.xY (i:=1) O yw) (gE.Az (i:=2) O IF)) (aq call90 O)<|fun w7 fq=>A1 10<|cY O aH O fq (sQ (sP (sP (sQ sR)))) (f:=fun b=> .slice (some ⟨b,0,none⟩) 1 1) (ct bg O O (sz:=1) (vs:=[I _]) O O aD aD O O)<|fun b11 w9 bW=> ?_
  (try simp only[oX]at bW)
  refine A1 11<|lA O aH O bW (j:=4) O (fun _=>(sQ (sQ (sP (sP (sQ sR)))))) (bW.dQ (i:=0) (n:=1) (sz:=1) O O aD) O O bg O O (size:=1) (bytes:=8) O O O aD kq J jU<|fun v14 B7 cm=>AQ 12 O (cm.sub (sQ (sQ (sP (sP (sQ sR)))))) (af O)<|AQ 13 O (cm.sub (sQ (sQ (sP (sP (sQ sR)))))) (fA gR 2 O cP O)<|A1 14<|ec O aH cm (j:=1) O (sQ (sQ (sP (sP (sQ sR))))) (bL O O (v:=v14) O (aS (cm.get (i:=4) O)).1 (aS (cm.get (i:=4) O)).2 (cm.blk (i:=1) O) az)<|fun Sa dS=>AD<|ah<|SR<|mI rfl<|mI rfl<|mI rfl<|yd 4 4 dS (ct bg O O (sz:=1) (vs:=[I _,I 1,I _,I _]) O O aD aD O O)<|fun b21 Vo cL=> ?_
  (try simp only[oX]at cL)
  refine V (aA (cL.dQ (i:=0) (n:=4) (sz:=1) O O aD) O bg O)<|aE (v:=I 0) rfl<|aa<|aC<|have e0:((bD nd)++(EZ (qM nd.length)).take (0:Int).toNat)=(bD nd):=az;bj (G:=Int×Value×(Option (Nat×Array Value))×Value×(Option (Nat×Array Value))×(List (Value×jo))×(List a8)) (fun⟨k,v1,c1,u1,c2,lK,Z1⟩ s' w'=>(Fr (5::(rg 29 12 [])) _ s')/\(Hp W0 w' (_::_:: .blk F (.cells #[nA,nB,nC,nD,nE,nF,nG,nH,v1,u1,v14,I (cnt),nI,nJ,nK,nL] 111 (0,0))::cE c1 v1 35 (((bD nd)++(EZ (qM nd.length)).take k.toNat).map U)::cE c2 u1 1 (lK.map Prod.fst)::_::Z1))/\(s' 29=I k)/\(0<=k)/\(k<=4)/\(cO c1 v1 (((bD nd)++(EZ (qM nd.length)).take k.toNat).map U))/\(cO c2 u1 (lK.map Prod.fst))/\(lK.map Prod.snd=ul.map Prod.snd++L8 (bD nd).length k)/\(lK.take ul.length=ul)/\(∃Lb,Z1=Lb++L/\∀x∈lK.drop ul.length,oQ (⟨134,243,193,3,35,8⟩:UT) F Lb x)/\(lK.length<=ul.length+k.toNat)) (fun⟨k,v1,c1,u1,c2,lK,Z1⟩=>(4-k).toNat) ((0,vW,cW,vU,cU,ul,L)) ⟨Fr.refl _ _,(by rw[e0];exact cL),rfl,J,J,QZ,IF,(by simp[L8]),(Kl ..),⟨[],rfl,az⟩,J⟩<| ?_
  rintro⟨k,v1,c1,u1,c2,lK,Z1⟩ aE7 S5 ⟨ai6,dm,Zj,h0,h4,Il,CQ,hms,hpt,hzz,anD⟩
  obtain⟨apI,ayw,atF,atG⟩:=ai6.w4 0 3 27 28
  refine SR<|V (aL Zj atG)<|aa<|ah<|aF O (fun Aj=> ?_) (fun Aj=> ?_)
  .refine ak<|ah<|aC<|SR<|V (ag (dm.dQ (i:=0) (n:=4) (sz:=1) O O aD) bg bz atF Zj J)<|V (au bx O O ((dm.dQ (i:=0) (n:=4) (sz:=1) O O aD).cell _ _ (Ye h0 ‹k<_›)))<|aI rfl<|aa<|ax<|aE apI<|V (af O)<|V (fA gR 0 O uw O)<|V (fA yD 0 O yH O)<|mI rfl<|V (jW bx dW O)<|bV O (qJ _ _ _ _ _ _ _ _ _ _ _ _ Xe J _ Il CQ (dm.pj [2,2,2])) (aJ call91 O O)<| ?_
   rintro _ w27 ⟨rfl,v30,c31,u32,e33,atH,ayx,aFQ,aFR,aFS,ayy,aFT,ayz,h28⟩
   have gx:=Hp.lN (A:=[_,_,_]) (R:=[_,_,_]) h28
   simp only[fH,er]at gx
   have ym:=gx.pk [3,3]
   refine aa<|ax<|V (ay Zj O J)<|mI rfl<|aa<| ?_
   refine⟨(k+1,v30,c31,u32,e33,atH,(ayx++Z1)),aZ,ai6.u4.u4.u4.u1,(Hp.conv ym Xf),(aK I aN),J,J,?_,?_,?_,?_,?_,?_⟩
   ·(rw[Jq h0 ‹k<_›,<-dg];exact aFQ)
   .exact aFR
   ·(rw[aFS,hms,HA h0,<-dg,cV,eo];congr 3;(have:(EZ (qM nd.length)).length=4:=rfl);omega)
   ·(obtain⟨Lb0,rfl,VN⟩:=hzz;exact(oR hpt ayy VN ayz).1)
   ·(obtain⟨Lb0,rfl,VN⟩:=hzz;exact⟨ayx++Lb0,by rw[dg],(oR hpt ayy VN ayz).2⟩)
   (have:=aFT;omega)
  refine a7 (id:=0) rfl<|SR<|aE apI<|V (af O)<|V (fA gR 3 O bz O)<|lI bx dm 2 O O rfl<|V (ay O O J)<|V (af O)<|V (fA gR 3 O bz O)<|bu dm (i:=2) O (bL O O (v:=I _) O O O (dm.blk (i:=2) O) az)<|fun w43 xC=>aa<|SR<|aE ayw<|aI rfl<|aa<|aj<|have ek:k=4:=J;?_
  subst ek
  obtain⟨Lb0,rfl,VN⟩:=hzz
  exact iG O (v:=I nd.length) O ⟨rfl,v1,c1,u1,c2,v14,lK,Lb0,Xm,CQ,(hms.trans Yf),hpt,VN,(by rw[pG,show(ts++[(ul.length:Int)]).length=ts.length+1 by simp,show(ts++[(ul.length:Int)]).map I=ts.map I++[I ((ul.map Prod.fst).length:Int)]by simp];exact(xC.pj [2,2,2,2]).sub (sP (sP (sP (sP (sQ (sQ sR)))))))⟩
 refine cJ O aH O gE (sQ (sP (sP (sQ sR)))) (l8 _ _ _ _ _ _ _ _ (gE.blk (i:=0) O) (gE.xY (i:=1) O yw) (gE.Az (i:=2) O IF)) (aq call90 O)<|fun w45 rT=>iy 4 10 aM ?_ ?_
 .refine cf O aH O rT (sQ (sP (sP (sQ sR)))) (au bg O O (rT.cell (i:=0) O O))<|A1 10<|cY O aH O rT (sQ (sP (sP (sQ sR)))) (f:=fun b=> .slice (some ⟨b,0,none⟩) 1 1) (ct bg O O (sz:=1) (vs:=[I _]) O O aD aD O O)<|fun b51 w49 eS=> ?_
  (try simp only[oX]at eS)
  refine A1 11<|lA O aH O eS (j:=4) O (fun _=>(sQ (sQ (sP (sP (sQ sR)))))) (eS.dQ (i:=0) (n:=1) (sz:=1) O O aD) O O bg O O (size:=1) (bytes:=8) O O O aD kq J jU<|fun v54 w52 jO=>AQ 12 O (jO.sub (sQ (sQ (sP (sP (sQ sR)))))) (af O)<|AQ 13 O (jO.sub (sQ (sQ (sP (sP (sQ sR)))))) (fA gR 2 O cP O)<|A1 14<|ec O aH jO (j:=1) O (sQ (sQ (sP (sP (sQ sR))))) (bL O O (v:=v54) O (aS (jO.get (i:=4) O)).1 (aS (jO.get (i:=4) O)).2 (jO.blk (i:=1) O) az)<|fun w57 vh=>AD<|ah<|SR<|mI rfl<|mI rfl<|mI rfl<|yd 4 4 vh (ct bg O O (sz:=1) (vs:=[I _,I 1,I _,I _]) O O aD aD O O)<|fun b61 w59 Gc=> ?_
  (try simp only[oX]at Gc)
  refine V (aA (Gc.dQ (i:=0) (n:=4) (sz:=1) O O aD) O bg O)<|aE (v:=I 0) rfl<|aa<|aC<|have e0:((bD nd)++(EZ (qM nd.length)).take (0:Int).toNat)=(bD nd):=az;bj (G:=Int×Value×(Option (Nat×Array Value))×Value×(Option (Nat×Array Value))×(List (Value×jo))×(List a8)) (fun⟨k,v1,c1,u1,c2,lK,Z1⟩ s' w'=>(Fr (5::(rg 29 12 [])) _ s')/\(Hp W0 w' (_::_:: .blk F (.cells #[nA,nB,nC,nD,nE,nF,nG,nH,v1,u1,v54,I (cnt),nI,nJ,nK,nL] 111 (0,0))::cE c1 v1 35 (((bD nd)++(EZ (qM nd.length)).take k.toNat).map U)::cE c2 u1 1 (lK.map Prod.fst)::_::Z1))/\(s' 29=I k)/\(0<=k)/\(k<=4)/\(cO c1 v1 (((bD nd)++(EZ (qM nd.length)).take k.toNat).map U))/\(cO c2 u1 (lK.map Prod.fst))/\(lK.map Prod.snd=ul.map Prod.snd++L8 (bD nd).length k)/\(lK.take ul.length=ul)/\(∃Lb,Z1=Lb++L/\∀x∈lK.drop ul.length,oQ (⟨134,243,193,3,35,8⟩:UT) F Lb x)/\(lK.length<=ul.length+k.toNat)) (fun⟨k,v1,c1,u1,c2,lK,Z1⟩=>(4-k).toNat) ((0,vW,cW,vU,cU,ul,L)) ⟨Fr.refl _ _,(by rw[e0];exact Gc),rfl,J,J,QZ,IF,(by simp[L8]),(Kl ..),⟨[],rfl,az⟩,J⟩<| ?_
  rintro⟨k,v1,c1,u1,c2,lK,Z1⟩ aP2 w62 ⟨ayB,tB,Zk,h0,h4,Il,CQ,hms,hpt,hzz,anD⟩
  obtain⟨apJ,ayC,atJ,atK⟩:=ayB.w4 0 3 27 28
  refine SR<|V (aL Zk atK)<|aa<|ah<|aF O (fun h64=> ?_) (fun h64=> ?_)
  .refine ak<|ah<|aC<|SR<|V (ag (tB.dQ (i:=0) (n:=4) (sz:=1) O O aD) bg bz atJ Zk J)<|V (au bx O O ((tB.dQ (i:=0) (n:=4) (sz:=1) O O aD).cell _ _ (Ye h0 ‹k<_›)))<|aI rfl<|aa<|ax<|aE apJ<|V (af O)<|V (fA gR 0 O uw O)<|V (fA yD 0 O yH O)<|mI rfl<|V (jW bx dW O)<|bV O (qJ _ _ _ _ _ _ _ _ _ _ _ _ Xe J _ Il CQ (tB.pj [2,2,2])) (aJ call91 O O)<| ?_
   rintro _ w67 ⟨rfl,v70,c71,u72,e73,aFU,adx,aFV,aFW,aFX,ayD,aFY,ayE,h68⟩
   have Ot:=Hp.lN (A:=[_,_,_]) (R:=[_,_,_]) h68
   simp only[fH,er]at Ot
   have tC:=Ot.pk [3,3]
   refine aa<|ax<|V (ay Zk O J)<|mI rfl<|aa<| ?_
   refine⟨(k+1,v70,c71,u72,e73,aFU,(adx++Z1)),aZ,ayB.u4.u4.u4.u1,(Hp.conv tC Xf),(aK I aN),J,J,?_,?_,?_,?_,?_,?_⟩
   ·(rw[Jq h0 ‹k<_›,<-dg];exact aFV)
   .exact aFW
   ·(rw[aFX,hms,HA h0,<-dg,cV,eo];congr 3;(have:(EZ (qM nd.length)).length=4:=rfl);omega)
   ·(obtain⟨Lb0,rfl,VN⟩:=hzz;exact(oR hpt ayD VN ayE).1)
   ·(obtain⟨Lb0,rfl,VN⟩:=hzz;exact⟨adx++Lb0,by rw[dg],(oR hpt ayD VN ayE).2⟩)
   (have:=aFY;omega)
  refine a7 (id:=0) rfl<|SR<|aE apJ<|V (af O)<|V (fA gR 3 O bz O)<|lI bx tB 2 O O rfl<|V (ay O O J)<|V (af O)<|V (fA gR 3 O bz O)<|bu tB (i:=2) O (bL O O (v:=I _) O O O (tB.blk (i:=2) O) az)<|fun w83 oc=>aa<|SR<|aE ayC<|aI rfl<|aa<|aj<|have ek:k=4:=J;?_
  subst ek
  obtain⟨Lb0,rfl,VN⟩:=hzz
  exact iG O (v:=I nd.length) O ⟨rfl,v1,c1,u1,c2,v54,lK,Lb0,Xm,CQ,(hms.trans Yf),hpt,VN,(by rw[pG,show(ts++[(ul.length:Int)]).length=ts.length+1 by simp,show(ts++[(ul.length:Int)]).map I=ts.map I++[I ((ul.map Prod.fst).length:Int)]by simp];exact(oc.pj [2,2,2,2]).sub (sP (sP (sP (sP (sQ (sQ sR)))))))⟩
 refine cY O aH O rT (sQ (sP (sP (sQ sR)))) (f:=fun b=> .slice (some ⟨b,0,none⟩) 1 1) (ct bg O O (sz:=1) (vs:=[I _]) O O aD aD O O)<|fun b87 w85 vX=> ?_
 (try simp only[oX]at vX)
 refine A1 4<|cf O aH O vX (sQ (sQ (sP (sP (sQ sR))))) (au bg O O (vX.cell (i:=1) O O))<|A1 11<|lA O aH O vX (j:=4) O (fun _=>(sQ (sQ (sP (sP (sQ sR)))))) (vX.dQ (i:=0) (n:=1) (sz:=1) O O aD) O O bg O O (size:=1) (bytes:=8) O O O aD kq J jU<|fun v92 w90 Np=>AQ 12 O (Np.sub (sQ (sQ (sP (sP (sQ sR)))))) (af O)<|AQ 13 O (Np.sub (sQ (sQ (sP (sP (sQ sR)))))) (fA gR 2 O cP O)<|A1 14<|ec O aH Np (j:=1) O (sQ (sQ (sP (sP (sQ sR))))) (bL O O (v:=v92) O (aS (Np.get (i:=4) O)).1 (aS (Np.get (i:=4) O)).2 (Np.blk (i:=1) O) az)<|fun w95 vx=>AD<|ah<|SR<|mI rfl<|mI rfl<|mI rfl<|yd 4 4 vx (ct bg O O (sz:=1) (vs:=[I _,I 1,I _,I _]) O O aD aD O O)<|fun b99 w97 Sq=> ?_
 (try simp only[oX]at Sq)
 refine V (aA (Sq.dQ (i:=0) (n:=4) (sz:=1) O O aD) O bg O)<|aE (v:=I 0) rfl<|aa<|aC<|have e0:((bD nd)++(EZ (qM nd.length)).take (0:Int).toNat)=(bD nd):=az;bj (G:=Int×Value×(Option (Nat×Array Value))×Value×(Option (Nat×Array Value))×(List (Value×jo))×(List a8)) (fun⟨k,v1,c1,u1,c2,lK,Z1⟩ s' w'=>(Fr (5::(rg 29 12 [])) _ s')/\(Hp W0 w' (_::_:: .blk F (.cells #[nA,nB,nC,nD,nE,nF,nG,nH,v1,u1,v92,I (cnt),nI,nJ,nK,nL] 111 (0,0))::cE c1 v1 35 (((bD nd)++(EZ (qM nd.length)).take k.toNat).map U)::cE c2 u1 1 (lK.map Prod.fst)::_::Z1))/\(s' 29=I k)/\(0<=k)/\(k<=4)/\(cO c1 v1 (((bD nd)++(EZ (qM nd.length)).take k.toNat).map U))/\(cO c2 u1 (lK.map Prod.fst))/\(lK.map Prod.snd=ul.map Prod.snd++L8 (bD nd).length k)/\(lK.take ul.length=ul)/\(∃Lb,Z1=Lb++L/\∀x∈lK.drop ul.length,oQ (⟨134,243,193,3,35,8⟩:UT) F Lb x)/\(lK.length<=ul.length+k.toNat)) (fun⟨k,v1,c1,u1,c2,lK,Z1⟩=>(4-k).toNat) ((0,vW,cW,vU,cU,ul,L)) ⟨Fr.refl _ _,(by rw[e0];exact Sq),rfl,J,J,QZ,IF,(by simp[L8]),(Kl ..),⟨[],rfl,az⟩,J⟩<| ?_
 rintro⟨k,v1,c1,u1,c2,lK,Z1⟩ aLE atL ⟨apK,vp,Su,h0,h4,Il,CQ,hms,hpt,hzz,anD⟩
 obtain⟨ajt,atM,anE,anF⟩:=apK.w4 0 3 27 28
 refine SR<|V (aL Su anF)<|aa<|ah<|aF O (fun aFZ=> ?_) (fun aFZ=> ?_)
 .refine ak<|ah<|aC<|SR<|V (ag (vp.dQ (i:=0) (n:=4) (sz:=1) O O aD) bg bz anE Su J)<|V (au bx O O ((vp.dQ (i:=0) (n:=4) (sz:=1) O O aD).cell _ _ (Ye h0 ‹k<_›)))<|aI rfl<|aa<|ax<|aE ajt<|V (af O)<|V (fA gR 0 O uw O)<|V (fA yD 0 O yH O)<|mI rfl<|V (jW bx dW O)<|bV O (qJ _ _ _ _ _ _ _ _ _ _ _ _ Xe J _ Il CQ (vp.pj [2,2,2])) (aJ call91 O O)<| ?_
  rintro _ atN ⟨rfl,aF0,aF1,aF2,aF3,ayG,apL,aju,ayH,ayI,apM,ayJ,apN,aF4⟩
  have P4:=Hp.lN (A:=[_,_,_]) (R:=[_,_,_]) aF4
  simp only[fH,er]at P4
  have ayK:=P4.pk [3,3]
  refine aa<|ax<|V (ay Su O J)<|mI rfl<|aa<| ?_
  refine⟨(k+1,aF0,aF1,aF2,aF3,ayG,(apL++Z1)),aZ,apK.u4.u4.u4.u1,(Hp.conv ayK Xf),(aK I aN),J,J,?_,?_,?_,?_,?_,?_⟩
  ·(rw[Jq h0 ‹k<_›,<-dg];exact aju)
  .exact ayH
  ·(rw[ayI,hms,HA h0,<-dg,cV,eo];congr 3;(have:(EZ (qM nd.length)).length=4:=rfl);omega)
  ·(obtain⟨Lb0,rfl,VN⟩:=hzz;exact(oR hpt apM VN apN).1)
  ·(obtain⟨Lb0,rfl,VN⟩:=hzz;exact⟨apL++Lb0,by rw[dg],(oR hpt apM VN apN).2⟩)
  (have:=ayJ;omega)
 refine a7 (id:=0) rfl<|SR<|aE ajt<|V (af O)<|V (fA gR 3 O bz O)<|lI bx vp 2 O O rfl<|V (ay O O J)<|V (af O)<|V (fA gR 3 O bz O)<|bu vp (i:=2) O (bL O O (v:=I _) O O O (vp.blk (i:=2) O) az)<|fun aF5 ajv=>aa<|SR<|aE atM<|aI rfl<|aa<|aj<|have ek:k=4:=J;?_
 subst ek
 obtain⟨Lb0,rfl,VN⟩:=hzz
 exact iG O (v:=I nd.length) O ⟨rfl,v1,c1,u1,c2,v92,lK,Lb0,Xm,CQ,(hms.trans Yf),hpt,VN,(by rw[pG,show(ts++[(ul.length:Int)]).length=ts.length+1 by simp,show(ts++[(ul.length:Int)]).map I=ts.map I++[I ((ul.map Prod.fst).length:Int)]by simp];exact(ajv.pj [2,2,2,2]).sub (sP (sP (sP (sP (sQ (sQ sR)))))))⟩
set_option maxHeartbeats 1000000 in
theorem A2{nA nB nC nD nE nF nG nH nI nJ nK nL:Value}(W0:World)(F:Nat)(vW vU vT:Value)(cnt:Int)(cW cU:Option (Nat×Array Value))(nd:List pN)(ul:List (Value×jo))(ts:List Int)(L:List a8)(cl:List Nat)(i j:Int)(hn:nd.length<=100000)(NU:ul.length<=1000000)(hts:ts.length<=1000000)(VM: -1000000<=cnt/\cnt<=1000000)(hf:Fo nd cl)(w:World)(yw:cO cW vW ((bD nd).map U))(IF:cO cU vU (ul.map Prod.fst))(hH:Hp W0 w (.blk F (.cells #[nA,nB,nC,nD,nE,nF,nG,nH,vW,vU,vT,I (cnt),nI,nJ,nK,nL] 111 (0,0))::cE cW vW 35 ((bD nd).map U)::cE cU vU 1 (ul.map Prod.fst):: .row vT 3 1 ts.length (ts.map I)::L)):Calls Tryz.prog 156 #[.pointer (some ⟨F,8,none⟩),I i,I j] w (iA fun u w'=>(u=B false/\¬HE nd.length cl i j/\Hp W0 w' (.blk F (.cells #[nA,nB,nC,nD,nE,nF,nG,nH,vW,vU,vT,I (cnt),nI,nJ,nK,nL] 111 (0,0))::cE cW vW 35 ((bD nd).map U)::cE cU vU 1 (ul.map Prod.fst):: .row vT 3 1 ts.length (ts.map I)::L))\/(u=B true/\∃(a b:Nat),UnP nd cl i j a b/\∃(v1:Value) (c1:Option (Nat×Array Value)) (u1:Value) (c2:Option (Nat×Array Value)) (t1:Value) (lK:List (Value×jo)) (Lb:List a8),cO c1 v1 ((bD (oP nd a b)).map U)/\cO c2 u1 (lK.map Prod.fst)/\lS (bD nd) (ul.map Prod.snd) (bD (oP nd a b)) (lK.map Prod.snd)/\lK.take ul.length=ul/\lK.length<=ul.length+5/\(∀x∈lK.drop ul.length,oQ (⟨134,243,193,3,35,8⟩:UT) F Lb x)/\Hp W0 w' (.blk F (.cells #[nA,nB,nC,nD,nE,nF,nG,nH,v1,u1,t1,I (cnt-1),nI,nJ,nK,nL] 111 (0,0))::cE c1 v1 35 ((bD (oP nd a b)).map U)::cE c2 u1 1 (lK.map Prod.fst):: .row t1 3 1 (ts++[(ul.length:Int)]).length ((ts++[(ul.length:Int)]).map I)::(Lb++L)))):=by
 have Zb:=gW nd
 refine en func156 rfl rfl<|SR<|va (v:=B false) rfl<|aa<|ah<|SR<|aE (v:=Pn _ _) rfl<|mI rfl<|aG O hH (l9 _ _ _ _ _ _ _ J _ (hH.blk (i:=0) O) (hH.xY (i:=1) O yw)) (aJ call158 O O)<|fun w1 aW=>V (uC O)<|mB rfl<|bN 16 O (fun h6=> ?_) (fun h6=> ?_)
 .refine aE (v:=B true) rfl<|aa<|cB rfl<|SR<|va (v:=B false) rfl<|aa<|aj<|iG O (v:=B false) O (.inl ⟨rfl,(by exact arT J),aW⟩)
 refine aE (v:=Pn _ _) rfl<|mI rfl<|aG O aW (l9 _ _ _ _ _ _ _ J _ (aW.blk (i:=0) O) (aW.xY (i:=1) O yw)) (aJ call158 O O)<|fun w7 fq=>V (uC O)<|mB rfl<|aa<|aF O (fun h12=> ?_) (fun h12=> ?_)
 .refine SR<|va (v:=B false) rfl<|aa<|aj<|iG O (v:=B false) O (.inl ⟨rfl,(by exact arU J),fq⟩)
 refine ak<|SR<|aE (v:=Pn _ _) rfl<|mI rfl<|aG O fq (nU _ _ _ _ _ nd cl _ J m6 J _ (fq.blk (i:=0) O) (fq.xY (i:=1) O yw)) (aJ call160 O O)<|fun C7 cF=>aE (v:=Pn _ _) rfl<|mI rfl<|aG O cF (nU _ _ _ _ _ nd cl _ J m6 J _ (cF.blk (i:=0) O) (cF.xY (i:=1) O yw)) (aJ call160 O O)<|fun Wg cG=>aI rfl<|aI rfl<|aa<|ah<|SR<|mI rfl<|mI rfl<|V (bX O O)<|aa<|aF O (fun pW=> ?_) (fun pW=> ?_)
 .refine SR<|va (v:=B false) rfl<|aa<|aj<|iG O (v:=B false) O (.inl ⟨rfl,(by exact arV hf J J J),cG⟩)
 refine ak<|SR<|aE (v:=Pn _ _) rfl<|V (af O)<|V (fA gR 0 O uw O)<|va (v:=Pn _ _) rfl<|aa<|Et (G:=(Value)) cG (rg 34 13 []) (fun(L:List a8) (t1:(Value))=>((L).set 0 (.blk F (.cells #[nA,nB,nC,nD,nE,nF,nG,nH,vW,vU,t1,I (cnt),nI,nJ,nK,nL] 111 (0,0)))).set 3 (.row t1 3 1 (ts.length+1) (ts.map I++[I ((ul.map Prod.fst).length:Int)]))) (fun(t1:(Value)) s'=>True) ?_ ?_
 .refine gY aM cG (sQ (sP (sP (sQ sR))))<|fun Vo cL=>have zJ:=cL.sub (sQ (sP (sP (sQ sR))));AQ 0 O zJ (mV (Pn _ _) O)<|AQ 1 O zJ (mV (Pn _ _) O)<|AQ 2 O zJ (af O)<|AQ 3 O zJ (fA gR 2 O cP O)<|AQ 5 O zJ (mV (Pn _ _) O)<|AQ 6 O zJ (af O)<|AQ 7 O zJ (fA yD 0 O yH O)<|iy 4 8 aM ?_ ?_
  .refine cf O aH O cL (sQ (sP (sP (sQ sR)))) (au bg O O (cL.cell (i:=0) O O))<|A1 8<|cJ O aH O cL (sQ (sP (sP (sQ sR)))) (l8 _ _ _ _ _ _ _ _ (cL.blk (i:=0) O) (cL.xY (i:=1) O yw) (cL.Az (i:=2) O IF)) (aq call90 O)<|fun w23 oF=>A1 9<|cY O aH O oF (sQ (sP (sP (sQ sR)))) (f:=fun b=> .slice (some ⟨b,0,none⟩) 1 1) (ct bg O O (sz:=1) (vs:=[I _]) O O aD aD O O)<|fun b27 w25 kB=> ?_
   (try simp only[oX]at kB)
   refine A1 10<|lA O aH O kB (j:=4) O (fun _=>(sQ (sQ (sP (sP (sQ sR)))))) (kB.dQ (i:=0) (n:=1) (sz:=1) O O aD) O O bg O O (size:=1) (bytes:=8) O O O aD kq J jU<|fun v30 w28 gx=>AQ 11 O (gx.sub (sQ (sQ (sP (sP (sQ sR)))))) (af O)<|AQ 12 O (gx.sub (sQ (sQ (sP (sP (sQ sR)))))) (fA gR 2 O cP O)<|A1 13<|ec O aH gx (j:=1) O (sQ (sQ (sP (sP (sQ sR))))) (bL O O (v:=v30) O (aS (gx.get (i:=4) O)).1 (aS (gx.get (i:=4) O)).2 (gx.blk (i:=1) O) az)<|fun w33 mS=>AD<| ?_
   refine⟨((Fr.refl _ _)).u4.u4.u4.u1,v30,(Hp.conv (mS.sub (sQ sR)) aN),trivial⟩
  refine cJ O aH O cL (sQ (sP (sP (sQ sR)))) (l8 _ _ _ _ _ _ _ _ (cL.blk (i:=0) O) (cL.xY (i:=1) O yw) (cL.Az (i:=2) O IF)) (aq call90 O)<|fun w35 nO=>iy 4 9 aM ?_ ?_
  .refine cf O aH O nO (sQ (sP (sP (sQ sR)))) (au bg O O (nO.cell (i:=0) O O))<|A1 9<|cY O aH O nO (sQ (sP (sP (sQ sR)))) (f:=fun b=> .slice (some ⟨b,0,none⟩) 1 1) (ct bg O O (sz:=1) (vs:=[I _]) O O aD aD O O)<|fun b41 w39 n8=> ?_
   (try simp only[oX]at n8)
   refine A1 10<|lA O aH O n8 (j:=4) O (fun _=>(sQ (sQ (sP (sP (sQ sR)))))) (n8.dQ (i:=0) (n:=1) (sz:=1) O O aD) O O bg O O (size:=1) (bytes:=8) O O O aD kq J jU<|fun v44 w42 mz=>AQ 11 O (mz.sub (sQ (sQ (sP (sP (sQ sR)))))) (af O)<|AQ 12 O (mz.sub (sQ (sQ (sP (sP (sQ sR)))))) (fA gR 2 O cP O)<|A1 13<|ec O aH mz (j:=1) O (sQ (sQ (sP (sP (sQ sR))))) (bL O O (v:=v44) O (aS (mz.get (i:=4) O)).1 (aS (mz.get (i:=4) O)).2 (mz.blk (i:=1) O) az)<|fun w47 mW=>AD<| ?_
   refine⟨((Fr.refl _ _)).u4.u4.u4.u1,v44,(Hp.conv (mW.sub (sQ sR)) aN),trivial⟩
  refine cY O aH O nO (sQ (sP (sP (sQ sR)))) (f:=fun b=> .slice (some ⟨b,0,none⟩) 1 1) (ct bg O O (sz:=1) (vs:=[I _]) O O aD aD O O)<|fun b51 w49 eS=> ?_
  (try simp only[oX]at eS)
  refine A1 4<|cf O aH O eS (sQ (sQ (sP (sP (sQ sR))))) (au bg O O (eS.cell (i:=1) O O))<|A1 10<|lA O aH O eS (j:=4) O (fun _=>(sQ (sQ (sP (sP (sQ sR)))))) (eS.dQ (i:=0) (n:=1) (sz:=1) O O aD) O O bg O O (size:=1) (bytes:=8) O O O aD kq J jU<|fun v56 w54 iY=>AQ 11 O (iY.sub (sQ (sQ (sP (sP (sQ sR)))))) (af O)<|AQ 12 O (iY.sub (sQ (sQ (sP (sP (sQ sR)))))) (fA gR 2 O cP O)<|A1 13<|ec O aH iY (j:=1) O (sQ (sQ (sP (sP (sQ sR))))) (bL O O (v:=v56) O (aS (iY.get (i:=4) O)).1 (aS (iY.get (i:=4) O)).2 (iY.blk (i:=1) O) az)<|fun w59 Gc=>AD<| ?_
  refine⟨((Fr.refl _ _)).u4.u4.u4.u1,v56,(Hp.conv (Gc.sub (sQ sR)) aN),trivial⟩
 rintro t1 aF6 w61 anG vi-
 obtain⟨ayL,ayM,IG,ajw,Nq⟩:=anG.w5 0 6 7 8 9
 refine Et (G:=(Nat)×(Nat)) vi (7::8::(rg 47 9 [])) (fun(L:List a8) (⟨a,b⟩:(Nat)×(Nat))=>L) (fun(⟨a,b⟩:(Nat)×(Nat)) s'=>(s' 7=I (a:Int))/\(s' 8=I (b:Int))/\(UnP nd cl i j a b)) ?_ ?_
 .refine SR<|aE Nq<|aE IG<|aG O vi (df _ _ _ _ _ _ _ _ aer _ (vi.blk (i:=0) O) (vi.xY (i:=1) O yw)) (bB s8 O O (show _=I 1 from O))<|fun w62 pC=>aE Nq<|aE ajw<|aG O pC (df _ _ _ _ _ _ _ _ aer _ (pC.blk (i:=0) O) (pC.xY (i:=1) O yw)) (bB s8 O O (show _=I 1 from O))<|fun w64 AX=>V (aL O O)<|aa<|aF O (fun h67=> ?_) (fun h67=> ?_)
  .refine ax<|aE ajw<|aE IG<|aI rfl<|aI rfl<|aa<| ?_
   refine⟨((Fr.refl _ _)).u4.u4.u1.u1.u1,(oo nd cl j.toNat,oo nd cl i.toNat),AX,(aK I aN),(aK I aN),?_⟩
   exact(Uy hf J J J).swap
  refine ak ?_
  refine⟨((Fr.refl _ _)).u4.u1.u1.u1,(oo nd cl i.toNat,oo nd cl j.toNat),AX,(jA IG (aK I aN)),(jA ajw (aK I aN)),?_⟩
  exact Uy hf J J J
 rintro⟨a,b⟩ aP7 w68 aF7 mA ⟨Nr,VO,hP⟩
 obtain⟨ayN,Cp⟩:=aF7.t2 0 ayL 9 Nq
 have ha:=hP.ha
 have hb:=hP.hb
 have hab:=hP.ab
 have sa:=hf.small ha
 have sb:=hf.small hb
 have ta:=hf.ahe ha hP.ua
 have tb:=hf.ahe hb hP.ub
 refine SR<|aE Cp<|aE VO<|aE Nr<|bV O (j9 _ _ _ _ _ _ _ _ _ _ _ _ _ _ J J J _ yw IF mA) (jb call189 O O (show _=I 0 from O) O)<| ?_
 rintro _ w71 ⟨rfl,v74,c75,u76,e77,ayO,aQa,anH,aF8,aF9,aGa,aQb,aGb,h72⟩
 have vS:=Hp.lN (A:=[_,_,_]) (R:=[_]) h72
 simp only[fH,er]at vS
 have l1:(ko nd b a).length=nd.length:=by simp[ko,mK,qN,uT]
 have pD:=gW (ko nd b a)
 have lt1:lS (bD nd) (ul.map Prod.snd) (bD (ko nd b a)) (ayO.map Prod.snd):=by rw[aF9,<-agW (nd:=nd) hb];exact lS.set J
 rw[agW hb]at anH vS
 have la1:=lt1
 have dr1:=And.intro aGa aGb
 refine aa<|SR<|aE Cp<|aE Nr<|aE Cp<|aE Nr<|aG O vS (df _ _ _ _ _ _ _ _ J _ (vS.blk (i:=0) O) (vS.xY (i:=1) O anH)) (bB s8 O O (show _=I 1 from O))<|fun w86 VD=>have c64:=aoR (nd:=(ko nd b a)) (a:=a) (v:=kr nd a) (by rw[l1];exact ha) Uj J;aE Cp<|aE VO<|aG O VD (df _ _ _ _ _ _ _ _ J _ (VD.blk (i:=0) O) (VD.xY (i:=1) O anH)) (bB s8 O O (show _=I 1 from O))<|fun w88 Sv=>have c67:=aoR (nd:=(ko nd b a)) (a:=b) (v:=kr nd b) (by rw[l1];exact hb) Uj J;V (ay (aK I c64) (aK I c67) J)<|bV O (j9 _ _ _ _ _ _ _ _ _ _ _ _ _ _ J J J _ anH aF8 Sv) (jb call189 O O (show _=I 1 from O) (aK I (show _=((kr nd a+kr nd b:Nat):Int)from by omega)))<| ?_
 rintro _ w92 ⟨rfl,v95,c96,u97,e98,ayP,ajx,abd,ayQ,ayR,ayS,aLJ,ayT,h93⟩
 have vY:=Hp.lN (A:=[_,_,_]) (R:=[_]) h93
 simp only[fH,er]at vY
 have l2:(mK (ko nd b a) a (kr nd a+kr nd b)).length=nd.length:=by simp[ko,mK,qN,uT]
 have I4:=gW (mK (ko nd b a) a (kr nd a+kr nd b))
 have lt2:lS (bD (ko nd b a)) (ayO.map Prod.snd) (bD (mK (ko nd b a) a (kr nd a+kr nd b))) (ayP.map Prod.snd):=by rw[ayR,<-agX (nd:=(ko nd b a)) (by rw[l1];exact ha)];exact lS.set J
 rw[agX (by rw[l1];exact ha)]at abd vY
 have la2:=la1.trans lt2
 have dr2:=oR dr1.1 ayS dr1.2 ayT
 refine aa<|SR<|aE Cp<|aE Nr<|aE Cp<|aE Nr<|aG O vY (df _ _ _ _ _ _ _ _ J _ (vY.blk (i:=0) O) (vY.xY (i:=1) O abd)) (bB s8 O O (show _=I 3 from O))<|fun aQj ajy=>have c74:=aoT (nd:=(mK (ko nd b a) a (kr nd a+kr nd b))) (a:=a) (v:=pZ nd a) (by rw[l2];exact ha) (Un.trans Ul) J;aE Cp<|aE VO<|aG O ajy (df _ _ _ _ _ _ _ _ J _ (ajy.blk (i:=0) O) (ajy.xY (i:=1) O abd)) (bB s8 O O (show _=I 3 from O))<|fun aGd P0=>have c77:=aoT (nd:=(mK (ko nd b a) a (kr nd a+kr nd b))) (a:=b) (v:=pZ nd b) (by rw[l2];exact hb) (Un.trans Ul) J;V (qk (aK I c74) (aK I c77))<|bV O (j9 _ _ _ _ _ _ _ _ _ _ _ _ _ _ J J J _ abd ayQ P0) (jb call189 O O (show _=I 3 from O) (aK I (show _=((min (pZ nd a) (pZ nd b):Nat):Int)from by omega)))<| ?_
 rintro _ aGe ⟨rfl,aQm,aQn,aQo,aQp,apO,aLL,abe,ayU,ayV,ayW,aLM,ayX,atO⟩
 have DO:=Hp.lN (A:=[_,_,_]) (R:=[_]) atO
 simp only[fH,er]at DO
 have l3:(qN (mK (ko nd b a) a (kr nd a+kr nd b)) a (min (pZ nd a) (pZ nd b))).length=nd.length:=by simp[ko,mK,qN,uT]
 have wl3:=gW (qN (mK (ko nd b a) a (kr nd a+kr nd b)) a (min (pZ nd a) (pZ nd b)))
 have lt3:lS (bD (mK (ko nd b a) a (kr nd a+kr nd b))) (ayP.map Prod.snd) (bD (qN (mK (ko nd b a) a (kr nd a+kr nd b)) a (min (pZ nd a) (pZ nd b)))) (apO.map Prod.snd):=by rw[ayV,<-agY (nd:=(mK (ko nd b a) a (kr nd a+kr nd b))) (by rw[l2];exact ha)];exact lS.set J
 rw[agY (by rw[l2];exact ha)]at abe DO
 have la3:=la2.trans lt3
 have dr3:=oR dr2.1 ayW dr2.2 ayX
 refine aa<|SR<|aE Cp<|aE Nr<|aG O DO (df _ _ _ _ _ _ _ _ J _ (DO.blk (i:=0) O) (DO.xY (i:=1) O abe)) (bB s8 O O (show _=I 2 from O))<|fun aQs Ns=>have c82:=aoS (nd:=(qN (mK (ko nd b a) a (kr nd a+kr nd b)) a (min (pZ nd a) (pZ nd b)))) (a:=a) (v:=sE nd a) (by rw[l3];exact ha) (Uo.trans (Um.trans Uk)) J;aE Cp<|aE VO<|aG O Ns (df _ _ _ _ _ _ _ _ J _ (Ns.blk (i:=0) O) (Ns.xY (i:=1) O abe)) (bB s8 O O (show _=I 2 from O))<|fun aGf abf=>have c85:=aoS (nd:=(qN (mK (ko nd b a) a (kr nd a+kr nd b)) a (min (pZ nd a) (pZ nd b)))) (a:=b) (v:=sE nd b) (by rw[l3];exact hb) (Uo.trans (Um.trans Uk)) J;V (run_assign (aK I c82))<|V (run_assign (aK I c85))<|aa<|SR<|aE Cp<|aE Nr<|mI rfl<|bV O (j9 _ _ _ _ _ _ _ _ _ _ _ _ _ _ J J J _ abe ayU abf) (jb call189 O O (show _=I 2 from O) O)<| ?_
 rintro _ aQv ⟨rfl,aQw,aQx,aQy,aQz,apP,aLO,apQ,ayY,ayZ,ay0,aLP,ay1,aGg⟩
 have Gd:=Hp.lN (A:=[_,_,_]) (R:=[_]) aGg
 simp only[fH,er]at Gd
 have l4:(uT (qN (mK (ko nd b a) a (kr nd a+kr nd b)) a (min (pZ nd a) (pZ nd b))) a (sE nd b)).length=nd.length:=by simp[ko,mK,qN,uT]
 have wl4:=gW (uT (qN (mK (ko nd b a) a (kr nd a+kr nd b)) a (min (pZ nd a) (pZ nd b))) a (sE nd b))
 have lt4:lS (bD (qN (mK (ko nd b a) a (kr nd a+kr nd b)) a (min (pZ nd a) (pZ nd b)))) (apO.map Prod.snd) (bD (uT (qN (mK (ko nd b a) a (kr nd a+kr nd b)) a (min (pZ nd a) (pZ nd b))) a (sE nd b))) (apP.map Prod.snd):=by rw[ayZ,<-RA (nd:=(qN (mK (ko nd b a) a (kr nd a+kr nd b)) a (min (pZ nd a) (pZ nd b)))) (by rw[l3];exact ha)];exact lS.set J
 rw[RA (by rw[l3];exact ha)]at apQ Gd
 have la4:=la3.trans lt4
 have dr4:=oR dr3.1 ay0 dr3.2 ay1
 refine aa<|SR<|aE Cp<|aE VO<|mI rfl<|bV O (j9 _ _ _ _ _ _ _ _ _ _ _ _ _ _ J J J _ apQ ayY Gd) (jb call189 O O (show _=I 2 from O) O)<| ?_
 rintro _ aQC ⟨rfl,v154,aGh,aGi,aGj,apR,aLR,ajz,ay2,ay3,ay4,aLS,ay5,atP⟩
 have II:=Hp.lN (A:=[_,_,_]) (R:=[_]) atP
 simp only[fH,er]at II
 have l5:(uT (uT (qN (mK (ko nd b a) a (kr nd a+kr nd b)) a (min (pZ nd a) (pZ nd b))) a (sE nd b)) b (sE nd a)).length=nd.length:=by simp[ko,mK,qN,uT]
 have wl5:=gW (uT (uT (qN (mK (ko nd b a) a (kr nd a+kr nd b)) a (min (pZ nd a) (pZ nd b))) a (sE nd b)) b (sE nd a))
 have lt5:lS (bD (uT (qN (mK (ko nd b a) a (kr nd a+kr nd b)) a (min (pZ nd a) (pZ nd b))) a (sE nd b))) (apP.map Prod.snd) (bD (uT (uT (qN (mK (ko nd b a) a (kr nd a+kr nd b)) a (min (pZ nd a) (pZ nd b))) a (sE nd b)) b (sE nd a))) (apR.map Prod.snd):=by rw[ay3,<-RA (nd:=(uT (qN (mK (ko nd b a) a (kr nd a+kr nd b)) a (min (pZ nd a) (pZ nd b))) a (sE nd b))) (by rw[l4];exact hb)];exact lS.set J
 rw[RA (by rw[l4];exact hb)]at ajz II
 have la5:=la4.trans lt5
 have dr5:=oR dr4.1 ay4 dr4.2 ay5
 refine aa<|SR<|aE ayN<|V (af O)<|V (fA gR 3 O bz O)<|lI bx II 0 O O rfl<|V (fG O O J)<|V (af O)<|V (fA gR 3 O bz O)<|bu II (i:=0) O (bL O O (v:=I _) O O O (II.blk (i:=0) O) az)<|fun aQE ajA=>aa<|SR<|va (v:=B true) rfl<|aa<|aj<|have hE:=ajA;?_
 rw[agT ha hb hab]at hE ajz la5
 refine iG O (v:=B true) O (.inr ⟨rfl,a,b,hP,v154,aGh,aGi,aGj,t1,apR,_,ajz,ay2,la5,dr5.1,J,dr5.2,?_⟩)
 rw[show(ts++[(ul.length:Int)]).length=ts.length+1 by simp,show(ts++[(ul.length:Int)]).map I=ts.map I++[I ((ul.map Prod.fst).length:Int)]by simp];simp only[dg];exact hE
set_option maxHeartbeats 1000000 in
theorem Cq{nA nB nC nD nE nF nG nH nI nJ nK nL:Value}(W0:World)(F:Nat)(vW vU vT:Value)(cnt:Int)(cW cU:Option (Nat×Array Value))(W:List (BitVec 64))(ul:List (Value×jo))(tn:List Nat)(cs:List (List Nat))(L:List a8)(m:Int)(NU:ul.length<=1000000)(htn:tn.length<=100000)(hs:Hs W (ul.map Prod.snd) tn cs)(hok:L3 W.length (ul.map Prod.snd))(hI:∀x∈ul,oQ (⟨134,243,193,3,35,8⟩:UT) F L x)(VM:cnt=(leads (cs.headD []):Nat))(w:World)(yw:cO cW vW (W.map U))(IF:cO cU vU (ul.map Prod.fst))(hH:Hp W0 w (.blk F (.cells #[nA,nB,nC,nD,nE,nF,nG,nH,vW,vU,vT,I (cnt),nI,nJ,nK,nL] 111 (0,0))::cE cW vW 35 (W.map U)::cE cU vU 1 (ul.map Prod.fst):: .row vT 3 1 tn.length ((I1 tn).map I)::L)):Calls Tryz.prog 49 #[.pointer (some ⟨F,8,none⟩),I m] w (iA fun u w'=>(u=B false/\(tn.length:Int)<m/\Hp W0 w' (.blk F (.cells #[nA,nB,nC,nD,nE,nF,nG,nH,vW,vU,vT,I (cnt),nI,nJ,nK,nL] 111 (0,0))::cE cW vW 35 (W.map U)::cE cU vU 1 (ul.map Prod.fst):: .row vT 3 1 tn.length ((I1 tn).map I)::L))\/(u=B true/\m<=tn.length/\∃(v1:Value) (c1:Option (Nat×Array Value)) (u1:Value) (c2:Option (Nat×Array Value)) (t1:Value) (W1:List (BitVec 64)) (lK:List (Value×jo)) (Iz:List Nat) (ED:List (List Nat)),FE ul lK tn Iz cs ED W1/\(Iz.length:Int)=max 0 m/\cO c1 v1 (W1.map U)/\cO c2 u1 (lK.map Prod.fst)/\Hp W0 w' (.blk F (.cells #[nA,nB,nC,nD,nE,nF,nG,nH,v1,u1,t1,I ((leads (ED.headD []):Nat)),nI,nJ,nK,nL] 111 (0,0))::cE c1 v1 35 (W1.map U)::cE c2 u1 1 (lK.map Prod.fst):: .row t1 3 1 Iz.length ((I1 Iz).map I)::L))):=by
 refine en func49 rfl rfl<|SR<|va (v:=B false) rfl<|aa<|ah<|SR<|aE (v:=Pn _ _) rfl<|V (jf Kr O O)<|mB rfl<|cC O rfl<|mI rfl<|aE (v:=Pn _ _) rfl<|V (af O)<|V (fA gR 2 O cP O)<|lV bg hH 0 O O rfl<|V (aA (hH.sl (i:=3) O) O bg O)<|V (dz O O)<|mB rfl<|aa<|aF O (fun h2=> ?_) (fun h2=> ?_)
 .refine SR<|va (v:=B false) rfl<|aa<|aj<|iG O (v:=B false) O (.inl ⟨rfl,J,hH⟩)
 refine ak<|ah<|SR<|aE (v:=Pn _ _) rfl<|V (af O)<|V (fA gR 2 O cP O)<|lV bg hH 0 O O rfl<|V (aA (hH.sl (i:=3) O) O bg O)<|V (fG O O J)<|aI rfl<|aa<|aC<| ?_
 rw[VM]at hH
 refine bj (G:=(List (BitVec 64))×(List (Value×jo))×(List Nat)×(List (List Nat))×(Option (Nat×Array Value))×Value×(Option (Nat×Array Value))×Value×Value) (fun⟨W1,lK,Iz,ED,c1,v1,c2,u1,t1⟩ s' w'=>(Fr (5::6::(rg 24 47 [])) _ s')/\(Hp W0 w' (.blk F (.cells #[nA,nB,nC,nD,nE,nF,nG,nH,v1,u1,t1,I ((leads (ED.headD []):Nat)),nI,nJ,nK,nL] 111 (0,0))::cE c1 v1 35 (W1.map U)::cE c2 u1 1 (lK.map Prod.fst):: .row t1 3 1 Iz.length ((I1 Iz).map I)::_))/\(s' 5=I ((Iz.length:Int)-1))/\(FE ul lK tn Iz cs ED W1)/\(cO c1 v1 (W1.map U))/\(cO c2 u1 (lK.map Prod.fst))/\(max 0 m<=(Iz.length:Int))) (fun⟨W1,lK,Iz,ED,c1,v1,c2,u1,t1⟩=>Iz.length) ((W,ul,tn,cs,cW,vW,cU,vU,vT)) ⟨Fr.refl _ _,hH,rfl,(FE.start hs hok),yw,IF,J⟩ ?_
 rintro⟨W1,lK,Iz,ED,c1,v1,c2,u1,t1⟩ sg3 w3 ⟨fr3,rY,Jg,hb,Il,CQ,HR⟩
 obtain⟨AJ,atD⟩:=fr3.w2 0 1
 refine ah<|SR<|aE Jg<|aE atD<|V (Br O O)<|V (dA O O)<|aa<|aF O (fun h5=> ?_) (fun h5=> ?_)
 .refine ak<|ah<|aC<|SR<| ?_
  obtain⟨t,tn2,cl,c3,cs2,rfl,rfl⟩:=arW hb.hs J
  obtain⟨nd1,nd2,e1,f1,e2,f2,hs2⟩:=amr hb.hs
  subst e1
  have q1:=f1.len
  have q2:=f2.len
  have n1:=hb.hs.Yk
  have n2:=hs2.Yk
  have cn:=hb.hs.cnt
  unfold Fy at cn
  have lc:=Ma cl
  have lc3:=Ma c3
  have tl:=hb.tn
  have ule:=hb.le
  have S6:=hb.hs.le
  rw[gj]at S6
  have hkk:((t::tn2).length:Int)=tn2.length+1:=az
  have hkn:(((t::tn2).length:Int)-1).toNat=tn2.length:=J
  have pD:=gW nd1
  have I4:=gW nd2
  simp only[WY]at rY
  refine aE AJ<|aG O rY (k9 _ _ _ _ _ _ J _ (rY.blk (i:=0) O) (rY.xY (i:=1) O Il)) (aq call89 O)<|fun w6 eD=>aI rfl<|aa<|ah<|gY aM eD (sQ (sQ (sQ sR)))<|fun w8 iB=>have Nt:=iB.sub (sQ (sQ (sQ sR)));AQ 0 O Nt (run_move AJ)<|AQ 1 O Nt (af O)<|AQ 2 O Nt (fA gR 0 O uw O)<|AQ 3 O Nt (fA yD 0 O yH O)<|AQ 4 O Nt (run_move AJ)<|AQ 5 O Nt (af O)<|AQ 6 O Nt (fA gR 2 O cP O)<|AQ 8 O Nt (run_move Jg)<|A1 7<|cf O aH O iB (sQ (sQ (sQ sR))) (au bg O O (iB.cell (i:=0) O O))<|AT 9 O Nt (fun w hS=>ag (hS.sl (i:=0) O) bg bz O O J)<|AT 10 O Nt (fun w hS=>au bx O O ((hS.sl (i:=0) O).cell _ _ (arX J)))<|A1 11<|th O aH O (EQ _ _ _ _ _ _ _ _ _ _ _ _ J J ⟨J,Bf.2 S6⟩ _ (fun x hx=>(hI x (hb.sub x hx)).mono fun e he=>mT he) hb.ok Il CQ iB) (aJ call92 O O) (fun u w' ⟨_,_,_,_,_,_,_,h⟩=>h.sub (sQ (sQ (sQ sR))))<| ?_
  rintro _ PO ⟨rfl,v15,c16,u17,e18,Zh,atQ,fp⟩
  rw[dN,e2]at Zh
  rw[dN]at atQ
  rw[dN,e2]at fp
  refine AD<|ah<|SR<|aE AJ<|aG O fp (k9 _ _ _ _ _ _ J _ (fp.blk (i:=0) O) (fp.xY (i:=1) O Zh)) (aq call89 O)<|fun S5 eN=>mI rfl<|V (aL O O)<|aa<|aF O (fun HN=> ?_) (fun HN=> ?_)
  .refine ax<|aE AJ<|V (af O)<|V (fA gR 3 O bz O)<|lI bx eN 0 O O rfl<|have atS:((leads c3:Nat):Int)=(leads cl:Int)-1:=J;V (fG O O J)<|V (af O)<|V (fA gR 3 O bz O)<|bu eN (i:=0) O (bL O O (v:=I _) O O O (eN.blk (i:=0) O) az)<|fun Vv dD=>aa<|ax<|aE AJ<|aE AJ<|V (af O)<|V (fA gR 2 O cP O)<|lV bg dD 0 O O rfl<|aE Jg<|V (tT (dD.sl (i:=3) O) bg bz O O J)<|have jL:=dD.ams (i:=3) O (m:=tn2.length) az;?_
   rw[Uz]at jL
   refine V (af O)<|V (fA gR 2 O cP O)<|bu jL (i:=0) O (bL O O (aK (kS t1) hkn) (aS (jL.get (i:=3) O)).1 (aS (jL.get (i:=3) O)).2 (jL.blk (i:=0) O) az)<|fun w29 jx=>aa<|ax<|aE Jg<|V (fG O O J)<|aI rfl<|aa<| ?_
   refine⟨((bD nd2),(lK.take t),tn2,(c3::cs2),c16,v15,e18,u17,(kS t1 tn2.length)),?_,fr3.u4.u4.u4.u4.u4.u4.u4.u4.u4.u4.u1.u1,(Hp.conv jx (by(simp only[WY];rw[atS];rfl))),(aK I J),?_,?_,?_,J⟩
   ·(simp only[eO];omega)
   .exact hb.next e2
   .exact Zh
   exact atQ
  refine ax<|aE AJ<|V (af O)<|V (fA gR 3 O bz O)<|lI bx eN 0 O O rfl<|have atS:((leads c3:Nat):Int)=(leads cl:Int)+1:=J;V (ay O O J)<|V (af O)<|V (fA gR 3 O bz O)<|bu eN (i:=0) O (bL O O (v:=I _) O O O (eN.blk (i:=0) O) az)<|fun w31 iV=>aa<|ax<|aE AJ<|aE AJ<|V (af O)<|V (fA gR 2 O cP O)<|lV bg iV 0 O O rfl<|aE Jg<|V (tT (iV.sl (i:=3) O) bg bz O O J)<|have jN:=iV.ams (i:=3) O (m:=tn2.length) az;?_
  rw[Uz]at jN
  refine V (af O)<|V (fA gR 2 O cP O)<|bu jN (i:=0) O (bL O O (aK (kS t1) hkn) (aS (jN.get (i:=3) O)).1 (aS (jN.get (i:=3) O)).2 (jN.blk (i:=0) O) az)<|fun w34 yl=>aa<|ax<|aE Jg<|V (fG O O J)<|aI rfl<|aa<| ?_
  refine⟨((bD nd2),(lK.take t),tn2,(c3::cs2),c16,v15,e18,u17,(kS t1 tn2.length)),?_,fr3.u4.u4.u4.u4.u4.u4.u4.u4.u4.u4.u1.u1,(Hp.conv yl (by(simp only[WY];rw[atS];rfl))),(aK I J),?_,?_,?_,J⟩
  ·(simp only[eO];omega)
  .exact hb.next e2
  .exact Zh
  exact atQ
 refine a7 (id:=0) rfl<|SR<|va (v:=B true) rfl<|aa<|aj<|iG O (v:=B true) O (.inr ⟨rfl,J,v1,c1,u1,c2,t1,W1,lK,Iz,ED,hb,J,Il,CQ,rY⟩)
section
variable{w0 w:World}{L:List a8}{F m:Nat}{cs:List (List Nat)}{vW vU vT:Value}{cW cU:Option (Nat×Array Value)}{W:List (BitVec 64)}{ul:List (Value×jo)}{ts:List Int}{cn:Int}{nA nB nC nD nE nF nG nH nI nJ nK nL:Value}
theorem abg(h:vF FX F m cs vW vU cW cU W ul ts cn L)(hm:m<=100000)(hb:w.heap[F]?=some (.cells #[nA,nB,nC,nD,nE,nF,nG,nH,vW,vU,vT,I cn,nI,nJ,nK,nL] 111 (0,0)))(hW:Sl w vW 1 W.length (W.map U)):Calls Tryz.prog 123 #[.pointer (some ⟨F,8,none⟩)] w (Pure (I (leads (bk cs):Nat)) w):=by
 have VM:=h.cn
 subst VM
 exact AZ F vW vU vT _ _ w hb hW
end
section
variable{w0 w:World}{L:List a8}{F m:Nat}{cs:List (List Nat)}{vW vU vT:Value}{cW cU:Option (Nat×Array Value)}{W:List (BitVec 64)}{ul:List (Value×jo)}{ts:List Int}{cn:Int}{nA nB nC nD nE nF nG nH nI nJ nK nL:Value}
theorem ER(i:Int)(h:vF FX F m cs vW vU cW cU W ul ts cn L)(hm:m<=100000)(hb:w.heap[F]?=some (.cells #[nA,nB,nC,nD,nE,nF,nG,nH,vW,vU,vT,I cn,nI,nJ,nK,nL] 111 (0,0)))(hW:Sl w vW 1 W.length (W.map U)):Calls Tryz.prog 128 #[.pointer (some ⟨F,8,none⟩),I i] w (Pure (I (fl (bk cs) i)) w):=by
 obtain⟨nd,cl,zX,rfl,rfl,h2,h3,h4,h5,h6⟩:=h.now
 exact Co F vW vU vT _ nd cl i J h2 w hb hW
end
section
variable{w0 w:World}{L:List a8}{F m:Nat}{cs:List (List Nat)}{vW vU vT:Value}{cW cU:Option (Nat×Array Value)}{W:List (BitVec 64)}{ul:List (Value×jo)}{ts:List Int}{cn:Int}{nA nB nC nD nE nF nG nH nI nJ nK nL:Value}
theorem abh(i:Int)(h:vF FX F m cs vW vU cW cU W ul ts cn L)(hm:m<=100000)(hb:w.heap[F]?=some (.cells #[nA,nB,nC,nD,nE,nF,nG,nH,vW,vU,vT,I cn,nI,nJ,nK,nL] 111 (0,0)))(hW:Sl w vW 1 W.length (W.map U)):Calls Tryz.prog 129 #[.pointer (some ⟨F,8,none⟩),I i] w (rV 3 1 (bK (bk cs) i).length ((bK (bk cs) i).map I) w):=by
 obtain⟨nd,cl,zX,rfl,rfl,h2,h3,h4,h5,h6⟩:=h.now
 exact A0 F vW vU vT _ nd cl i J h2 w hb hW
end
section
variable{w0 w:World}{L:List a8}{F m:Nat}{cs:List (List Nat)}{vW vU vT:Value}{cW cU:Option (Nat×Array Value)}{W:List (BitVec 64)}{ul:List (Value×jo)}{ts:List Int}{cn:Int}{nA nB nC nD nE nF nG nH nI nJ nK nL:Value}
theorem ajB(h:vF FX F m cs vW vU cW cU W ul ts cn L)(hm:m<=100000)(hb:w.heap[F]?=some (.cells #[nA,nB,nC,nD,nE,nF,nG,nH,vW,vU,vT,I cn,nI,nJ,nK,nL] 111 (0,0)))(hW:Sl w vW 1 W.length (W.map U))(hT:Sl w vT 1 ts.length (ts.map I)):Calls Tryz.prog 46 #[.pointer (some ⟨F,8,none⟩)] w (Pure (I ((cs.length:Int)-1)) w):=by
 obtain⟨nd,cl,zX,rfl,rfl,h2,h3,h4,h5,h6⟩:=h.now
 have:=Cm F vW vU vT _ _ ts w hb hW hT
 rwa[show((ts.length:Nat):Int)=((cl::zX).length:Int)-1 by omega]at this
end
section
variable{w0 w:World}{L:List a8}{F m:Nat}{cs:List (List Nat)}{vW vU vT:Value}{cW cU:Option (Nat×Array Value)}{W:List (BitVec 64)}{ul:List (Value×jo)}{ts:List Int}{cn:Int}{nA nB nC nD nE nF nG nH nI nJ nK nL:Value}
theorem ay6(h:vF FX F m cs vW vU cW cU W ul ts cn L)(hm:m<=100000){R:List a8}(hH:Hp w0 w (.blk F (.cells #[nA,nB,nC,nD,nE,nF,nG,nH,vW,vU,vT,I (cn),nI,nJ,nK,nL] 111 (0,0))::cE cW vW 35 ((W).map U)::cE cU vU 1 ((ul).map Prod.fst):: .row vT 3 1 (ts).length ((ts).map I)::(R++L))):Calls Tryz.prog 47 #[.pointer (some ⟨F,8,none⟩)] w (iA fun u w'=>u=I (bk cs).length/\∃(IJ IK S7:Value) (Nu Nv:Option (Nat×Array Value)) (W':List (BitVec 64)) (wK:List (Value×jo)) (ts':List Int) (Nw:Int) (Lb:List a8),vF FX F (m+1) (RE cs) IJ IK Nu Nv W' wK ts' Nw (Lb++L)/\Hp w0 w' (.blk F (.cells #[nA,nB,nC,nD,nE,nF,nG,nH,IJ,IK,S7,I (Nw),nI,nJ,nK,nL] 111 (0,0))::cE Nu IJ 35 ((W').map U)::cE Nv IK 1 ((wK).map Prod.fst):: .row S7 3 1 (ts').length ((ts').map I)::(Lb++(R++L)))):=by
 obtain⟨tn,rfl,i⟩:=h.fo
 have VM:=h.cn
 subst VM
 obtain⟨nd,cl,zX,rfl,rfl,h2,h3,h4,h5,h6⟩:=i.now
 have l1:=i.lu;have l2:=i.lt
 refine(De w0 F vW vU vT _ cW cU nd ul (I1 tn) (R++L) J J (by rw[wC];omega) aeA w i.hW i.hU hH).mono fun e w' hr=>iA.mono ?_ hr
 rintro u w' ⟨rfl,v1,c1,u1,c2,t1,lK,Jh,k1,k2,k3,k4,k5,hh⟩
 have e5:(leads (bk (RE (cl::zX))):Nat)=leads cl+1:=by rw[<-Pe h2,h3];rfl
 have e6:((leads (bk (cl::zX)):Nat):Int)+1=((leads (bk (RE (cl::zX))):Nat):Int):=by rw[e5];rfl
 have e7:(I1 tn++[(ul.length:Int)])=I1 (ul.length::tn):=(FD ..).symm
 rw[e6,e7]at hh
 refine⟨by rw[h3];rfl,v1,u1,t1,c1,c2,bD (nd++[qM nd.length]),lK,I1 (ul.length::tn),_,Jh,⟨⟨ul.length::tn,rfl,k1,k2,?_,?_,?_,?_,?_⟩,rfl⟩,hh⟩
 .have e1:=al7 (W:=bD nd) (us:=ul.map Prod.snd) (a:=BitVec.ofNat 64 nd.length) (b:=BitVec.ofNat 64 1) (c:=BitVec.ofNat 64 nd.length) (d:=BitVec.ofNat 64 nd.length)
  have e2:bD (nd++[qM nd.length])=bD nd++[BitVec.ofNat 64 nd.length]++[BitVec.ofNat 64 1]++[BitVec.ofNat 64 nd.length]++[BitVec.ofNat 64 nd.length]:=by rw[pG];simp[EZ,qM]
  rw[<-e2]at e1
  have h:=Hs.more (jz:=cl++[nd.length]) i.hs O h2.add (.inl ⟨az,Pe h2⟩) e1.1 e1.2.1 e1.2.2
  rw[gj]at h
  rw[k3]
  show Hs _ _ _ ((cl++[cl.length])::cl::zX)
  rw[<-h3];exact h
 .have e2:bD (nd++[qM nd.length])=bD nd++[BitVec.ofNat 64 nd.length]++[BitVec.ofNat 64 1]++[BitVec.ofNat 64 nd.length]++[BitVec.ofNat 64 nd.length]:=by rw[pG];simp[EZ,qM]
  rw[k3,e2];exact al8 i.ok
 .intro x hx
  rw[<-Gq ul.length lK,k4]at hx
  rcases eP.1 hx with q|q
  .exact(i.un x q).mono fun e he=>bt _ he
  exact(k5 x q).mono fun e he=>dx _ he
 .have:=aK List.length k3;simp[N6]at this;omega
 simp;omega
end
section
variable{w0 w:World}{L:List a8}{F m:Nat}{cs:List (List Nat)}{vW vU vT:Value}{cW cU:Option (Nat×Array Value)}{W:List (BitVec 64)}{ul:List (Value×jo)}{ts:List Int}{cn:Int}{nA nB nC nD nE nF nG nH nI nJ nK nL:Value}
theorem anI(i j:Int)(h:vF FX F m cs vW vU cW cU W ul ts cn L)(hm:m<=100000){R:List a8}(hH:Hp w0 w (.blk F (.cells #[nA,nB,nC,nD,nE,nF,nG,nH,vW,vU,vT,I (cn),nI,nJ,nK,nL] 111 (0,0))::cE cW vW 35 ((W).map U)::cE cU vU 1 ((ul).map Prod.fst):: .row vT 3 1 (ts).length ((ts).map I)::(R++L))):Calls Tryz.prog 156 #[.pointer (some ⟨F,8,none⟩),I i,I j] w (iA fun u w'=>u=B (iT cs i j).2/\∃(IJ IK S7:Value) (Nu Nv:Option (Nat×Array Value)) (W':List (BitVec 64)) (wK:List (Value×jo)) (ts':List Int) (Nw:Int) (Lb:List a8),vF FX F (m+(if(iT cs i j).2 then 1 else 0)) ((iT cs i j).1) IJ IK Nu Nv W' wK ts' Nw (Lb++L)/\Hp w0 w' (.blk F (.cells #[nA,nB,nC,nD,nE,nF,nG,nH,IJ,IK,S7,I (Nw),nI,nJ,nK,nL] 111 (0,0))::cE Nu IJ 35 ((W').map U)::cE Nv IK 1 ((wK).map Prod.fst):: .row S7 3 1 (ts').length ((ts').map I)::(Lb++(R++L)))):=by
 obtain⟨tn,rfl,k⟩:=h.fo
 have VM:=h.cn
 subst VM
 obtain⟨nd,cl,zX,rfl,rfl,h2,h3,h4,h5,h6⟩:=k.now
 have l1:=k.lu;have l2:=k.lt
 refine(A2 w0 F vW vU vT _ cW cU nd ul (I1 tn) (R++L) cl i j J J (by rw[wC];omega) aeA h2 w k.hW k.hU hH).mono fun e w' hr=>iA.mono ?_ hr
 rintro u w' (⟨rfl,no,hh⟩|⟨rfl,a,b,p,v1,c1,u1,c2,t1,lK,Jh,k1,k2,la,k4,k6,k5,hh⟩)
 .rw[Mb (cs:=cl::zX) (by show¬HE cl.length cl i j;rw[<-h3];exact no)]
  exact⟨rfl,vW,vU,vT,cW,cU,bD nd,ul,I1 tn,_,[],h,hh⟩
 rw[HG (cs:=cl::zX) (by have:=p.ok;show HE cl.length cl i j;rw[<-h3];exact this)]
 obtain⟨f1,f2⟩:=awU h2 p
 have e5:((leads (bk (cl::zX)):Nat):Int)-1=((leads (bk (ig cl (cg cl i.toNat) (cg cl j.toNat)::cl::zX)):Nat):Int):=by
  have e1:leads (bk (cl::zX))=leads cl:=rfl
  have e2:leads (bk (ig cl (cg cl i.toNat) (cg cl j.toNat)::cl::zX))=leads (ig cl (cg cl i.toNat) (cg cl j.toNat)):=rfl
  omega
 have e7:(I1 tn++[(ul.length:Int)])=I1 (ul.length::tn):=(FD ..).symm
 rw[e5,e7]at hh
 refine⟨rfl,v1,u1,t1,c1,c2,bD (oP nd a b),lK,I1 (ul.length::tn),_,Jh,⟨⟨ul.length::tn,rfl,k1,k2,?_,la.ok k.ok,?_,?_,?_⟩,rfl⟩,hh⟩
 .have h:=Hs.more (jz:=ig cl (cg cl i.toNat) (cg cl j.toNat)) k.hs O f1 (.inr ⟨HF,f2⟩) la.back.1 la.back.2 la.le
  rw[gj]at h;exact h
 .intro x hx
  rw[<-Gq ul.length lK,k4]at hx
  rcases eP.1 hx with q|q
  .exact(k.un x q).mono fun e he=>bt _ he
  exact(k5 x q).mono fun e he=>dx _ he
 .show lK.length<=5*(m+1);omega
 show(ul.length::tn).length<=m+1;simp;omega
end
section
variable{w0 w:World}{L:List a8}{F m:Nat}{cs:List (List Nat)}{vW vU vT:Value}{cW cU:Option (Nat×Array Value)}{W:List (BitVec 64)}{ul:List (Value×jo)}{ts:List Int}{cn:Int}{nA nB nC nD nE nF nG nH nI nJ nK nL:Value}
theorem ajC(i:Int)(h:vF FX F m cs vW vU cW cU W ul ts cn L)(hm:m<=100000){R:List a8}(hH:Hp w0 w (.blk F (.cells #[nA,nB,nC,nD,nE,nF,nG,nH,vW,vU,vT,I (cn),nI,nJ,nK,nL] 111 (0,0))::cE cW vW 35 ((W).map U)::cE cU vU 1 ((ul).map Prod.fst):: .row vT 3 1 (ts).length ((ts).map I)::(R++L))):Calls Tryz.prog 49 #[.pointer (some ⟨F,8,none⟩),I i] w (iA fun u w'=>u=B (Ac cs i).2/\∃(IJ IK S7:Value) (Nu Nv:Option (Nat×Array Value)) (W':List (BitVec 64)) (wK:List (Value×jo)) (ts':List Int) (Nw:Int) (Lb:List a8),vF FX F (m) ((Ac cs i).1) IJ IK Nu Nv W' wK ts' Nw (Lb++L)/\Hp w0 w' (.blk F (.cells #[nA,nB,nC,nD,nE,nF,nG,nH,IJ,IK,S7,I (Nw),nI,nJ,nK,nL] 111 (0,0))::cE Nu IJ 35 ((W').map U)::cE Nv IK 1 ((wK).map Prod.fst):: .row S7 3 1 (ts').length ((ts').map I)::(Lb++(R++L)))):=by
 obtain⟨tn,rfl,k⟩:=h.fo
 have VM:=h.cn
 subst VM
 obtain⟨nd,cl,zX,rfl,rfl,h2,h3,h4,h5,h6⟩:=k.now
 have l1:=k.lu;have l2:=k.lt
 rw[wC]at hH
 refine(Cq w0 F vW vU vT _ cW cU (bD nd) ul tn (cl::zX) (R++L) i J J k.hs k.ok (fun x hx=>(k.un x hx).mono fun e he=>bt _ he) O w k.hW k.hU hH).mono fun e w' hr=>iA.mono ?_ hr
 rintro u w' (⟨rfl,no,hh⟩|⟨rfl,yes,v1,c1,u1,c2,t1,W1,lK,Iz,ED,hb,htn,k1,k2,hh⟩)
 .rw[show Ac (cl::zX) i=(cl::zX,false)from aQ J]
  rw[<-wC]at hh
  exact⟨rfl,vW,vU,vT,cW,cU,bD nd,ul,I1 tn,_,[],h,hh⟩
 rw[show Ac (cl::zX) i=((cl::zX).drop ((cl::zX).length-1-(max 0 i).toNat),true)from aP J]
 have e1:ED=(cl::zX).drop ((cl::zX).length-1-(max 0 i).toNat):=by rw[hb.cs];congr 1;omega
 rw[<-e1]
 have q1:=hb.le;have q2:=hb.tn
 rw[<-wC]at hh
 exact⟨rfl,v1,u1,t1,c1,c2,W1,lK,I1 Iz,_,[],⟨⟨Iz,rfl,k1,k2,hb.hs,hb.ok,fun x hx=>k.un x (hb.sub x hx),J,J⟩,rfl⟩,hh⟩
end
end
section
open Go Go.RowKit Go.Proofs.YtlhjdflgjbkpmaaGreatDoor.E Go.Proofs.YtlhjdflgjbkpmaaGreatDoor.M
set_option maxRecDepth 100000
open Go.Proofs.Tryz
theorem Sw(a:Int):Tryz.prog.built 233 [(0,I a)]=some (FG ⟨a,0⟩).toArray:=rfl
theorem ady{a b c d e:Value}(h1:a.cells=#[a])(h2:b.cells=#[b])(h3:c.cells=#[c])(h4:d.cells=#[d])(h5:e.cells=#[e]):Tryz.prog.built 222 [(0,a),(1,b),(2,c),(3,d),(7,e)]=some #[a,b,c,d,.slice none 0 0,.slice none 0 0,I 0,e]:=
 (show Tryz.prog.built 222 [(0,a),(1,b),(2,c),(3,d),(7,e)]=Instr.fill (#[(0,1),(1,1),(2,1),(3,1),(4,1),(5,1),(6,1),(7,1)][·]?) #[.slice none 0 0,.slice none 0 0,.slice none 0 0,.slice none 0 0,.slice none 0 0,.slice none 0 0,I 0,.slice none 0 0] [(0,a),(1,b),(2,c),(3,d),(7,e)]from O).trans (by simp only[Instr.fill,h1,h2,h3,h4,h5];rfl)
abbrev nE(n:Nat)(wr:Value)(vL:Value)(vt:Value)(vv:Value)(vy:Value)(vu:Value)(vq:Value)(sn:Int)(vW:Value)(vU:Value)(vT:Value)(cn:Int)(sk:Bool)(wy:BitVec 64)(vd:Value)(vm:Value)(cW:Option (Nat×Array Value))(cU:Option (Nat×Array Value))(W:List (BitVec 64))(ul:List (Value×jo))(ts:List Int)(an:List oJ)(aT:List Int)(ai:List El)(aX:List (BitVec 64))(us:List iW)(qs:List de)(lg:List (Value×jj))(tm:List Int)(L:List a8):List a8:= .blk n (.cells #[wr,vL,vt,vv,vy,vu,vq,I sn,vW,vU,vT,I cn,B sk,U wy,vd,vm] 111 (0,0))::cE cW vW 35 (W.map U)::cE cU vU 1 (ul.map Prod.fst)::jq I vT 3 ts::uV We 13 vL 119 an::jq I vt 3 aT::uV sU 8 vv 37 ai::jq U vy 35 aX::jq iW.v vu 99 us::uV oT 13 vq 128 qs::jq Prod.fst vd 1 lg::jq I vm 3 tm::L
abbrev wE(b:Nat)(ql qi:Value)(cq:Option (Nat×Array Value))(wl:List Int)(wi:List Bool)(L:List a8):List a8:= .blk b (.cells #[ql,qi] 156 (0,0))::qE cq ql 3 (wl.map I)::jq B qi 4 wi::L
abbrev NX:NTy:=⟨54,48,58,193,157,88,45,31,3,37,35,128⟩
theorem Ou(b k c:Nat):Tryz.prog.built 156 [(1,.slice (some ⟨b,0,none⟩) k c)]=some #[.slice none 0 0,.slice (some ⟨b,0,none⟩) k c]:=rfl
abbrev NZ(n:Nat)(F:NF)(s:NP)(lg:List (Value×jj))(tm:List Int)(L:List a8):List a8:=(nE n (s.wr) (F.vL) (F.vt) (F.vv) (F.vy) (F.vu) (F.vq) (s.sn) (F.vW) (F.vU) (F.vT) (F.cn) (s.sk) (s.wy) (F.vd) (F.vm) (F.cW) (F.cU) (F.W) (F.ul) (F.ts) (s.an) (s.aT) (s.ai) (s.aX) (F.us) (s.qs) lg tm L)
structure ay7(n m:Nat)(F:NF)(s:NP)(L:List a8):Prop where
 fo:vF FX n m s.cs F.vW F.vU F.cW F.cU F.W F.ul F.ts F.cn L
 us:mO F.us=s.us
def qU(n m:Nat)(s:NP)(lg:List (Value×jj))(tm:List Int)(R L0 Z:List a8):Prop:=∃F L,ay7 n m F s L/\(∀b o,a8.blk b o∈L0->a8.blk b o∈L)/\Z=NZ n F s lg tm (F.us.map (dr 3)++(R++L))
def Nx(W0:World)(n m:Nat)(R L0:List a8)(x:Value×jj)(s:NP):Prop:=∀lg tm Z w,qU n m s lg tm R L0 Z->Hp W0 w Z->zk Tryz.prog x.1 [] w (iA fun u w'=>u= .tuple #[]/\∃Z',qU n m (sL x.2 s) lg tm R L0 Z'/\Hp W0 w' Z')
theorem adz{x:Value}(h:x.cells=#[x]):Tryz.prog.built 111 [(0,x)]=some #[x,.slice none 0 0,.slice none 0 0,.slice none 0 0,.slice none 0 0,.slice none 0 0,.slice none 0 0,I 0,.slice none 0 0,.slice none 0 0,.slice none 0 0,I 0,B false,U 0,.slice none 0 0,.slice none 0 0]:=
 (show Tryz.prog.built 111 [(0,x)]=Instr.fill (#[(0,1),(1,1),(2,1),(3,1),(4,1),(5,1),(6,1),(7,1),(8,4),(12,1),(13,1),(14,1),(15,1)][·]?) #[.nilFunc,.slice none 0 0,.slice none 0 0,.slice none 0 0,.slice none 0 0,.slice none 0 0,.slice none 0 0,I 0,.slice none 0 0,.slice none 0 0,.slice none 0 0,I 0,B false,U 0,.slice none 0 0,.slice none 0 0] [(0,x)]from O).trans (by simp only[Instr.fill,h];rfl)
theorem xD(p:kX)(e l j:Value)(d:Wr)(low:El):Tryz.prog.built 119 [(0,.agg (rD p)),(1,.agg #[e,l,j]),(2,.agg (jg low))]=some (We ⟨p,e,l,j,d,low⟩).toArray:=by
 rw[hG];kernel_rfl
def WrF(x:Value)(ids:List Nat):Prop:=x= .nilFunc\/∃(m:Nat) (f:FuncId) (r:Value),x= .func (.func f) #[r] #[]/\m∈ids/\(∀args w,(callFunc f args).run Tryz.prog w= .ok (.enter f args) w)/\∀(K:Vu) (d:Wr) (e l j:Value) (w:World),Le K (Kw w)->AA TX K d e l j->Calls Tryz.prog f #[r,.agg #[e,l,j]] w (Lt K (fun K' u=>∃f1 f2 f3 a1 a2 a3,u= .agg #[jF f1 a1,jF f2 a2,jF f3 a3]/\AA TX K' (.wrap m d) (jF f1 a1) (jF f2 a2) (jF f3 a3)) w)
theorem WrF.fn{x:Value}{ids:List Nat}(h:WrF x ids):x= .nilFunc\/∃f b c,x= .func f b c:=by
 rcases h with h|⟨m,f,r,h,_⟩
 .exact .inl h
 exact .inr ⟨_,_,_,h⟩
theorem WrF.yes{x:Value}{ids:List Nat}(h:WrF x ids)(hx:ahQ x=true):∃(m:Nat) (f:FuncId) (r:Value),x= .func (.func f) #[r] #[]/\m∈ids/\(∀args w,(callFunc f args).run Tryz.prog w= .ok (.enter f args) w)/\∀(K:Vu) (d:Wr) (e l j:Value) (w:World),Le K (Kw w)->AA TX K d e l j->Calls Tryz.prog f #[r,.agg #[e,l,j]] w (Lt K (fun K' u=>∃f1 f2 f3 a1 a2 a3,u= .agg #[jF f1 a1,jF f2 a2,jF f3 a3]/\AA TX K' (.wrap m d) (jF f1 a1) (jF f2 a2) (jF f3 a3)) w):=by
 rcases h with rfl|h
 .cases hx
 exact h
def WrD(x:Value)(d:Wr):Prop:=(ahQ x=false->d.dep=0)/\d.dep<=1
theorem zT{v u:Value}(k:Int)(l:List dK)(t:ix)(y:BitVec 64)(m:List Int)(h:v.cells=#[v])(h2:u.cells=#[u]):Tryz.prog.built 128 [(0,I k),(1,v),(2,.agg (jd t).toArray),(3,U y),(4,u)]=some (oT ⟨k,v,l,t,y,u,m⟩).toArray:=
 (show Tryz.prog.built 128 [(0,I k),(1,v),(2,.agg (jd t).toArray),(3,U y),(4,u)]=Instr.fill (#[(0,1),(1,1),(2,9),(11,1),(12,1)][·]?) #[I 0,.slice none 0 0,I 0,U 0,U 0,U 0,U 0,U 0,U 0,U 0,U 0,U 0,.slice none 0 0] [(0,I k),(1,v),(2,.agg (jd t).toArray),(3,U y),(4,u)]from O).trans (by simp only[Instr.fill,h,h2];kernel_rfl)
def AdV(K:Vu):jj->Prop
 | .add _ q=>zv K q/\q.vars.length<=1000
 |_=>True
theorem AdV.mono{K K':Vu}{c:jj}(h:AdV K c)(hl:Le K K'):AdV K' c:=by cases c<;>first|trivial|exact⟨h.1.mono hl,h.2⟩
theorem AdV.na{K:Vu}{c:jj}(h:amB c):AdV K c:=by cases c<;>first|trivial|exact h.elim
def gQ(fr:List a8)(W0:World)(n:Nat)(s:NP)(lg:List (Value×jj))(tm:List Int)(ids:List Nat)(f:Ct)(tl:List (Nat×Rl))(b c:Nat)(Z:List a8):Prop:=∃m L0 Zf,(m<=c+200*b/\lg.length<=c+4300000000*b/\tm.length<=c+b/\EC (20000000*b) f)/\kA (AH fr) ids f tl Zf/\UQ TX (Kz (Kw W0) L0) ids tl s.an/\Yp (Kz (Kw W0) L0) s.qs/\(∀x∈lg,ku NX n L0 x/\AdV (Kz (Kw W0) L0) x.2)/\qU n m s lg tm Zf L0 Z
theorem J0{α:Type}{l m:List α}(h:∀f:List α->Nat,(∀a b,f (a++b)=f a+f b)->f l=f m):l.Perm m:=by
 haveI:DecidableEq α:=fun a b=>Classical.propDecidable (a=b)
 rw[List.perm_iff_count]
 exact fun a=>h (List.count a) fun x y=>WN
theorem ES{n:Nat}{F:NF}{s:NP}{lg:List (Value×jj)}{tm:List Int}(X:List a8):NZ n F s lg tm X=NZ n F s lg tm []++X:=rfl
theorem gQ.anJ{fr A R Z:List a8}{W0 w:World}{n:Nat}{s:NP}{lg:List (Value×jj)}{tm:List Int}{ids:List Nat}{f:Ct}{tl:List (Nat×Rl)}{b c:Nat}(h:gQ fr W0 n s lg tm ids f tl b c Z)(hH:Hp W0 w (A++(Z++R))):∃Z2,gQ (A++(R++fr)) W0 n s lg tm ids f tl b c Z2/\Hp W0 w Z2:=by
 obtain⟨m,L0,Zf,hb,⟨Zt,ht,rfl⟩,h1,h2,h3,F,L,hI,hL,rfl⟩:=h
 refine⟨_,⟨m,L0,_,hb,⟨Zt,ht,rfl⟩,h1,h2,h3,F,L,hI,hL,rfl⟩,hH.perm (J0 fun g hg=> ?_)⟩
 rw[ES,ES (X:=F.us.map (dr 3)++((_++(A++(R++fr))++Zt)++L)),show ids.map (fun m=>rL (AH (A++(R++fr))) m (f m))=ids.map fun m=>rL (AH fr) m (f m)from O]
 simp only[hg]
 omega
theorem gQ.out{fr A R Z:List a8}{W0 w:World}{n:Nat}{s:NP}{lg:List (Value×jj)}{tm:List Int}{ids:List Nat}{f:Ct}{tl:List (Nat×Rl)}{b c:Nat}(h:gQ (A++(R++fr)) W0 n s lg tm ids f tl b c Z)(hH:Hp W0 w Z):∃Z2,gQ fr W0 n s lg tm ids f tl b c Z2/\Hp W0 w (A++(Z2++R)):=by
 obtain⟨m,L0,Zf,hb,⟨Zt,ht,rfl⟩,h1,h2,h3,F,L,hI,hL,rfl⟩:=h
 refine⟨_,⟨m,L0,_,hb,⟨Zt,ht,rfl⟩,h1,h2,h3,F,L,hI,hL,rfl⟩,hH.perm (J0 fun g hg=> ?_)⟩
 rw[ES,ES (X:=F.us.map (dr 3)++((_++fr++Zt)++L)),show ids.map (fun m=>rL (AH (A++(R++fr))) m (f m))=ids.map fun m=>rL (AH fr) m (f m)from O]
 simp only[hg]
 omega
theorem gQ.ay9{fr A X Z:List a8}{W0 w:World}{n:Nat}{s:NP}{lg:List (Value×jj)}{tm:List Int}{ids:List Nat}{f:Ct}{tl:List (Nat×Rl)}{b c:Nat}(h:gQ fr W0 n s lg tm ids f tl b c Z)(hH:Hp W0 w (A++(Z++X))):∃m L0 Zf Z2,(m<=c+200*b/\lg.length<=c+4300000000*b/\tm.length<=c+b/\EC (20000000*b) f)/\kA (AH (A++([]++fr))) ids f tl Zf/\UQ TX (Kz (Kw W0) L0) ids tl s.an/\Yp (Kz (Kw W0) L0) s.qs/\(∀x∈lg,ku NX n L0 x/\AdV (Kz (Kw W0) L0) x.2)/\qU n m s lg tm Zf L0 Z2/\Hp W0 w Z2/\∀b o,a8.blk b o∈X->a8.blk b o∈L0:=by
 obtain⟨m,L0,Zf,hb,⟨Zt,ht,rfl⟩,h1,h2,h3,F,L,hI,hL,rfl⟩:=h
 have hm:∀b o,a8.blk b o∈L0->a8.blk b o∈X++L0:=fun b o hb=>bt _ hb
 refine⟨m,X++L0,_,_,hb,⟨Zt,ht,rfl⟩,h1.mono (Le.zb hm),h2.mono (Le.zb hm),fun x hx=>⟨(h3 x hx).1.Dy hm,(h3 x hx).2.mono (Le.zb hm)⟩,⟨F,X++L,⟨hI.fo.mono fun e he=>bt _ he,hI.us⟩,fun b o hb=> ?_,rfl⟩,hH.perm (J0 fun g hg=> ?_),fun b o hb=>dx _ hb⟩
 .rcases eP.1 hb with q|q
  .exact dx _ q
  exact bt _ (hL b o q)
 rw[ES,ES (X:=F.us.map (dr 3)++((_++(A++([]++fr))++Zt)++(X++L))),show ids.map (fun m=>rL (AH (A++([]++fr))) m (f m))=ids.map fun m=>rL (AH fr) m (f m)from O]
 simp only[hg,er]
 omega
theorem WrF.cells{x:Value}{ids:List Nat}(h:WrF x ids):x.cells=#[x]:=by
 rcases h with rfl|⟨m,f,cs,rfl,_⟩<;>rfl
theorem WrF.one{x:Value}{ids:List Nat}(h:WrF x ids):x.oneCell'=true:=by
 rcases h with rfl|⟨m,f,cs,rfl,_⟩<;>rfl
theorem gQ.new{fr A Zn Zf:List a8}{W0 w:World}{n:Nat}{x:Value}{ids:List Nat}{f:Ct}(hn:qU n 0 (NP.mk [] [] [] [] [] [] 0 [[]] false 0 x) [] [] [] [] Zn)(hz:kA (AH fr) ids f [] Zf)(hf:EC 0 f)(hH:Hp W0 w (Zn++(A++Zf))):∃Z,gQ fr W0 n (npL [] x) [] [] ids f [] 0 0 Z/\Hp W0 w (A++(Z++[])):=by
 obtain⟨F,L,hI,hL,rfl⟩:=hn
 refine⟨_,⟨0,[],Zf,⟨J,az,az,hf⟩,hz,(fun x hx=>by cases hx),(fun x hx=>by cases hx),(fun x hx=>by cases hx),F,L,hI,(fun b o h=>ow),rfl⟩,hH.perm (J0 fun g hg=> ?_)⟩
 have e:∀X,NZ n F (npL [] x) [] [] X=NZ n F (NP.mk [] [] [] [] [] [] 0 [[]] false 0 x) [] [] []++X:=fun X=>rfl
 rw[ES,e]
 simp only[hg]
 omega
theorem gQ.more{fr Z:List a8}{W0:World}{n:Nat}{s:NP}{lg:List (Value×jj)}{tm:List Int}{ids:List Nat}{f:Ct}{tl:List (Nat×Rl)}{b c b' c':Nat}(h:gQ fr W0 n s lg tm ids f tl b c Z)(hb:b<=b')(hc:c<=c'):gQ fr W0 n s lg tm ids f tl b' c' Z:=by
 obtain⟨m,L0,Zf,⟨h1,h2,h3,h4⟩,h5⟩:=h
 exact⟨m,L0,Zf,⟨J,J,J,h4.mono J⟩,h5⟩
theorem Zl(k:Int)(e:El):Tryz.prog.built 90 [(0,I k),(2,.agg (jg e))]=some (kg ⟨k,0,e⟩).toArray:=by
 rw[hG];kernel_rfl
theorem Ny(k v:Int):Tryz.prog.built 90 [(0,I k),(1,I v)]=some (kg ⟨k,v,dy⟩).toArray:=aM
theorem Cr(v:Int):Tryz.prog.built 39 [(0,I v)]=some (jd ⟨v,dy⟩).toArray:=aM
variable{fr:List a8}
variable{W0 w:World}{n m:Nat}{cs:List (List Nat)}{wr:Value}{vL:Value}{vt:Value}{vv:Value}{vy:Value}{vu:Value}{vq:Value}{sn:Int}{vW:Value}{vU:Value}{vT:Value}{cn:Int}{sk:Bool}{wy:BitVec 64}{vd:Value}{vm:Value}{cW:Option (Nat×Array Value)}{cU:Option (Nat×Array Value)}{W:List (BitVec 64)}{ul:List (Value×jo)}{ts:List Int}{an:List oJ}{aT:List Int}{ai:List El}{aX:List (BitVec 64)}{us:List iW}{qs:List de}{lg:List (Value×jj)}{tm:List Int}{L:List a8}
theorem wL(W0:World)(b:Nat)(vg vo vl vn vs vf vq:Value)(cs:Option (Nat×Array Value))(od lo:List Int)(on:List Bool)(sk:List Int)(fr:List C6)(tm:Int)(kH:List Int)(L:List a8)(i:Int)(hl1:lo.length=od.length)(hl2:on.length=od.length)(hl3:kH.length=od.length)(hi:0<=i/\i<od.length)(ht:0<=tm/\tm<=1000000)(hsl:sk.length<=1000000)(hfl:fr.length<=1000000)(w:World)(hks:cO cs vs (sk.map I))(hH:Hp W0 w (.blk b (.cells #[vg,vo,vl,vn,vs,vf,I (tm),vq] 222 (0,0))::jq I vo 3 (od)::jq I vl 3 (lo)::jq B vn 4 (on)::cE cs vs 3 ((sk).map I)::uV FG 2 vf 233 (fr)::jq I vq 3 (kH)::L)):Calls Tryz.prog 187 #[.pointer (some ⟨b,0,none⟩),I i] w (iA fun u w'=>u= .tuple #[]/\∃vs' vf':Value,Hp W0 w' (.blk b (.cells #[vg,vo,vl,vn,vs',vf',I (tm+1),vq] 222 (0,0))::jq I vo 3 (od.set i.toNat (tm+1))::jq I vl 3 (lo.set i.toNat (tm+1))::jq B vn 4 (on.set i.toNat true)::cE none vs' 3 ((sk++[i]).map I)::uV FG 2 vf' 233 (fr++[⟨i,0⟩])::jq I vq 3 (kH)::L)):=by
 refine en func187 rfl rfl<|SR<|aE (v:=Pn _ _) rfl<|V (af O)<|V (fA fx 6 O bz O)<|lI bx hH 0 O O rfl<|V (ay O O J)<|V (af O)<|V (fA fx 6 O bz O)<|bu hH (i:=0) O (bL O O (v:=I _) O O O (hH.blk (i:=0) O) az)<|fun w1 aW=> ?_
 simp only[fO,gU,iZ,fg,Nat.reduceAdd]at aW
 refine aa<|ah<|ez (z:=⟨none,_,_,_,_,none⟩) aM O aM aW (sP (sQ (sQ sR)))<|fun w3 gE=>have DN:=gE.sub (sP (sQ (sQ sR)));AQ 0 O DN (mV (Pn _ _) O)<|AQ 1 O DN (af O)<|AQ 2 O DN (fA fx 1 O cP O)<|tV 3 O DN bg 0 O O rfl<|AQ 4 O DN (mV (I _) O)<|AQ 5 O DN (mV (Pn _ _) O)<|AQ 6 O DN (af O)<|AQ 7 O DN (fA fx 2 O cP O)<|tV 8 O DN bg 0 O O rfl<|AQ 9 O DN (mV (I _) O)<|AQ 10 O DN (mV (Pn _ _) O)<|AQ 11 O DN (af O)<|AQ 12 O DN (fA fx 3 O Gz O)<|tV 13 O DN qa 0 O O rfl<|AQ 14 O DN (mV (I _) O)<|AQ 15 O DN (mV (Pn _ _) O)<|AQ 16 O DN (af O)<|AQ 17 O DN (fA fx 6 O bz O)<|tI 18 O DN bx 0 O O rfl<|AQ 19 O DN (mV (Pn _ _) O)<|AQ 20 O DN (af O)<|AQ 21 O DN (fA fx 6 O bz O)<|tI 22 O DN bx 0 O O rfl<|A1 23<|cf O aH O gE (sP (sQ (sQ sR))) (ag (gE.sl (i:=1) O) bg bz O O J)<|A1 24<|Yl O aH gE (i:=1) O (fun _=>(sP (sQ (sQ sR)))) J O O O O rfl<|fun w9 bW=>A1 25<|cf O aH O bW (sP (sQ (sQ sR))) (ag (bW.sl (i:=2) O) bg bz O O J)<|A1 26<|Yl O aH bW (i:=2) O (fun _=>(sP (sQ (sQ sR)))) J O O O O rfl<|fun Wg cG=>AT 27 O (cG.sub (sP (sQ (sQ sR)))) (fun w hS=>ag (hS.sl (i:=1) O) qa mG O O J)<|AD<|px (a:=true) cG (i:=3) O J O O O O rfl<|fun Sa dS=>aa<|SR<|aE (v:=Pn _ _) rfl<|aE (v:=Pn _ _) rfl<|V (af O)<|V (fA fx 4 O cP O)<|lV bg dS 0 O O rfl<|mI rfl<|yd 1 1 dS (ct bg O O (sz:=1) (vs:=[I _]) O O aD aD O O)<|fun b21 Vo cL=> ?_
 (try simp only[oX]at cL)
 refine ar1 O cL (i:=5) O hks (cL.dQ (i:=0) (n:=1) (sz:=1) O O aD) O O bg O O (bytes:=8) O O O O J aD<|fun v22 w23 oF=>V (af O)<|V (fA fx 4 O cP O)<|bu oF (i:=1) O (bL O O (v:=v22) O (gN (oF.Az (i:=5) O trivial)).2 (gN (oF.Az (i:=5) O trivial)).1 (oF.blk (i:=1) O) az)<|fun w25 kB=> ?_
 simp only[fO,gU,iZ,fg,Nat.reduceAdd]at kB
 refine aa<|ax<|aE (v:=Pn _ _) rfl<|aE (v:=Pn _ _) rfl<|V (af O)<|V (fA fx 5 O pg O)<|lV mi kB 1 O O rfl<|mI rfl<|V (dO (vs:=[(0,I _)]) O (Sw _))<|yd 1 1 kB (nh my mi O O O (l:=[_]) O aD aD O)<|fun b29 w27 jL=>ar0 my aD O jL (i:=7) O (Hp.oy my jL (i:=0) (l:=[_]) O kQ) O O mi O O (bytes:=16) O O O ahs J aD<|fun v30 w31 iV=>V (af O)<|V (fA fx 5 O pg O)<|bu iV (i:=2) O (bL O O (v:=v30) O (aS (iV.get (i:=7) O)).1 (aS (iV.get (i:=7) O)).2 (iV.blk (i:=2) O) az)<|fun w33 mS=> ?_
 simp only[fO,gU,iZ,fg,Nat.reduceAdd]at mS
 refine aa<|nW O ⟨rfl,v22,v30,(mS.sub (sQ (sQ sR)))⟩
theorem Ge(W0:World)(b:Nat)(vg vo vl vn vs vf vq:Value)(cs:Option (Nat×Array Value))(od lo:List Int)(on:List Bool)(s1 s2:List Int)(a:Int)(fr:List C6)(tm:Int)(kH:List Int)(L:List a8)(hl1:lo.length=od.length)(hl2:on.length=od.length)(hl3:kH.length=od.length)(hsl:s1.length+s2.length<=1000000)(hna:a∉s2)(hin:∀x∈((a:Int)::s2),0<=x/\x<od.length)(w:World)(hks:cO cs vs ((s1++((a:Int)::s2)).map I))(hH:Hp W0 w (.blk b (.cells #[vg,vo,vl,vn,vs,vf,I (tm),vq] 222 (0,0))::jq I vo 3 (od)::jq I vl 3 (lo)::jq B vn 4 (on)::cE cs vs 3 (((s1++((a:Int)::s2))).map I)::uV FG 2 vf 233 (fr)::jq I vq 3 (kH)::L)):Calls Tryz.prog 188 #[.pointer (some ⟨b,0,none⟩),I a] w (iA fun u w'=>u= .tuple #[]/\∃cs':Option (Nat×Array Value),cO cs' (sD vs s1.length) (s1.map I)/\Hp W0 w' (.blk b (.cells #[vg,vo,vl,vn,(sD vs s1.length),vf,I (tm),vq] 222 (0,0))::jq I vo 3 (od)::jq I vl 3 (lo)::jq B vn 4 (fY on ((a:Int)::s2) false)::cE cs' (sD vs s1.length) 3 ((s1).map I)::uV FG 2 vf 233 (fr)::jq I vq 3 (fY kH ((a:Int)::s2) (BM a ((a:Int)::s2)))::L)):=by
 have aQI:((a:Int)::s2).length=s2.length+1:=rfl
 refine en func188 rfl rfl<|SR<|aE (v:=Pn _ _) rfl<|V (af O)<|V (fA fx 4 O cP O)<|lV bg hH 0 O O rfl<|V (aA (hH.Az (i:=4) O hks) O bg O)<|V (fG O O iF)<|aI rfl<|aa<|ah<|aC<|bj (G:=Int) (fun k s' w'=>(Fr (4::(rg 17 11 [])) _ s')/\(Hp W0 w' _)/\(s' 4=I k)/\((s1.length:Int)<=k)/\(k<=s1.length+s2.length)) (fun k=>(k-s1.length).toNat) (((s1++((a:Int)::s2)).length:Int)-1) ⟨Fr.refl _ _,hH,(aK I az),iF,iF⟩<| ?_
 rintro k sg1 w1 ⟨tR,iL,zw,k0,k1⟩
 obtain⟨lO,zy⟩:=tR.w2 0 1
 refine ah<|SR<|aE lO<|V (af O)<|V (fA fx 4 O cP O)<|lV bg iL 0 O O rfl<|aE zw<|V (ag (iL.Az (i:=4) O hks) bg bz O O iF)<|V (au bx O O ((iL.Az (i:=4) O hks).cell _ _ (dZ iF)))<|aE zy<|V (jB O O)<|aa<|aF O (fun h3=> ?_) (fun h3=> ?_)
 .refine ak<|aC<|ax<|aE zw<|V (fG O O J)<|aI rfl<|aa<| ?_
  refine⟨k-1,?_,tR.u4.u4.u4,iL,(aK I aN),?_,J⟩
  ·(have:=ahi ‹_≠a› k0;omega)
  (have:=ahi ‹_≠a› k0;omega)
 refine a7 (id:=0) rfl<|SR<|aE lO<|V (af O)<|V (fA fx 4 O cP O)<|lV bg iL 0 O O rfl<|aE zw<|have ek:=ar2 hna (Qk.1 ‹¬_≠a›) k0 k1;V (fW (iL.Az (i:=4) O hks) bg bz O O iF)<| ?_
 refine V (run_assign bG) ?_
 refine aa<|SR<|aE zy<|aI rfl<|aa<|ah<|SR<| ?_
 refine V (run_move bG) ?_
 refine V (aA (CT (s1:=s1) (a:=a) (s2:=s2) J (iL.Az (i:=4) O hks)) O bg O)<|aE (v:=I 0) rfl<|aa<|aC<|bj (G:=Int) (fun q s' w'=>(Fr (6::(8::(rg 37 8 []))) _ s')/\(Hp W0 w' _)/\(s' 6=I (BM a (((a:Int)::s2).take q.toNat)))/\(s' 37=I q)/\(0<=q)/\(q<=((a:Int)::s2).length)) (fun q=>(((a:Int)::s2).length-q).toNat) (0) ⟨Fr.refl _ _,iL,rfl,rfl,J,J⟩<| ?_
 rintro q sg4 w4 ⟨B6,gE,EN,ajD,q0,q1⟩
 obtain⟨FR,azb,azc⟩:=B6.w3 5 35 36
 obtain⟨adi,Vk⟩:=B6.t2 0 lO 4 zw
 refine SR<|V (aL ajD azc)<|aa<|ah<|aF O (fun h6=> ?_) (fun h6=> ?_)
 .refine ak<|ah<|aC<|SR<|V (ag (CT (s1:=s1) (a:=a) (s2:=s2) J (gE.Az (i:=4) O hks)) bg bz azb ajD J)<|V (au bx O O ((CT (s1:=s1) (a:=a) (s2:=s2) J (gE.Az (i:=4) O hks)).cell _ _ (dZ J)))<|aI rfl<|aa<|ax<|aE EN<|mI rfl<|V (qk O O)<|aI rfl<|aa<|ax<|V (ay ajD O J)<|mI rfl<|aa<| ?_
  refine⟨q+1,aZ,B6.u4.u4.u1.u1,gE,(aK I (acR q0 J).symm),(aK I aN),J,J⟩
 refine a7 (id:=2) rfl<|ah<|SR<|aE FR<|V (aA (CT (s1:=s1) (a:=a) (s2:=s2) J (gE.Az (i:=4) O hks)) O bg O)<|aE (v:=I 0) rfl<|aa<|aC<|have hq:((a:Int)::s2).take q.toNat=((a:Int)::s2):=iP J;bj (G:=Int×(List Bool)×(List Int)) (fun⟨q2,IL,IM⟩ s' w'=>(Fr (10::(rg 47 18 [])) _ s')/\(Hp W0 w' (_::_::_::jq B vn 4 IL::_::_::jq I vq 3 IM::_))/\(s' 47=I q2)/\(0<=q2)/\(q2<=((a:Int)::s2).length)/\(IL=fY on (((a:Int)::s2).take q2.toNat) false)/\(IM=fY kH (((a:Int)::s2).take q2.toNat) (BM a ((a:Int)::s2)))) (fun⟨q2,IL,IM⟩=>(((a:Int)::s2).length-q2).toNat) ((0,on,kH)) ⟨Fr.refl _ _,gE,rfl,J,J,rfl,rfl⟩<| ?_
 rintro⟨q2,IL,IM⟩ sg7 w7 ⟨E2,eD,ajE,r0,r1,hon,hof⟩
 obtain⟨azd,aze⟩:=E2.w2 45 46
 obtain⟨ET,HP,ai4⟩:=E2.t3 0 adi 4 Vk 6 EN
 have l3:IL.length=od.length:=by rw[hon,iK];exact hl2
 have l4:IM.length=od.length:=by rw[hof,iK];exact hl3
 refine SR<|V (aL ajE aze)<|aa<|ah<|aF O (fun h9=> ?_) (fun h9=> ?_)
 .refine ak<|ah<|aC<|SR<|V (ag (CT (s1:=s1) (a:=a) (s2:=s2) J (eD.Az (i:=4) O hks)) bg bz azd ajE J)<|V (au bx O O ((CT (s1:=s1) (a:=a) (s2:=s2) J (eD.Az (i:=4) O hks)).cell _ _ (dZ J)))<|aI rfl<|aa<|have hix:=hin _ (dc (d:=0) r0 ‹q2<_›);ez (z:=⟨none,_,_,_,_,none⟩) aM O aM eD (sP (sP (sP (sP (sP (sP (sQ sR)))))))<|fun Gk dF=>have jm:=dF.sub (sP (sP (sP (sP (sP (sP (sQ sR)))))));AQ 0 O jm (run_move ET)<|AQ 1 O jm (af O)<|AQ 2 O jm (fA fx 7 O cP O)<|tV 3 O jm bg 0 O O rfl<|AQ 4 O jm (mV (I _) O)<|AQ 5 O jm (run_move ET)<|AQ 6 O jm (af O)<|AQ 7 O jm (fA fx 3 O Gz O)<|tV 8 O jm qa 0 O O rfl<|AQ 9 O jm (mV (I _) O)<|AQ 10 O jm (run_move ai4)<|A1 11<|cf O aH O dF (sP (sP (sP (sP (sP (sP (sQ sR))))))) (ag (dF.sl (i:=6) O) bg bz O O J)<|A1 12<|Yl O aH dF (i:=6) O (fun _=>(sP (sP (sP (sP (sP (sP (sQ sR)))))))) J O O O O rfl<|fun JZ dU=>AT 13 O (dU.sub (sP (sP (sP (sP (sP (sP (sQ sR)))))))) (fun w hS=>ag (hS.sl (i:=3) O) qa mG O O J)<|AD<|px (a:=false) dU (i:=3) O J O O O O rfl<|fun PR jy=>aa<|ax<|V (ay ajE O J)<|mI rfl<|aa<| ?_
  refine⟨(q2+1,_,_),aZ,E2.u4.u4.u4.u4.u1.u1.u1,(Hp.conv jy aN),(aK I aN),J,J,?_,?_⟩
  .rw[BL r0 J,<-hon]
  rw[BL r0 J,<-hof,hq]
 refine a7 (id:=4) rfl<|ax<|aE ET<|aE ET<|V (af O)<|V (fA fx 4 O cP O)<|lV bg eD 0 O O rfl<|aE HP<|aE HP<|V (uR (eD.Az (i:=4) O hks) bg bz O O O iF)<|V (af O)<|V (fA fx 4 O cP O)<|have hs1:=((eD.Az (i:=4) O hks)).sD (n:=k.toNat) iF;?_
 obtain⟨c20,atT,dm⟩:=eD.arG (i:=4) O hks (m:=k.toNat) iF
 simp only[fO,gU,<-wY]at dm atT
 refine bu dm (i:=0) O (bL O O (v:=sD vs k.toNat) O (gN hs1).2 (gN hs1).1 (dm.blk (i:=0) O) az)<|fun w23 oF=> ?_
 simp only[fO,gU,iZ,fg,Nat.reduceAdd]at oF
 refine aa<|have ek:k.toNat=s1.length:=J;?_
 rw[ek,uv]at oF atT
 have eq2:((a:Int)::s2).take q2.toNat=((a:Int)::s2):=iP J
 rw[eq2]at hon hof
 rw[hon,hof]at oF
 exact nW O ⟨rfl,c20,atT,oF⟩
set_option maxHeartbeats 2000000 in
theorem HV(W0:World)(b:Nat)(vg vo vl vn vs vf vq:Value)(cs:Option (Nat×Array Value))(gr:List iW)(od lo:List Int)(on:List Bool)(tm:Int)(kH:List Int)(nx:Nat->Nat)(K:Vu)(L:List a8)(i:Int)(hgn:gr.length<=100000)(hS:qK (mO gr) od lo on tm kH [] nx)(hi:0<=i/\i<od.length)(h0:n4 od i.toNat=0)(w:World)(hK:Le K (Kw W0))(hg:GrV K vg gr)(hks:cO cs vs (([]:List Int).map I))(hH:Hp W0 w (.blk b (.cells #[vg,vo,vl,vn,vs,vf,I (tm),vq] 222 (0,0))::jq I vo 3 (od)::jq I vl 3 (lo)::jq B vn 4 (on)::cE cs vs 3 ([].map I)::uV FG 2 vf 233 []::jq I vq 3 (kH)::L)):Calls Tryz.prog 155 #[.pointer (some ⟨b,0,none⟩),I i] w (iA fun u w'=>u= .tuple #[]/\∃(ME Ov:Value) (ED:Option (Nat×Array Value)) (VP:Nat->Nat) (A3 Zm:List Int) (IL:List Bool) (Ji:Int) (IM:List Int),qK (mO gr) A3 Zm IL Ji IM [] VP/\cO ED ME (([]:List Int).map I)/\(n4 A3 i.toNat≠0/\∀k,n4 od k≠0->n4 A3 k≠0)/\Hp W0 w' (.blk b (.cells #[vg,vo,vl,vn,ME,Ov,I (Ji),vq] 222 (0,0))::jq I vo 3 (A3)::jq I vl 3 (Zm)::jq B vn 4 (IL)::cE ED ME 3 (([]).map I)::uV FG 2 Ov 233 ([])::jq I vq 3 (IM)::L)):=by
 have hr0:=hS.room
 rw[eM]at hr0
 refine en func155 rfl rfl<|Yc<|SR<|aE (v:=Pn _ _) rfl<|mI rfl<|bV O (wL _ _ _ _ _ _ _ _ _ _ _ _ _ _ _ _ _ _ _ (by have:=hS.llo;have:=hS.S0;omega) (by have:=hS.lon;have:=hS.S0;omega) (by have:=hS.lof;have:=hS.S0;omega) hi J (by simp[eZ,NI]) (by simp[oS]) _ hks hH) (aJ call187 O O)<| ?_
 rintro _ w3 ⟨rfl,v5,v6,gE⟩
 have hS1:=hS.first (a:=i.toNat) (by rw[<-hS.S0];omega) h0
 rw[show i=((i.toNat:Nat):Int)by omega,show([]:List Int)++[((i.toNat:Nat):Int)]=NI (eZ [(i.toNat,[])]).reverse from aht (F:=[]),show([]:List C6)++[⟨((i.toNat:Nat):Int),0⟩]=oS [(i.toNat,[])] nx from ahu (F:=[]) (hS.nx0 _ h0)]at gE
 simp only[dN]at gE
 refine aa<|ah<|Yd<|aC<| ?_
 refine bj (G:=SZ×(Nat->Nat)×Value×Value×(Option (Nat×Array Value))×(List Int)×(List Int)×(List Bool)×Int×(List Int)) (fun⟨F,VP,ME,Ov,ED,A3,Zm,IL,Ji,IM⟩ s' w'=>(Fr (rg 4 5 (rg 12 173 [])) _ s')/\(Hp W0 w' (.blk b (.cells #[vg,vo,vl,vn,ME,Ov,I (Ji),vq] 222 (0,0))::jq I vo 3 (A3)::jq I vl 3 (Zm)::jq B vn 4 (IL)::cE ED ME 3 ((NI (eZ F).reverse).map I)::uV FG 2 Ov 233 (oS F VP)::jq I vq 3 (IM)::_))/\(qK (mO gr) A3 Zm IL Ji IM F VP)/\(cO ED ME ((NI (eZ F).reverse).map I))/\(n4 A3 i.toNat≠0/\∀k,n4 od k≠0->n4 A3 k≠0)) (fun⟨F,VP,ME,Ov,ED,A3,Zm,IL,Ji,IM⟩=>2*A3.count 0+F.length) (([(i.toNat,[])],nx,v5,v6,none,od.set i.toNat (tm+1),lo.set i.toNat (tm+1),on.set i.toNat true,tm+1,kH)) ⟨Fr.refl _ _,gE,hS1,trivial,⟨by rw[zo J];unfold ny;rw[aQ O];omega,fun k hk=>by rw[zo J];unfold ny;split<;>omega⟩⟩ ?_
 rintro⟨F,VP,ME,Ov,ED,A3,Zm,IL,Ji,IM⟩ sg7 w7 ⟨E2,eD,hS,Zp,hdn⟩
 have ET:=E2.w1 0
 refine ah<|SR<|aE ET<|V (af O)<|V (fA fx 5 O pg O)<|lV mi eD 0 O O rfl<|V (aA (eD.sl (i:=5) O) O mi O)<|V (dz O O)<|aa<|aF O (fun h9=> ?_) (fun h9=> ?_)
 .refine ak<|aC<|ah<| ?_
  obtain⟨a,sg,F0,rfl⟩:=ar9 (F:=F) (nx:=VP) J
  have han:=hS.Ek
  rw[eM]at han
  have q0:=hS.S0;rw[eM]at q0
  have q1:=hS.llo;rw[eM]at q1
  have q2:=hS.lon;rw[eM]at q2
  have q3:=hS.lof;rw[eM]at q3
  have hrm:=hS.room
  rw[eM]at hrm
  have hst:=aaB hS
  rw[eM]at hst
  have hfs:=amu hS
  simp only[eO]at hfs
  have hlen:((oS ((a,sg)::F0) VP).length:Int)-1=F0.length:=by rw[nV];simp
  have hfa:(oS ((a,sg)::F0) VP).getD (F0.length:Int).toNat I2=⟨a,VP a⟩:=RJ
  refine eF aM eD<|fun Gk dF=>have jm:=dF;AQ 0 O jm (run_move ET)<|AQ 1 O jm (af O)<|AQ 2 O jm (fA fx 5 O pg O)<|tV 3 O jm mi 0 O O rfl<|AQ 4 O jm (run_move ET)<|AQ 5 O jm (af O)<|AQ 6 O jm (fA fx 5 O pg O)<|tV 7 O jm mi 0 O O rfl<|AT 8 O jm (fun w hS=>aA (hS.sl (i:=5) O) O mi O)<|AQ 9 O jm (fG O O J)<|AT 10 O jm (fun w hS=>ag (hS.sl (i:=5) O) mi KA O (aK I hlen) J)<|AQ 11 O jm (aV (Pn _ _) O)<|AD<|SR<|aE (v:=Pn _ _) rfl<|V (af O)<|V (fA D5 0 O bz O)<|V (gp (dv:=I2) (off:=0) my (dF.sl (i:=5) O) bx O O J O)<|V (run_assign (show _=I (a:Int)from aK (fun x:C6=>I x.node) hfa))<|aa<|ah<|aC<|bj (G:=(Nat->Nat)×(List Int)) (fun⟨vB,J1⟩ s' w'=>(Fr (6::(rg 33 83 [])) _ s')/\(Hp W0 w' (_::_::jq I vl 3 J1::_::_::uV FG 2 Ov 233 (oS ((a,sg)::F0) vB)::_))/\(qK (mO gr) A3 J1 IL Ji IM ((a,sg)::F0) vB)) (fun⟨vB,J1⟩=>(gr.getD (a:Int).toNat cD).l.length-vB a) ((VP,Zm)) ⟨Fr.refl _ _,dF,hS⟩<| ?_
  rintro⟨vB,J1⟩ aiU B7 ⟨pB,cK,hS⟩
  obtain⟨Nb,ot⟩:=pB.w2 4 5
  have kY:=pB.t1 0 ET
  have hlen:((oS ((a,sg)::F0) vB).length:Int)-1=F0.length:=by rw[nV];simp
  have hfa:(oS ((a,sg)::F0) vB).getD (F0.length:Int).toNat I2=⟨a,vB a⟩:=RJ
  have q1:=hS.llo;rw[eM]at q1
  have hml:=(hg.row (k:=(a:Int)) J J).small
  unfold maxLen at hml
  refine ah<|ah<|eF aM cK<|fun C7 cF=>have xB:=cF;AQ 0 O xB (run_move Nb)<|AQ 1 O xB (af O)<|AQ 2 O xB (fA D5 1 O bz O)<|AT 3 O xB (fun w hS=>gp (dv:=I2) (off:=1) my (hS.sl (i:=5) O) bx O O J O)<|AQ 4 O xB (run_move kY)<|AQ 5 O xB (af O)<|AQ 6 O xB (fA fx 0 O qc O)<|tV 7 O xB kE 0 O O rfl<|AQ 8 O xB (run_move ot)<|AT 9 O xB (fun w hS=>ag (hg.1.mono (Le.trans hK hS.kw)).sl kE cP O O J)<|AT 10 O xB (fun w hS=>au bg O O ((hg.1.mono (Le.trans hK hS.kw)).sl.cell _ _ (hg.at J)))<|AT 11 O xB (fun w hS=>aA ((hg.row (k:=(a:Int)) J J).mono (Le.trans hK hS.kw)).sl O bg O)<|AQ 12 O xB (aL (show _=I (vB a:Int)from aK (fun x:C6=>I x.next) hfa) O)<|AD<|aF O (fun yj=> ?_) (fun yj=> ?_)
  .refine ak<|aC<|ah<|eF aM cF<|fun Sa dS=>have pX:=dS;AQ 0 O pX (run_move kY)<|AQ 1 O pX (af O)<|AQ 2 O pX (fA fx 0 O qc O)<|tV 3 O pX kE 0 O O rfl<|AQ 4 O pX (run_move ot)<|AT 5 O pX (fun w hS=>ag (hg.1.mono (Le.trans hK hS.kw)).sl kE cP O O J)<|AT 6 O pX (fun w hS=>au bg O O ((hg.1.mono (Le.trans hK hS.kw)).sl.cell _ _ (hg.at J)))<|AQ 7 O pX (run_move Nb)<|AQ 8 O pX (af O)<|AQ 9 O pX (fA D5 1 O bz O)<|AT 10 O pX (fun w hS=>gp (dv:=I2) (off:=1) my (hS.sl (i:=5) O) bx O O J O)<|AT 11 O pX (fun w hS=>ag ((hg.row (k:=(a:Int)) J J).mono (Le.trans hK hS.kw)).sl bg bz O (show _=I (vB a:Int)from aK (fun x:C6=>I x.next) hfa) J)<|AT 12 O pX (fun w hS=>au bx O O (((hg.row (k:=(a:Int)) J J).mono (Le.trans hK hS.kw)).sl.cell _ _ (dZ J)))<|AQ 13 O pX (aV (I _) O)<|AD<|SR<|aE Nb<|V (af O)<|V (fA D5 1 O bz O)<|V (gp (dv:=I2) (off:=1) my (dS.sl (i:=5) O) bx O O J O)<|V (ay (show _=I (vB a:Int)from aK (fun x:C6=>I x.next) hfa) O J)<|V (af O)<|V (fA D5 1 O bz O)<|arY (a:=I2) (u:=I ((vB a:Int)+1)) (b:=⟨((oS ((a,sg)::F0) vB).getD (F0.length:Int).toNat I2).node,(vB a:Int)+1⟩) my dS (i:=5) O GK O O O O O aD rfl<|fun Vo cL=> ?_
   rw[hfa,dN,ahr hS]at cL
   refine aa<|ah<|SR<|mI rfl<|V (aL O O)<|mB rfl<|bN 68 O (fun h22=> ?_) (fun h22=> ?_)
   .refine aE (v:=B true) rfl<|aa<|cB rfl<|a7 (id:=3) rfl<| ?_
    refine⟨(pV vB a,J1),?_,pB.u4.u4.u4.u4.u4.u4.u4.u4.u4.u4.u4.u1,(Hp.conv cL aN),?_⟩
    ·(show(gr.getD (a:Int).toNat cD).l.length-pV vB a a<(gr.getD (a:Int).toNat cD).l.length-vB a;unfold pV;rw[aQ O];omega)
    exact hS.skip fun⟨j,h1,h2⟩=>by rw[zm]at h2;rw[eM]at h1;have e:((gr.getD (a:Int).toNat cD).l.getD (vB a:Int).toNat 0)=j:=h2;omega
   refine mI rfl<|aE kY<|V (af O)<|V (fA fx 0 O qc O)<|lV kE cL 0 O O rfl<|V (aA (hg.1.mono (Le.trans hK cL.kw)).sl O kE O)<|V (dA O O)<|mB rfl<|aa<|aF O (fun Aj=> ?_) (fun Aj=> ?_)
   .refine a7 (id:=3) O ?_
    refine⟨(pV vB a,J1),?_,pB.u4.u4.u4.u4.u4.u4.u4.u4.u4.u4.u4.u1,(Hp.conv cL aN),?_⟩
    ·(show(gr.getD (a:Int).toNat cD).l.length-pV vB a a<(gr.getD (a:Int).toNat cD).l.length-vB a;unfold pV;rw[aQ O];omega)
    exact hS.skip fun⟨j,h1,h2⟩=>by rw[zm]at h2;rw[eM]at h1;have e:((gr.getD (a:Int).toNat cD).l.getD (vB a:Int).toNat 0)=j:=h2;omega
   refine ak<|ah<|SR<| ?_
   obtain⟨j,hj⟩:∃j:Nat,((gr.getD (a:Int).toNat cD).l.getD (vB a:Int).toNat 0)=(j:Int):=⟨_,(fN J).symm⟩
   have hjn:((mO gr).getD a []).getD (vB a) 0=(j:Int):=by rw[zm];exact hj
   have hjr:j<(mO gr).length:=by rw[eM];omega
   have hlt:vB a<((mO gr).getD a []).length:=by rw[zm];show vB a<(gr.getD (a:Int).toNat cD).l.length;omega
   refine aE kY<|V (af O)<|V (fA fx 1 O cP O)<|lV bg cL 0 O O rfl<|mI rfl<|V (ag (cL.sl (i:=1) O) bg bz O (aK I hj) J)<|V (au bx O O ((cL.sl (i:=1) O).cell _ _ (dZ J)))<|V (bX O O)<|aa<|aF O (fun h26=> ?_) (fun h26=> ?_)
   .refine SR<|have h0j:n4 A3 j=0:=‹A3.getD (j:Int).toNat 0=0›;aE kY<|mI rfl<|bV O (wL _ _ _ _ _ _ _ _ _ _ _ _ _ _ _ _ _ _ _ J J J J J (by simp only[NI,gj,List.length_reverse];omega) GK _ Zp cL) (aJ call187 O (aK I hj))<| ?_
    rintro _ w29 ⟨rfl,v31,v32,jx⟩
    have hS1:=hS.enter (a:=j) hlt hjn J h0j
    rw[aht,ahu (RI hS j h0j)]at jx
    simp only[dN]at jx
    refine aa<|a7 (id:=1) rfl<| ?_
    refine⟨(((j,[])::(a,sg)::F0),pV vB a,v31,v32,none,A3.set j (Ji+1),J1.set j (Ji+1),IL.set j true,Ji+1,IM),?_,(((E2.u4.u4.u4.u4.u4.u1.u1.u1).t pB O)).u4.u4.u4.u4.u4.u4.u4.u4.u4.u4.u4.u4.u4.u4,(Hp.conv jx aN),?_,?_,?_⟩
    ·(have c1:=hS.cnt;have c2:=hS1.cnt;simp only[eO];omega)
    .exact hS1
    .exact trivial
    (refine⟨?_,fun k hk=> ?_⟩<;>(rw[zo J];unfold ny;split<;>first|omega|exact hdn.2 k hk))
   refine ak<|SR<|aE kY<|V (af O)<|V (fA fx 3 O Gz O)<|lV qa cL 0 O O rfl<|mI rfl<|V (ag (cL.sl (i:=3) O) qa mG O (aK I hj) J)<|V (au qb O O ((cL.sl (i:=3) O).cell _ _ (ke (dv:=false) J)))<|aa<|bY O (fun h34=> ?_) (fun h34=> ?_)
   .refine ez (z:=⟨none,_,_,_,_,none⟩) aM O aM cL sR<|fun w35 nO=>have rU:=nO;AQ 0 O rU (run_move kY)<|AQ 1 O rU (af O)<|AQ 2 O rU (fA fx 2 O cP O)<|tV 3 O rU bg 0 O O rfl<|AQ 4 O rU (run_move ot)<|AQ 5 O rU (run_move kY)<|AQ 6 O rU (af O)<|AQ 7 O rU (fA fx 2 O cP O)<|tV 8 O rU bg 0 O O rfl<|AQ 9 O rU (run_move ot)<|AT 10 O rU (fun w hS=>ag (hS.sl (i:=2) O) bg bz O O J)<|AT 11 O rU (fun w hS=>au bx O O ((hS.sl (i:=2) O).cell _ _ (dZ J)))<|AQ 12 O rU (run_move kY)<|AQ 13 O rU (af O)<|AQ 14 O rU (fA fx 1 O cP O)<|tV 15 O rU bg 0 O O rfl<|AQ 16 O rU (mV (I _) O)<|AT 17 O rU (fun w hS=>ag (hS.sl (i:=1) O) bg bz O (aK I hj) J)<|AT 18 O rU (fun w hS=>au bx O O ((hS.sl (i:=1) O).cell _ _ (dZ J)))<|AQ 19 O rU (qk O O)<|AT 20 O rU (fun w hS=>ag (hS.sl (i:=2) O) bg bz O O J)<|AD<|px nO (i:=2) O J O O O O rfl<|fun w37 vV=>aa<| ?_
    refine⟨(pV vB a,J1.set a (min (n4 J1 a) (n4 A3 j))),?_,pB.u4.u4.u4.u4.u4.u4.u4.u4.u4.u4.u4.u4.u4.u4.u4.u4.u4.u4.u4.u4.u1,(Hp.conv vV aN),?_⟩
    ·(show(gr.getD (a:Int).toNat cD).l.length-pV vB a a<(gr.getD (a:Int).toNat cD).l.length-vB a;unfold pV;rw[aQ O];omega)
    exact hS.arc hlt hjr hjn ‹_=true›
   refine ak ?_
   refine⟨(pV vB a,J1),?_,pB.u4.u4.u4.u4.u4.u4.u4.u4.u4.u4.u4.u4.u4.u4.u4,(Hp.conv cL aN),?_⟩
   ·(show(gr.getD (a:Int).toNat cD).l.length-pV vB a a<(gr.getD (a:Int).toNat cD).l.length-vB a;unfold pV;rw[aQ O];omega)
   exact hS.shut hlt hjr hjn ‹¬A3.getD (j:Int).toNat 0=0› jV
  refine a7 (id:=2) rfl<|ah<|ah<|have hnd:¬vB a<((mO gr).getD a []).length:=(by rw[zm];show¬vB a<(gr.getD (a:Int).toNat cD).l.length;omega);eF aM cF<|fun w39 n8=>have vA:=n8;AQ 0 O vA (run_move kY)<|AQ 1 O vA (af O)<|AQ 2 O vA (fA fx 2 O cP O)<|tV 3 O vA bg 0 O O rfl<|AQ 4 O vA (run_move ot)<|AT 5 O vA (fun w hS=>ag (hS.sl (i:=2) O) bg bz O O J)<|AT 6 O vA (fun w hS=>au bx O O ((hS.sl (i:=2) O).cell _ _ (dZ J)))<|AQ 7 O vA (run_move kY)<|AQ 8 O vA (af O)<|AQ 9 O vA (fA fx 1 O cP O)<|tV 10 O vA bg 0 O O rfl<|AQ 11 O vA (run_move ot)<|AT 12 O vA (fun w hS=>ag (hS.sl (i:=1) O) bg bz O O J)<|AT 13 O vA (fun w hS=>au bx O O ((hS.sl (i:=1) O).cell _ _ (dZ J)))<|AQ 14 O vA (bX O O)<|AD<|aF O (fun h42=> ?_) (fun h42=> ?_)
  .refine ax<|aE kY<|aE ot<|have ni:n4 J1 a=n4 A3 a:=‹J1.getD (a:Int).toNat 0=A3.getD (a:Int).toNat 0›;have azg:=Zp;have mz:=n8;?_
   rw[aaA]at azg mz
   refine bV O (Ge _ _ _ _ _ _ _ _ _ _ _ _ _ _ _ _ _ _ _ _ J J J (by have:=aaB hS;have e:=aK List.length (gq (a:=a) (sg:=sg) (F:=F0));simp only[cV,eO]at e;simp only[NI,gj,List.length_reverse];omega) hS.arC (fun x hx=>by obtain⟨k,hk,rfl⟩:=aaz (l:=a::sg.reverse) hx;have:=(hS.lt k (by rw[gq];simp at hk⊢;exact hk.elim (fun q=> .inr (.inl q)) .inl)).1;rw[eM]at this;omega) _ azg mz) (aJ call188 O O) ?_
   rintro _ w46 ⟨rfl,c48,azh,oa⟩
   have hS2:=hS.aw3 (ks:=(a:Int)::NI sg.reverse) hnd ni O
   refine aa<|ah<|ez (z:=⟨none,_,_,_,_,none⟩) aM O aM oa sR<|fun w50 vR=>have AY:=vR;AQ 0 O AY (run_move kY)<|AQ 1 O AY (run_move kY)<|AQ 2 O AY (af O)<|AQ 3 O AY (fA fx 5 O pg O)<|tV 4 O AY mi 0 O O rfl<|AQ 5 O AY (run_move kY)<|AQ 6 O AY (af O)<|AQ 7 O AY (fA fx 5 O pg O)<|tV 8 O AY mi 0 O O rfl<|AT 9 O AY (fun w hS=>aA (hS.sl (i:=5) O) O mi O)<|AQ 10 O AY (fG O O J)<|A1 11<|cf O aH O vR sR (tT (vR.sl (i:=5) O) mi KA O (aK I hlen) (by(simp only[nV,eO];omega)))<|AQ 12 O AY (af O)<|AQ 13 O AY (fA fx 5 O pg O)<|AD<|have oH:=Hp.ahh my vR (i:=5) O (m:=F0.length) (by(simp only[nV,eO];omega));bu oH (i:=0) O (bL O O (v:=(kS Ov (F0.length))) O (aS (oH.get (i:=5) O)).1 (aS (oH.get (i:=5) O)).2 (oH.blk (i:=0) O) az)<|fun w54 iY=> ?_
   simp only[fO,gU,iZ,fg,Nat.reduceAdd]at iY
   rw[UF]at iY
   refine aa<|SR<|aE kY<|V (af O)<|V (fA fx 5 O pg O)<|lV mi iY 0 O O rfl<|V (aA (iY.sl (i:=5) O) O mi O)<|V (run_assign (aK I (show((oS F0 vB).length:Int)=F0.length from by rw[nV])))<|aa<|SR<|mI rfl<|V (dz O O)<|aa<|aF O (fun h58=> ?_) (fun h58=> ?_)
   .refine SR ?_
    obtain⟨p,sp,F1,rfl⟩:=aw4 (F:=F0) J
    have hpn:=(hS.lt p (iU (x:=(p,sp)) az)).1
    rw[eM]at hpn
    refine aE kY<|V (af O)<|V (fA fx 5 O pg O)<|lV mi iY 0 O O rfl<|mI rfl<|V (fG O O J)<|V (ag (iY.sl (i:=5) O) mi KA O (aK I (show(((p,sp)::F1).length:Int)-1=F1.length from by simp)) GK)<|V (fA D5 0 O bz O)<|V (gp (dv:=I2) (off:=0) my (iY.sl (i:=5) O) bx O O GK O)<|V (run_assign (show _=I (p:Int)from aK (fun x:C6=>I x.node) (show(oS ((p,sp)::F1) vB).getD (F1.length:Int).toNat I2=⟨p,vB p⟩from RJ)))<|aa<|ez (z:=⟨none,_,_,_,_,none⟩) aM O aM iY sR<|fun w59 Gc=>have xE:=Gc;AQ 0 O xE (run_move kY)<|AQ 1 O xE (af O)<|AQ 2 O xE (fA fx 2 O cP O)<|tV 3 O xE bg 0 O O rfl<|AQ 4 O xE (mV (I _) O)<|AQ 5 O xE (run_move kY)<|AQ 6 O xE (af O)<|AQ 7 O xE (fA fx 2 O cP O)<|tV 8 O xE bg 0 O O rfl<|AQ 9 O xE (mV (I _) O)<|AT 10 O xE (fun w hS=>ag (hS.sl (i:=2) O) bg bz O O J)<|AT 11 O xE (fun w hS=>au bx O O ((hS.sl (i:=2) O).cell _ _ (dZ J)))<|AQ 12 O xE (run_move kY)<|AQ 13 O xE (af O)<|AQ 14 O xE (fA fx 2 O cP O)<|tV 15 O xE bg 0 O O rfl<|AQ 16 O xE (run_move ot)<|AT 17 O xE (fun w hS=>ag (hS.sl (i:=2) O) bg bz O O J)<|AT 18 O xE (fun w hS=>au bx O O ((hS.sl (i:=2) O).cell _ _ (dZ J)))<|AQ 19 O xE (qk O O)<|AT 20 O xE (fun w hS=>ag (hS.sl (i:=2) O) bg bz O O J)<|AD<|px Gc (i:=2) O J O O O O rfl<|fun w61 tB=>aa<| ?_
    refine⟨(((p,sp)::F1),vB,(sD ME (NI (eZ ((p,sp)::F1)).reverse).length),(kS Ov (((p,sp)::F1).length)),c48,A3,J1.set p (min (n4 J1 p) (n4 J1 a)),fY IL ((a:Int)::NI sg.reverse) false,Ji,fY IM ((a:Int)::NI sg.reverse) (BM a ((a:Int)::NI sg.reverse))),?_,(((E2.u4.u4.u4.u4.u4.u1.u1.u1).t pB O)).u4.u4.u4.u4.u4.u4.u4.u4.u4.u4.u4.u4.u4.u4.u4.u4.u4.u4.u4.u4.u4,(Hp.conv tB aN),?_,?_,?_⟩
    ·(simp only[eO,D2];omega)
    ·(rw[hS.keep ni];exact hS2)
    .exact azh
    exact hdn
   refine ak<|have e0:F0=[]:=E3 J;?_
   subst e0
   refine⟨([],vB,(sD ME (NI (eZ ([]:SZ)).reverse).length),(kS Ov (([]:SZ).length)),c48,A3,J1,fY IL ((a:Int)::NI sg.reverse) false,Ji,fY IM ((a:Int)::NI sg.reverse) (BM a ((a:Int)::NI sg.reverse))),?_,(((E2.u4.u4.u4.u4.u4.u1.u1.u1).t pB O)).u4.u4.u4.u4.u4.u4.u4.u4.u4.u4.u4.u4.u4.u1,(Hp.conv iY aN),?_,?_,?_⟩
   ·(simp only[eO,D2];omega)
   .exact hS2
   .exact azh
   exact hdn
  refine ak<|ah<|have ni:n4 J1 a≠n4 A3 a:=‹¬J1.getD (a:Int).toNat 0=A3.getD (a:Int).toNat 0›;ez (z:=⟨none,_,_,_,_,none⟩) aM O aM n8 sR<|fun w63 Cg=>have HW:=Cg;AQ 0 O HW (run_move kY)<|AQ 1 O HW (run_move kY)<|AQ 2 O HW (af O)<|AQ 3 O HW (fA fx 5 O pg O)<|tV 4 O HW mi 0 O O rfl<|AQ 5 O HW (run_move kY)<|AQ 6 O HW (af O)<|AQ 7 O HW (fA fx 5 O pg O)<|tV 8 O HW mi 0 O O rfl<|AT 9 O HW (fun w hS=>aA (hS.sl (i:=5) O) O mi O)<|AQ 10 O HW (fG O O J)<|A1 11<|cf O aH O Cg sR (tT (Cg.sl (i:=5) O) mi KA O (aK I hlen) (by(simp only[nV,eO];omega)))<|AQ 12 O HW (af O)<|AQ 13 O HW (fA fx 5 O pg O)<|AD<|have Ot:=Hp.ahh my Cg (i:=5) O (m:=F0.length) (by(simp only[nV,eO];omega));bu Ot (i:=0) O (bL O O (v:=(kS Ov (F0.length))) O (aS (Ot.get (i:=5) O)).1 (aS (Ot.get (i:=5) O)).2 (Ot.blk (i:=0) O) az)<|fun w67 mA=> ?_
  simp only[fO,gU,iZ,fg,Nat.reduceAdd]at mA
  rw[UF]at mA
  refine aa<|SR<|aE kY<|V (af O)<|V (fA fx 5 O pg O)<|lV mi mA 0 O O rfl<|V (aA (mA.sl (i:=5) O) O mi O)<|V (run_assign (aK I (show((oS F0 vB).length:Int)=F0.length from by rw[nV])))<|aa<|SR<|mI rfl<|V (dz O O)<|aa<|aF O (fun h71=> ?_) (fun h71=> ?_)
  .refine SR ?_
   obtain⟨p,sp,F1,rfl⟩:=aw4 (F:=F0) J
   have hpn:=(hS.lt p (iU (x:=(p,sp)) az)).1
   rw[eM]at hpn
   refine aE kY<|V (af O)<|V (fA fx 5 O pg O)<|lV mi mA 0 O O rfl<|mI rfl<|V (fG O O J)<|V (ag (mA.sl (i:=5) O) mi KA O (aK I (show(((p,sp)::F1).length:Int)-1=F1.length from by simp)) GK)<|V (fA D5 0 O bz O)<|V (gp (dv:=I2) (off:=0) my (mA.sl (i:=5) O) bx O O GK O)<|V (run_assign (show _=I (p:Int)from aK (fun x:C6=>I x.node) (show(oS ((p,sp)::F1) vB).getD (F1.length:Int).toNat I2=⟨p,vB p⟩from RJ)))<|aa<|ez (z:=⟨none,_,_,_,_,none⟩) aM O aM mA sR<|fun w72 vS=>have xF:=vS;AQ 0 O xF (run_move kY)<|AQ 1 O xF (af O)<|AQ 2 O xF (fA fx 2 O cP O)<|tV 3 O xF bg 0 O O rfl<|AQ 4 O xF (mV (I _) O)<|AQ 5 O xF (run_move kY)<|AQ 6 O xF (af O)<|AQ 7 O xF (fA fx 2 O cP O)<|tV 8 O xF bg 0 O O rfl<|AQ 9 O xF (mV (I _) O)<|AT 10 O xF (fun w hS=>ag (hS.sl (i:=2) O) bg bz O O J)<|AT 11 O xF (fun w hS=>au bx O O ((hS.sl (i:=2) O).cell _ _ (dZ J)))<|AQ 12 O xF (run_move kY)<|AQ 13 O xF (af O)<|AQ 14 O xF (fA fx 2 O cP O)<|tV 15 O xF bg 0 O O rfl<|AQ 16 O xF (run_move ot)<|AT 17 O xF (fun w hS=>ag (hS.sl (i:=2) O) bg bz O O J)<|AT 18 O xF (fun w hS=>au bx O O ((hS.sl (i:=2) O).cell _ _ (dZ J)))<|AQ 19 O xF (qk O O)<|AT 20 O xF (fun w hS=>ag (hS.sl (i:=2) O) bg bz O O J)<|AD<|px vS (i:=2) O J O O O O rfl<|fun w74 F7=>aa<|have qS:=F7;have azi:=Zp;?_
   rw[ahv]at qS azi
   rw[ahw (sg:=sg) (a:=a)]at qS
   refine⟨(((p,sg++a::sp)::F1),vB,ME,(kS Ov (((p,sp)::F1).length)),ED,A3,J1.set p (min (n4 J1 p) (n4 J1 a)),IL,Ji,IM),?_,(((E2.u4.u4.u4.u4.u4.u1.u1.u1).t pB O)).u4.u4.u4.u4.u4.u4.u4.u4.u4.u4.u4.u4.u4.u4.u4.u4.u4.u4.u4.u4.u1,(Hp.conv qS aN),?_,?_,?_⟩
   ·(simp only[eO,D2];omega)
   .exact hS.UE hnd ni
   .exact azi
   exact hdn
  refine ak<|have e0:F0=[]:=E3 J;?_
  subst e0
  refine⟨([],vB,ME,(kS Ov (([]:SZ).length)),ED,A3,J1,IL,Ji,IM),?_,(((E2.u4.u4.u4.u4.u4.u1.u1.u1).t pB O)).u4.u4.u4.u4.u4.u4.u4.u4.u4.u4.u4.u4.u1.u1,(Hp.conv mA (by exact absurd hS.root ni)),?_,?_,?_⟩
  ·(simp only[eO,D2];omega)
  .exact absurd hS.root ni
  .exact absurd hS.root ni
  exact hdn
 refine a7 (id:=0) rfl<|have e0:F=[]:=(by cases F with|nil=>rfl|cons x F0=>(exfalso;simp only[nV,eO]at*;omega));?_
 subst e0
 exact nW O ⟨rfl,ME,Ov,ED,VP,A3,Zm,IL,Ji,IM,hS,Zp,hdn,eD⟩
theorem adA(v:Value)(gr:List iW)(hgn:gr.length<=100000)(w:World)(hg0:GrV (Kw w) v gr):Calls Tryz.prog 124 #[v] w (rV 3 1 gr.length ((oA (mO gr)).map I) w):=by
 have hg:=hg0.1
 have hgl:=eM (g:=gr)
 refine eH func124 rfl rfl fun hH=>SR<|va (v:= .slice none 0 0) rfl<|aa<|SR<| ?_
 refine V (run_move bG) ?_
 refine V (aA (hg.mono hH.kw).sl O kE O)<|aI rfl<|aa<|ah<|eF aM hH<|fun w1 aW=>have fK:=aW;?_
 refine AQ 0 O fK (run_move bG) ?_
 refine AQ 1 O fK (mV (I _) O)<|AQ 3 O fK (mV (I _) O)<|AQ 5 O fK (mV (I _) O)<|AQ 7 O fK (mV (I _) O)<|awY [10,12,14,16] [2,4,6,8] [⟨2,10,_,_,_,_,fun b=> .slice (some ⟨b,0,none⟩) (gr.length) (gr.length),.cells ((List.replicate (gr.length) ((0:Int))).map I).toArray 3 (0,0)⟩,⟨4,12,_,_,_,_,fun b=> .slice (some ⟨b,0,none⟩) (gr.length) (gr.length),.cells ((List.replicate (gr.length) ((0:Int))).map I).toArray 3 (0,0)⟩,⟨6,14,_,_,_,_,fun b=> .slice (some ⟨b,0,none⟩) (gr.length) (gr.length),.cells ((List.replicate (gr.length) (false)).map B).toArray 4 (0,0)⟩,⟨8,16,_,_,_,_,fun b=> .slice (some ⟨b,0,none⟩) (gr.length) (gr.length),.cells ((List.replicate (gr.length) ((0:Int))).map I).toArray 3 (0,0)⟩] O O ⟨⟨rfl,rfl⟩,⟨rfl,rfl⟩,⟨rfl,rfl⟩,⟨rfl,rfl⟩,trivial⟩ ⟨fun σ' w h=>zn bg O O O O ((h 9 O).trans (show _=Value.int .i64 ((gr.length:Nat):Int)from O)) ((h 9 O).trans (show _=Value.int .i64 ((gr.length:Nat):Int)from O)) aD J,fun σ' w h=>zn bg O O O O ((h 11 O).trans (show _=Value.int .i64 ((gr.length:Nat):Int)from O)) ((h 11 O).trans (show _=Value.int .i64 ((gr.length:Nat):Int)from O)) aD J,fun σ' w h=>zn qa O O O O ((h 13 O).trans (show _=Value.int .i64 ((gr.length:Nat):Int)from O)) ((h 13 O).trans (show _=Value.int .i64 ((gr.length:Nat):Int)from O)) aD J,fun σ' w h=>zn bg O O O O ((h 15 O).trans (show _=Value.int .i64 ((gr.length:Nat):Int)from O)) ((h 15 O).trans (show _=Value.int .i64 ((gr.length:Nat):Int)from O)) aD J,trivial⟩ aD aD aM aW sR<|fun P5 w4 bU=> ?_
 simp only[lf,Bd,fH,er,UB]at bU
 have gT:=bU.IZ (i:=0) (n:=gr.length) (l:=List.replicate (gr.length) ((0:Int))) (f:=I) O az J
 have eD:=gT.IZ (i:=1) (n:=gr.length) (l:=List.replicate (gr.length) ((0:Int))) (f:=I) O az J
 have fq:=eD.IZ (i:=2) (n:=gr.length) (l:=List.replicate (gr.length) (false)) (f:=B) O az J
 have iB:=fq.IZ (i:=3) (n:=gr.length) (l:=List.replicate (gr.length) ((0:Int))) (f:=I) O az J
 refine A1 9<|cf O aH O iB (sQ (sQ (sQ (sQ sR)))) (dO (vs:=[(0,v),(1,(.slice (some ⟨P5 10,0,none⟩) (gr.length) (gr.length))),(2,(.slice (some ⟨P5 12,0,none⟩) (gr.length) (gr.length))),(3,(.slice (some ⟨P5 14,0,none⟩) (gr.length) (gr.length))),(7,(.slice (some ⟨P5 16,0,none⟩) (gr.length) (gr.length)))]) O (ady (Ri hg).2 (aS (iB.get (i:=0) O)).1 (aS (iB.get (i:=1) O)).1 (aS (iB.get (i:=2) O)).1 (aS (iB.get (i:=3) O)).1))<|A1 10<|cY O aH O iB (sQ (sQ (sQ (sQ sR)))) (f:=fun b=> .pointer (some ⟨b,0,none⟩)) (Jr (v:= .agg _) O)<|fun b14 B7 cm=>AQ 11 O (cm.sub (sQ (sQ (sQ (sQ (sQ sR)))))) (aV (Pn _ _) O)<|have iX:=cm.fD 3 1;have cG:=iX.fD 233 2;have dU:Hp w B7 (.blk b14 (.cells #[v,(.slice (some ⟨P5 10,0,none⟩) (gr.length) (gr.length)),(.slice (some ⟨P5 12,0,none⟩) (gr.length) (gr.length)),(.slice (some ⟨P5 14,0,none⟩) (gr.length) (gr.length)),(.slice none 0 0),(.slice none 0 0),I (0),(.slice (some ⟨P5 16,0,none⟩) (gr.length) (gr.length))] 222 (0,0))::jq I (.slice (some ⟨P5 10,0,none⟩) (gr.length) (gr.length)) 3 (List.replicate gr.length (0:Int))::jq I (.slice (some ⟨P5 12,0,none⟩) (gr.length) (gr.length)) 3 (List.replicate gr.length (0:Int))::jq B (.slice (some ⟨P5 14,0,none⟩) (gr.length) (gr.length)) 4 (List.replicate gr.length false)::cE none (.slice none 0 0) 3 ((([]:List Int)).map I)::uV FG 2 (.slice none 0 0) 233 (([]:List C6))::jq I (.slice (some ⟨P5 16,0,none⟩) (gr.length) (gr.length)) 3 (List.replicate gr.length (0:Int))::[]):=cG.pj [2,2,2,2,1];AD<|ah<|SR<|mI rfl<|aE (v:=I 0) rfl<|aa<|aC<|bj (G:=Int×(Nat->Nat)×Value×Value×(Option (Nat×Array Value))×(List Int)×(List Int)×(List Bool)×Int×(List Int)) (fun⟨k,VP,ME,Ov,ED,A3,Zm,IL,Ji,IM⟩ s' w'=>(Fr (5::(rg 20 15 [])) _ s')/\(Hp w w' (.blk b14 (.cells #[v,(.slice (some ⟨P5 10,0,none⟩) (gr.length) (gr.length)),(.slice (some ⟨P5 12,0,none⟩) (gr.length) (gr.length)),(.slice (some ⟨P5 14,0,none⟩) (gr.length) (gr.length)),ME,Ov,I (Ji),(.slice (some ⟨P5 16,0,none⟩) (gr.length) (gr.length))] 222 (0,0))::jq I (.slice (some ⟨P5 10,0,none⟩) (gr.length) (gr.length)) 3 (A3)::jq I (.slice (some ⟨P5 12,0,none⟩) (gr.length) (gr.length)) 3 (Zm)::jq B (.slice (some ⟨P5 14,0,none⟩) (gr.length) (gr.length)) 4 (IL)::cE ED ME 3 ((([]:List Int)).map I)::uV FG 2 Ov 233 (([]:List C6))::jq I (.slice (some ⟨P5 16,0,none⟩) (gr.length) (gr.length)) 3 (IM)::_))/\(s' 20=I k)/\(0<=k)/\(k<=gr.length)/\(qK (mO gr) A3 Zm IL Ji IM [] VP)/\(cO ED ME (([]:List Int).map I))/\(∀q:Nat,q<k.toNat->n4 A3 q≠0)) (fun⟨k,VP,ME,Ov,ED,A3,Zm,IL,Ji,IM⟩=>(gr.length-k).toNat) ((0,fun _=>0,.slice none 0 0,.slice none 0 0,none,List.replicate gr.length 0,List.replicate gr.length 0,List.replicate gr.length false,0,List.replicate gr.length 0)) ⟨Fr.refl _ _,dU,rfl,J,J,qK.start hgl,trivial,fun q hq=>absurd hq J⟩<| ?_
 rintro⟨k,VP,ME,Ov,ED,A3,Zm,IL,Ji,IM⟩ asO PR ⟨xq,dS,Sy,k0,k1,hS,Zp,hdn⟩
 obtain⟨MO,atW⟩:=xq.w2 4 19
 have q0:=hS.S0
 rw[eM]at q0
 refine SR<|V (aL Sy atW)<|aa<|ah<|aF O (fun NY=> ?_) (fun NY=> ?_)
 .refine ak<|ah<|aC<|SR<|aE Sy<|aI rfl<|aa<|SR<|aE MO<|V (af O)<|V (fA fx 1 O cP O)<|lV bg dS 0 O O rfl<|mI rfl<|V (ag (dS.sl (i:=1) O) bg bz O O J)<|V (au bx O O ((dS.sl (i:=1) O).cell _ _ (dZ J)))<|V (bX O O)<|aa<|aF O (fun h22=> ?_) (fun h22=> ?_)
  .refine ax<|aE MO<|mI rfl<|have h0k:n4 A3 k.toNat=0:=‹A3.getD k.toNat 0=0›;bV O (HV _ _ _ _ _ _ _ _ _ _ _ _ _ _ _ _ _ _ _ _ hgn hS J h0k _ (Le.refl _) hg0 Zp dS) (aJ call155 O O)<| ?_
   rintro _ w25 ⟨rfl,vs2,vf2,cs2,vB,od2,J1,on2,tm2,of2,hS2,CQ,hd2,kB⟩
   refine aa<|ax<|V (ay Sy O J)<|mI rfl<|aa<| ?_
   refine⟨(k+1,vB,vs2,vf2,cs2,od2,J1,on2,tm2,of2),aZ,xq.u4.u4.u4.u4,(Hp.conv kB aN),(aK I aN),J,J,?_,?_,?_⟩
   .exact hS2
   .exact CQ
   exact ar3 k0 (fun q hq=>hd2.2 q (hdn q hq)) hd2.1
  refine ak<|ax<|V (ay Sy O J)<|mI rfl<|aa<| ?_
  refine⟨(k+1,VP,ME,Ov,ED,A3,Zm,IL,Ji,IM),aZ,xq.u4.u4.u4.u1,(Hp.conv dS aN),(aK I aN),J,J,?_,?_,?_⟩
  .exact hS
  .exact Zp
  exact ar3 k0 hdn ‹¬A3.getD k.toNat 0=0›
 refine a7 (id:=0) rfl<|SR<|aE MO<|V (af O)<|V (fA fx 7 O cP O)<|lV bg dS 0 O O rfl<| ?_
 refine V (run_assign bG) ?_
 refine aa<|aj<|N1 O O dS (i:=6) O ((by have:=hS.lof;rw[eM]at this;exact this)) ((by rw[hS.done fun q hq=>hdn q (by rw[eM]at hq;omega)]))
theorem iq(fd:FuncId)(fc:Array Value)(c:jj)(hlg:lg.length<=600000000000)(w:World)(hH:Hp W0 w (nE n wr vL vt vv vy vu vq sn vW vU vT cn sk wy vd vm cW cU W ul ts an aT ai aX us qs lg tm L)):Calls Tryz.prog 44 #[pt n,jF fd fc] w (iA fun u w'=>u= .tuple #[]/\∃vd':Value,Hp W0 w' (nE n wr vL vt vv vy vu vq sn vW vU vT cn sk wy (vd') vm cW cU W ul ts an aT ai aX us qs (lg++[(jF fd fc,c)]) tm L)):=by
 simp only[nE]at hH
 refine en func44 rfl rfl<|ax<|aE (v:=Pn _ _) rfl<|aE (v:=Pn _ _) rfl<|V (af O)<|V (fA bM 14 O jQ O)<|lV gH hH 0 O O rfl<|aE (v:= .func _ _ _) rfl<|yd 1 1 hH (ct gH rfl rfl (sz:=1) (vs:=[.func _ _ _]) rfl rfl aD aD rfl rfl)<|fun b3 w1 aW=> ?_
 (try simp only[oX]at aW)
 refine arZ (a:=(jF fd fc,c)) O aW (i:=11) O (aW.dQ (i:=0) (n:=1) (sz:=1) O O aD) O O gH O O (bytes:=8) O O O O J aD<|fun v4 w5 gT=>V (af O)<|V (fA bM 14 O jQ O)<|bu gT (i:=1) O (bL O O (v:=v4) O (aS (gT.get (i:=11) O)).1 (aS (gT.get (i:=11) O)).2 (gT.blk (i:=1) O) az)<|fun w7 fq=> ?_
 simp only[fO,gU,iZ,fg,Nat.reduceAdd]at fq
 refine aa<|nW O ⟨rfl,v4,(fq.sub (sQ sR))⟩
theorem o8(htm:tm.length<=100000000)(w:World)(hH:Hp W0 w (nE n wr vL vt vv vy vu vq sn vW vU vT cn sk wy vd vm cW cU W ul ts an aT ai aX us qs lg tm L)):Calls Tryz.prog 41 #[pt n] w (iA fun u w'=>u= .tuple #[]/\∃vm':Value,Hp W0 w' (nE n wr vL vt vv vy vu vq sn vW vU vT cn sk wy vd (vm') cW cU W ul ts an aT ai aX us qs lg (tm++[(lg.length:Int)]) L)):=by
 simp only[nE]at hH
 refine en func41 rfl rfl<|ez (z:=⟨none,_,_,_,_,none⟩) aM O aM hH (sP (sP (sP (sP (sP (sP (sP (sP (sP (sP (sP (sQ sR))))))))))))<|fun w1 aW=>have fK:=aW.sub (sP (sP (sP (sP (sP (sP (sP (sP (sP (sP (sP (sQ sR))))))))))));AQ 0 O fK (mV (Pn _ _) O)<|AQ 1 O fK (mV (Pn _ _) O)<|AQ 2 O fK (af O)<|AQ 3 O fK (fA bM 15 O cP O)<|tV 4 O fK bg 0 O O rfl<|AQ 5 O fK (mV (Pn _ _) O)<|AQ 6 O fK (af O)<|AQ 7 O fK (fA bM 14 O jQ O)<|tV 8 O fK gH 0 O O rfl<|AT 9 O fK (fun w hS=>aA (hS.sl (i:=10) O) O gH O)<|A1 10<|cY O aH O aW (sP (sP (sP (sP (sP (sP (sP (sP (sP (sP (sP (sQ sR)))))))))))) (f:=fun b=> .slice (some ⟨b,0,none⟩) 1 1) (ct bg O O (sz:=1) (vs:=[I _]) O O aD aD O O)<|fun b5 w3 gE=> ?_
 (try simp only[oX]at gE)
 refine A1 11<|RF O aH O gE (i:=12) O (fun _=>(sQ (sP (sP (sP (sP (sP (sP (sP (sP (sP (sP (sP (sQ sR)))))))))))))) (gE.dQ (i:=0) (n:=1) (sz:=1) O O aD) O O bg O O (bytes:=8) O O O O J aD<|fun v8 w9 bW=>AQ 12 O (bW.sub (sQ (sP (sP (sP (sP (sP (sP (sP (sP (sP (sP (sP (sQ sR)))))))))))))) (af O)<|AQ 13 O (bW.sub (sQ (sP (sP (sP (sP (sP (sP (sP (sP (sP (sP (sP (sQ sR)))))))))))))) (fA bM 15 O cP O)<|AD<|bu bW (i:=1) O (bL O O (v:=v8) O (aS (bW.get (i:=12) O)).1 (aS (bW.get (i:=12) O)).2 (bW.blk (i:=1) O) az)<|fun ID cK=> ?_
 simp only[fO,gU,iZ,fg,Nat.reduceAdd]at cK
 refine aa<|nW O ⟨rfl,v8,(cK.sub (sQ sR))⟩
theorem oe(w:World)(hb:w.heap[n]?=some (.cells #[wr,vL,vt,vv,vy,vu,vq,I sn,vW,vU,vT,I cn,B sk,U wy,vd,vm] 111 (0,0))):Calls Tryz.prog 40 #[pt n] w (Pure (B (!sk)) w):=by
 refine eH func40 rfl rfl fun hH=>SR<|va (v:=B false) rfl<|aa<|SR<|aE (v:=Pn _ _) rfl<|V (acL cw O O)<|mB rfl<|cC O rfl<|aE (v:=Pn _ _) rfl<|V (af O)<|V (fA bM 12 O mG O)<|V (au qb O O (hH.ed hb (v:=B _) O))<|V (bO O)<|mB rfl<|aB rfl<|aa<|aj<|oB O ?_ hH
 rfl
theorem DP(v x:Int)(w:World)(hb:w.heap[n]?=some (.cells #[wr,vL,vt,vv,vy,vu,vq,I sn,vW,vU,vT,I cn,B sk,U wy,vd,vm] 111 (0,0)))(ht:Sl w vt 1 aT.length (aT.map I)):Calls Tryz.prog 104 #[pt n,I v,I x] w (Pure (B (decide (0<=v/\v<aT.length/\aT.getD v.toNat 0=x))) w):=by
 refine eH func104 rfl rfl fun hH=>SR<|va (v:=B false) rfl<|aa<|SR<|mI rfl<|V (dA O O)<|mB rfl<|bN 9 O (fun h2=> ?_) (fun h2=> ?_)
 .refine mI rfl<|aE (v:=Pn _ _) rfl<|V (af O)<|V (fA bM 2 O cP O)<|V (au bg O O (hH.ed hb O))<|V (aA (ht.hp hH) O bg O)<|V (aL O O)<|mB rfl<|mB rfl<|bN 18 O (fun h4=> ?_) (fun h4=> ?_)
  .refine aE (v:=Pn _ _) rfl<|V (af O)<|V (fA bM 2 O cP O)<|V (au bg O O (hH.ed hb O))<|mI rfl<|V (ag (ht.hp hH) bg bz O O J)<|V (au bx O O ((ht.hp hH).cell _ _ (dZ J)))<|mI rfl<|V (bX O O)<|mB rfl<|aB rfl<|aa<|aj<|oB O ?_ hH
   exact Qv.2 ⟨fun h=>⟨J,J,h⟩,fun h=>h.2.2⟩
  refine aE (v:=B false) rfl<|aB rfl<|aa<|aj<|oB O ?_ hH
  (rw[gF J];done)
 refine aE (v:=B false) rfl<|mB rfl<|cC O rfl<|aE (v:=B false) rfl<|aB rfl<|aa<|aj<|oB O ?_ hH
 (rw[gF J];done)
theorem mQ(q:de)(w:World)(hq:zv (Kw w) q):Calls Tryz.prog 131 #[.agg (oT q).toArray] w (Pure (B (Eb q)) w):=by
 refine eH func131 rfl rfl fun hH=>SR<|iu hH (v:= .agg _) rfl<|fun b3 w1 aW=>va (v:=B false) rfl<|aa<|SR<|V (fA iM 1 O Bi O)<|V (bZ (hq.code.sl.hp aW) iE O O (aW.cell (i:=0) O O))<|V (aA (hq.code.sl.hp aW) O iE O)<|V (bX O O)<|mB rfl<|bN 7 O (fun h5=> ?_) (fun h5=> ?_)
 .refine V (fA iM 1 O Bi O)<|V (bZ (hq.code.sl.hp aW) iE O O (aW.cell (i:=0) O O))<|V (ag (hq.code.sl.hp aW) iE pn O O J)<|V (fA eR 0 O bz O)<|V (gp (dv:=cA) (off:=0) gK (hq.code.sl.hp aW) bx O O J O)<|V (bX O O)<|mB rfl<|mB rfl<|bN 15 O (fun h7=> ?_) (fun h7=> ?_)
  .refine V (fA iM 2 O po O)<|V (fA mY 0 O bz O)<|lI bx aW 0 O O rfl<|V (dA O O)<|mB rfl<|aB rfl<|aa<|aj<|oB O ?_ aW
   (unfold Eb;((rw[gB (show q.code.length=1 by omega),gB (show(q.code.getD 0 cA).op=1 from aR)];rfl)))
  refine aE (v:=B false) rfl<|aB rfl<|aa<|aj<|oB O ?_ aW
  (unfold Eb;((rw[gB (show q.code.length=1 by omega),gF (show¬(q.code.getD 0 cA).op=1 from aR)];rfl)))
 refine aE (v:=B false) rfl<|mB rfl<|cC O rfl<|aE (v:=B false) rfl<|aB rfl<|aa<|aj<|oB O ?_ aW
 (unfold Eb;((rw[gF (show¬q.code.length=1 by omega)];rfl)))
theorem wM(q:de)(hv:∀v∈q.vars,0<=v/\v<aX.length)(w:World)(hb:w.heap[n]?=some (.cells #[wr,vL,vt,vv,vy,vu,vq,I sn,vW,vU,vT,I cn,B sk,U wy,vd,vm] 111 (0,0)))(hy:Sl w vy 1 aX.length (aX.map U))(uf:zv (Kw w) q):Calls Tryz.prog 132 #[pt n,.agg (oT q).toArray] w (Pure (U (orW q.why aX q.vars)) w):=by
 have hvs:=uf.vars.small
 unfold maxLen at hvs
 refine eH func132 rfl rfl fun hH=>SR<|iu hH (v:= .agg _) rfl<|fun b3 w1 aW=>va (v:=U 0#64) rfl<|aa<|SR<|V (fA iM 11 O c8 O)<|V (au dW O O (aW.cell (i:=0) O (v:=U _) O))<|aU rfl<|aa<|ah<|SR<|V (fA iM 12 O cP O)<|V (bZ (uf.vars.sl.hp aW) bg O O (aW.cell (i:=0) O O))<|V (aA (uf.vars.sl.hp aW) O bg O)<|aE (v:=I 0) rfl<|aa<|aC<|bj (G:=Int) (fun k s' w'=>(Fr (5::(7::(rg 13 14 []))) _ s')/\(Hp w w' _)/\(s' 5=U (orW q.why aX (q.vars.take k.toNat)))/\(s' 13=I k)/\(0<=k)/\(k<=q.vars.length)) (fun k=>(q.vars.length-k).toNat) (0) ⟨Fr.refl _ _,aW,rfl,rfl,J,J⟩<| ?_
 rintro k sg4 w4 ⟨B6,gE,FR,ajF,h0,hk⟩
 obtain⟨adi,azj,azk⟩:=B6.w3 0 11 12
 refine SR<|V (aL ajF azk)<|aa<|ah<|aF O (fun h6=> ?_) (fun h6=> ?_)
 .refine ak<|ah<|aC<|SR<|have hvk:=hv _ (dc (d:=0) h0 ‹k<_›);V (ag (uf.vars.sl.hp gE) bg bz azj ajF J)<|V (au bx O O ((uf.vars.sl.hp gE).cell _ _ (dZ J)))<|aI rfl<|aa<|ax<|aE FR<|aE adi<|V (af O)<|V (fA bM 4 O iN O)<|V (au cS O O (gE.ed hb O))<|mI rfl<|V (ag (hy.hp gE) cS c8 O O J)<|V (au dW O O ((hy.hp gE).cell _ _ (ke (dv:=0#64) J)))<|V (jC O O)<|aU rfl<|aa<|ax<|V (ay ajF O J)<|mI rfl<|aa<| ?_
  refine⟨k+1,aZ,B6.u4.u4.u4.u4,gE,(aK U (ahE h0 ‹k<_›).symm),(aK I aN),J,J⟩
 refine a7 (id:=0) rfl<|SR<|aE FR<|aU rfl<|aa<|aj<|oU O ?_ gE
 rw[iP J]
theorem HX(Wc:0<=sn/\sn<=qs.length)(w:World)(hb:w.heap[n]?=some (.cells #[wr,vL,vt,vv,vy,vu,vq,I sn,vW,vU,vT,I cn,B sk,U wy,vd,vm] 111 (0,0)))(hq:Sl w vq 13 qs.length (qs.flatMap oT))(HY:Yp (Kw w) qs):Calls Tryz.prog 122 #[pt n] w (Pure (B ((qs.drop sn.toNat).any Eb)) w):=by
 have hqD:Yp (Kw w) (qs.drop sn.toNat):=fun q hq=>HY q (xK hq)
 have hml:=hq.small
 unfold maxLen at hml
 have hdl:(qs.drop sn.toNat).length<=qs.length:=az
 refine eH func122 rfl rfl fun hH=>SR<|va (v:=B false) rfl<|aa<|ah<|ah<|eF aM hH<|fun w1 aW=>have fK:=aW;AQ 0 O fK (mV (Pn _ _) O)<|AQ 1 O fK (af O)<|AQ 2 O fK (fA bM 6 O s4 O)<|AT 3 O fK (fun w hS=>au mj O O (hS.ed hb O))<|AQ 4 O fK (mV (Pn _ _) O)<|AQ 5 O fK (af O)<|AQ 6 O fK (fA bM 7 O bz O)<|AT 7 O fK (fun w hS=>au bx O O (hS.ed hb (v:=I _) O))<|AQ 10 O fK (mV (I 0) O)<|A1 8<|cf O aH O aW sR (fW (hq.hp aW) mj GC O O J)<|AT 9 O fK (fun w hS=>aA ((Sl.frE nM hq sn.toNat J).hp hS) O mj O)<|AD<|aC<|bj (G:=Int) (fun k s' w'=>(Fr (2::(4::(rg 15 7 []))) _ s')/\(Hp w w' _)/\(s' 15=I k)/\(0<=k)/\(k<=(qs.drop sn.toNat).length)/\(∀j:Nat,j<k.toNat->Eb ((qs.drop sn.toNat).getD j cQ)=false)) (fun k=>((qs.drop sn.toNat).length-k).toNat) (0) ⟨Fr.refl _ _,aW,rfl,J,J,fun j h=>absurd h J⟩<| ?_
 rintro k sg5 w5 ⟨fr5,bU,ajG,h0,hk,hno⟩
 obtain⟨azl,azm⟩:=fr5.w2 13 14
 refine SR<|V (aL ajG azm)<|aa<|ah<|aF O (fun h7=> ?_) (fun h7=> ?_)
 .refine ak<|ah<|aC<|SR<|V (ag ((Sl.frE nM hq sn.toNat J).hp bU) mj GC azl ajG J)<|V (dY (dv:=cQ) nM ((Sl.frE nM hq sn.toNat J).hp bU) iM O O O J)<|oY bU (bf Tryz.zeroValue128)<|fun b10 w8 iB=>bu iB (i:=0) O (eC (c':=(oT _).toArray) O O O (sK (hqD.at J J)) (iB.blk (i:=0) O) O)<|fun C7 cF=>aa<|SR<|V (cN (cs:=oT _) iM O O O (bp (cF.blk (i:=0) O)))<|aG O cF (mQ _ _ ((hqD.at J J).mono cF.kw)) (aq call131 O)<|fun Wg cG=>aa<|bY O (fun pW=> ?_) (fun pW=> ?_)
  .refine SR<|va (v:=B true) rfl<|aa<|aj<|oB O ?_ cG
   exact(ahC (d:=cQ) h0 ‹k<_› ‹_=true›).symm
  refine ak<|ax<|V (ay ajG O J)<|mI rfl<|aa<| ?_
  refine⟨k+1,aZ,fr5.u4.u4,(cG.sub (sQ sR)),(aK I aN),J,J,?_⟩
  exact ar3 h0 hno jV
 refine a7 (id:=0) rfl<|SR<|va (v:=B false) rfl<|aa<|aj<|oB O ?_ bU
 exact(amy (d:=cQ) fun j hj=>hno j J).symm
theorem HZ(K:Vu)(NV:ai.length<=1000)(hqn:qs.length<=1000)(hpl:UJ ai.length qs)(w:World)(hb:w.heap[n]?=some (.cells #[wr,vL,vt,vv,vy,vu,vq,I sn,vW,vU,vT,I cn,B sk,U wy,vd,vm] 111 (0,0)))(hv:Sl w vv 8 ai.length (ai.flatMap sU))(hq:Sl w vq 13 qs.length (qs.flatMap oT))(HY:Yp (Kw w) qs):Calls Tryz.prog 125 #[pt n] w (Lt K (fun K' u=>∃gr,mO gr=cr ai.length qs/\GrV K' u gr) w):=by
 refine eH func125 rfl rfl fun hH=>SR<|va (v:= .slice none 0 0) rfl<|aa<|SR<|aE (v:=Pn _ _) rfl<|V (af O)<|V (fA bM 3 O lz O)<|V (au dJ O O (hH.ed hb O))<|V (aA (hv.hp hH) O dJ O)<|yd ai.length ai.length hH (zn (f:=iW.v) (z0:=cD) kE O O O O (show _=Value.int .i64 ((ai.length:Nat):Int)from O) (show _=Value.int .i64 ((ai.length:Nat):Int)from O) aD J)<|fun b3 w1 aW=>have gE:=aW.IZ (i:=0) (n:=ai.length) (l:=List.replicate ai.length cD) (f:=iW.v) O az J;?_
 simp only[fO]at gE
 obtain⟨Rz,hRz⟩:∃R:List a8,R=[]:=⟨_,rfl⟩
 have bU:Hp _ _ (_::((List.replicate ai.length cD).map (dr 3)++Rz)):=Hp.oq (A:=[_]) (R:=Rz) (by rw[hRz];simpa using gE.aru 3 ai.length)
 refine V (run_assign bG) ?_
 refine aa<|ah<|SR<|aE (v:=Pn _ _) rfl<|V (af O)<|V (fA bM 6 O s4 O)<|V (au mj O O (bU.ed hb O))<|V (aA (hq.hp bU) O mj O)<|aE (v:=I 0) rfl<|aa<|aC<|bj (G:=Int×(List iW)×(List a8)) (fun⟨k,gs,Z1⟩ s' w'=>(Fr (5::(rg 17 25 [])) _ s')/\(Hp w w' (jq iW.v (.slice (some ⟨b3,0,none⟩) ai.length ai.length) 99 gs::Z1))/\(s' 17=I k)/\(0<=k)/\(k<=qs.length)/\(Z1=gs.map (dr 3)++Rz)/\(mO gs=cr ai.length (qs.take k.toNat))/\(∀x∈gs,x.l.length<=k.toNat)) (fun⟨k,gs,Z1⟩=>(qs.length-k).toNat) ((0,List.replicate ai.length cD,(((List.replicate ai.length cD).map (dr 3))++Rz))) ⟨Fr.refl _ _,bU,rfl,J,J,rfl,(by simp[mO,cr,cD]),(fun x hx=>by rw[(List.mem_replicate.1 hx).2];simp[cD])⟩<| ?_
 rintro⟨k,gs,Z1⟩ sg6 w6 ⟨MH,gT,IN,h0,hk,hz,S4,hgb⟩
 obtain⟨Y6,ajH,ajI⟩:=MH.w3 3 15 16
 subst hz
 have hgn:gs.length=ai.length:=by have:=aK List.length S4;rwa[eM,EG]at this
 refine SR<|V (aL IN ajI)<|aa<|ah<|aF O (fun h8=> ?_) (fun h8=> ?_)
 .refine ak<|ah<|aC<|SR<|V (ag (hq.hp gT) mj GC ajH IN J)<|V (dY (dv:=cQ) nM (hq.hp gT) iM O O O J)<|oY gT (bf Tryz.zeroValue128)<|fun b11 w9 bW=>bu bW (i:=0) O (eC (c':=(oT _).toArray) O O O (sK (HY.at J J)) (bW.blk (i:=0) O) O)<|fun PO iX=>aa<|SR<|V (cN (cs:=oT _) iM O O O (bp (iX.blk (i:=0) O)))<|aG O iX (mQ _ _ ((HY.at J J).mono iX.kw)) (aq call131 O)<|fun JZ dU=>aa<|bY O (fun MU=> ?_) (fun MU=> ?_)
  .have Wh:=hpl.at h0 ‹k<_› ‹Eb _=true›
   have aQY:=hgb _ (dc (d:=cD) (l:=gs) (k:=(xG (qs.getD k.toNat cQ))) J J)
   refine ez (z:=⟨none,_,_,_,_,none⟩) aM O aM dU (sP (sP (sA sR)))<|fun w20 fp=>have nS:=fp.sub (sP (sP (sA sR)));AQ 0 O nS (run_move Y6)<|AQ 1 O nS (fA iM 12 O cP O)<|AT 2 O nS (fun w hS=>bZ ((HY.at J J).vars.sl.hp hS) bg O O (hS.cell (i:=0) O O))<|AT 3 O nS (fun w hS=>ag ((HY.at J J).vars.sl.hp hS) bg bz O O J)<|AT 4 O nS (fun w hS=>au bx O O (((HY.at J J).vars.sl.hp hS).cell _ _ (dZ J)))<|AQ 5 O nS (run_move Y6)<|AQ 6 O nS (fA iM 12 O cP O)<|AT 7 O nS (fun w hS=>bZ ((HY.at J J).vars.sl.hp hS) bg O O (hS.cell (i:=0) O O))<|AT 8 O nS (fun w hS=>ag ((HY.at J J).vars.sl.hp hS) bg bz O O J)<|AT 9 O nS (fun w hS=>au bx O O (((HY.at J J).vars.sl.hp hS).cell _ _ (dZ J)))<|AT 10 O nS (fun w hS=>ag (hS.sl (i:=1) O) kE cP O (show _=I (xG (qs.getD k.toNat cQ))from O) J)<|AT 11 O nS (fun w hS=>au bg O O ((hS.sl (i:=1) O).cell _ _ (ke (dv:=cD) J)))<|AQ 12 O nS (fA iM 2 O po O)<|AQ 13 O nS (fA mY 0 O bz O)<|tI 14 O nS bx 0 O O rfl<|A1 15<|cY O aH O fp (sP (sP (sA sR))) (f:=fun b=> .slice (some ⟨b,0,none⟩) 1 1) (ct bg O O (sz:=1) (vs:=[I _]) O O aD aD O O)<|fun b24 S5 eN=> ?_
   (try simp only[oX]at eN)
   refine A1 16<|ahk (A:=[_,_,_]) (gs:=gs) (q:=(xG (qs.getD k.toNat cQ))) (a:=(qs.getD k.toNat cQ).to.var) (R:=Rz) O aH O eN (fun _=>(sQ (sP (sP (sA (sA sR)))))) J (eN.dQ (i:=0) (n:=1) (sz:=1) O O aD) O O bg O O (bytes:=8) O O O J aD<|fun v27 w28 gx=> ?_
   simp only[fH,er]at gx
   refine AT 17 O (gx.sub (sQ (sP (sP (sA sR))))) (fun w hS=>ag (hS.sl (i:=1) O) kE cP O (show _=I (xG (qs.getD k.toNat cQ))from O) J)<|AD<|have atX:=Hp.ar5 (A:=[_,_,_]) (gs:=gs) (q:=(xG (qs.getD k.toNat cQ))) (R:=Rz) gx J;px (f:=iW.v) (a:=⟨v27,(gs.getD ((xG (qs.getD k.toNat cQ))).toNat cD).l++[(qs.getD k.toNat cQ).to.var]⟩) gx (i:=2) O J O O atX.1 atX.2 rfl<|fun w30 l7=>aa<|ax<|V (ay IN O J)<|mI rfl<|aa<| ?_
   refine⟨(k+1,(gs.set ((xG (qs.getD k.toNat cQ))).toNat ⟨v27,(gs.getD ((xG (qs.getD k.toNat cQ))).toNat cD).l++[(qs.getD k.toNat cQ).to.var]⟩),(((gs.set ((xG (qs.getD k.toNat cQ))).toNat ⟨v27,(gs.getD ((xG (qs.getD k.toNat cQ))).toNat cD).l++[(qs.getD k.toNat cQ).to.var]⟩).map (dr 3))++Rz)),aZ,MH.u4.u4.u4.u4.u4.u4.u1.u1,(Hp.conv (l7.sub (sQ (sQ sR))) aN),(aK I aN),J,J,aN,?_,?_⟩
   ·(rw[Mj h0 ‹k<_›,grQ,aQ ‹Eb _=true›,<-S4,RO,zm])
   (rw[show(k+1).toNat=k.toNat+1 by omega];exact ahF hgb (by simp only[cV,gk];have:=hgb _ (dc (d:=cD) (l:=gs) (k:=(xG (qs.getD k.toNat cQ))) J J);omega))
  refine ak<|ax<|V (ay IN O J)<|mI rfl<|aa<| ?_
  refine⟨(k+1,gs,((gs.map (dr 3))++Rz)),aZ,MH.u4.u4,(Hp.conv (dU.sub (sQ sR)) aN),(aK I aN),J,J,aN,?_,?_⟩
  ·(rw[Mj h0 ‹k<_›,grQ,aP jV,<-S4])
  exact fun x hx=>by have:=hgb x hx;omega
 refine a7 (id:=0) rfl<|SR<|aE Y6<| ?_
 refine V (run_assign bG) ?_
 refine aa<|aj<| ?_
 obtain⟨Z33,atY,aGq⟩:=Hp.aEr (R:=Rz) K gT
 exact iG O O ⟨Z33,atY.sub (aek _ _),gs,(by rw[S4,iP J]),aGq⟩
theorem EU(hm:m<=100000)(NV:ai.length<=1000)(hqn:qs.length<=1000)(S2:aX.length=ai.length)(ni:(bk cs).length=ai.length)(hpl:UJ ai.length qs)(w:World)(hb:w.heap[n]?=some (.cells #[wr,vL,vt,vv,vy,vu,vq,I sn,vW,vU,vT,I cn,B sk,U wy,vd,vm] 111 (0,0)))(hv:Sl w vv 8 ai.length (ai.flatMap sU))(hy:Sl w vy 1 aX.length (aX.map U))(hq:Sl w vq 13 qs.length (qs.flatMap oT))(hW:Sl w vW 1 W.length (W.map U))(HY:Yp (Kw w) qs)(h:vF FX n m cs vW vU cW cU W ul ts cn L):Calls Tryz.prog 127 #[pt n] w (rV 35 1 ai.length ((BP (bk cs) aX ai.length qs).map U) w):=by
 have hfr:=h.find ni
 refine eH func127 rfl rfl fun hH=>SR<|va (v:= .slice none 0 0) rfl<|aa<|SR<|aE (v:=Pn _ _) rfl<|V (af O)<|V (fA bM 3 O lz O)<|V (au dJ O O (hH.ed hb O))<|V (aA (hv.hp hH) O dJ O)<|yd (ai.length) (ai.length) hH (zn (f:=U) (z0:=0#64) cS O O O O (show _=Value.int .i64 ((ai.length:Nat):Int)from O) (show _=Value.int .i64 ((ai.length:Nat):Int)from O) aD J)<|fun b3 w1 aW=>have gE:=aW.IZ (i:=0) (n:=ai.length) (l:=List.replicate (ai.length) 0#64) (f:=U) O az J;?_
 simp only[fO]at gE
 refine V (run_assign bG) ?_
 refine aa<|ah<|SR<|aE (v:=Pn _ _) rfl<|V (af O)<|V (fA bM 3 O lz O)<|V (au dJ O O (gE.ed hb O))<|V (aA (hv.hp gE) O dJ O)<|aE (v:=I 0) rfl<|aa<|aC<|bj (G:=Int×(List (BitVec 64))) (fun⟨k,o⟩ s' w'=>(Fr (4::(rg 18 21 [])) _ s')/\(Hp w w' (jq U (.slice (some ⟨b3,0,none⟩) (ai.length) (ai.length)) 35 o::_))/\(s' 18=I k)/\(0<=k)/\(k<=ai.length)/\(o=((List.range k.toNat).foldl (Ml (bk cs) aX) (List.replicate ai.length 0)))/\(o.length=ai.length)) (fun⟨k,o⟩=>(ai.length-k).toNat) ((0,List.replicate ai.length 0)) ⟨Fr.refl _ _,gE,rfl,J,J,aN,az⟩<| ?_
 rintro⟨k,o⟩ sg5 w5 ⟨fr5,bU,ajJ,h0,hk,ho,hol⟩
 obtain⟨YP,as0,azn,azo⟩:=fr5.w4 0 2 3 17
 have hf1:=hfr k
 refine SR<|V (aL ajJ azo)<|aa<|ah<|aF O (fun h7=> ?_) (fun h7=> ?_)
 .refine ak<|ah<|aC<|SR<|aE ajJ<|aI rfl<|aa<|ez (z:=⟨none,_,_,_,_,none⟩) aM O aM bU sR<|fun w8 iB=>have Nt:=iB;AQ 0 O Nt (run_move azn)<|AQ 1 O Nt (run_move YP)<|AQ 2 O Nt (af O)<|AQ 3 O Nt (fA bM 8 O m4 O)<|AQ 4 O Nt (mV (I _) O)<|AQ 8 O Nt (run_move YP)<|AQ 9 O Nt (af O)<|AQ 10 O Nt (fA bM 4 O iN O)<|AT 11 O Nt (fun w hS=>au cS O O (hS.ed hb O))<|AQ 12 O Nt (mV (I _) O)<|AT 13 O Nt (fun w hS=>ag (hy.hp hS) cS c8 O O J)<|AT 14 O Nt (fun w hS=>au dW O O ((hy.hp hS).cell _ _ (ke (dv:=0#64) J)))<|A1 5<|cJ O aH O iB sR (ER _ h J (iB.ext hb) (hW.hp iB)) (aJ D9 O O)<|fun Gk dF=>have jm:=dF;AT 6 O jm (fun w hS=>ag (hS.sl (i:=0) O) cS c8 O O J)<|AT 7 O jm (fun w hS=>au dW O O ((hS.sl (i:=0) O).cell _ _ (ke (dv:=0#64) J)))<|AQ 15 O jm (jC O O)<|AT 16 O jm (fun w hS=>ag (hS.sl (i:=0) O) cS c8 O O J)<|AD<|px dF (i:=0) O J O O O O rfl<|fun B7 cm=>aa<|ax<|V (ay ajJ O J)<|mI rfl<|aa<| ?_
  refine⟨(k+1,_),aZ,fr5.u4.u4.u4.u4.u4.u1.u1,(Hp.conv cm aN),(aK I aN),J,J,?_,?_⟩
  ·(rw[acT h0,<-ho];unfold Ml;rw[fN h0];rfl)
  (rw[mM];exact hol)
 refine a7 (id:=0) rfl<|ah<|SR<|aE YP<|V (af O)<|V (fA bM 6 O s4 O)<|V (au mj O O (bU.ed hb O))<|V (aA (hq.hp bU) O mj O)<|aE (v:=I 0) rfl<|aa<|aC<|have hoA:o=UK (bk cs) aX ai.length:=(by rw[ho,show k.toNat=ai.length by omega];rfl);bj (G:=Int×(List (BitVec 64))) (fun⟨k,o⟩ s' w'=>(Fr (6::(rg 44 49 [])) _ s')/\(Hp w w' (jq U (.slice (some ⟨b3,0,none⟩) (ai.length) (ai.length)) 35 o::_))/\(s' 44=I k)/\(0<=k)/\(k<=qs.length)/\(o=((qs.take k.toNat).foldl (I3 (bk cs)) (UK (bk cs) aX ai.length)))/\(o.length=ai.length)) (fun⟨k,o⟩=>(qs.length-k).toNat) ((0,o)) ⟨Fr.refl _ _,bU,rfl,J,J,(by rw[hoA];rfl),hol⟩<| ?_
 rintro⟨k,o⟩ YQ PO ⟨l6,cF,H6,h0,hk,ho,hol⟩
 obtain⟨atZ,at1⟩:=l6.w2 42 43
 obtain⟨ajK,j8⟩:=l6.t2 0 YP 3 azn
 refine SR<|V (aL H6 at1)<|aa<|ah<|aF O (fun yj=> ?_) (fun yj=> ?_)
 .refine ak<|ah<|aC<|SR<|V (ag (hq.hp cF) mj GC atZ H6 J)<|V (dY (dv:=cQ) nM (hq.hp cF) iM O O O J)<|oY cF (bf Tryz.zeroValue128)<|fun YU Sa dS=>bu dS (i:=0) O (eC (c':=(oT _).toArray) O O O (sK (HY.at J J)) (dS.blk (i:=0) O) O)<|fun S5 eN=>aa<|ah<|eF aM eN<|fun w24 oG=>AT 0 O oG (fun w hS=>cN (cs:=oT _) iM O O O (bp (hS.blk (i:=0) O)))<|A1 1<|cJ O aH O oG sR (mQ _ _ ((HY.at J J).mono oG.kw)) (aq call131 O)<|fun Vv dD=>have Sp:=dD;AQ 2 O Sp (mV (B _) O)<|KY (dj:=50) O (fun qQ=> ?_) (fun qQ=> ?_)
  .refine BQ 3 O O (bR (c:=true) qQ) dD (run_move ajK)<|BQ 4 O O (bR (c:=true) qQ) dD (af O)<|BQ 5 O O (bR (c:=true) qQ) dD (fA bM 8 O m4 O)<|BQ 6 O O (bR (c:=true) qQ) dD (fA iM 12 O cP O)<|AG 7 O O (bR (c:=true) qQ) dD (fun w hS=>bZ ((HY.at J J).vars.sl.hp hS) bg O O (hS.cell (i:=0) O O))<|AG 8 O O (bR (c:=true) qQ) dD (fun w hS=>ag ((HY.at J J).vars.sl.hp hS) bg bz O O QS)<|AG 9 O O (bR (c:=true) qQ) dD (fun w hS=>au bx O O (((HY.at J J).vars.sl.hp hS).cell _ _ (dZ QS)))<|BQ 11 O O (bR (c:=true) qQ) dD (run_move ajK)<|BQ 12 O O (bR (c:=true) qQ) dD (af O)<|BQ 13 O O (bR (c:=true) qQ) dD (fA bM 8 O m4 O)<|BQ 14 O O (bR (c:=true) qQ) dD (fA iM 2 O po O)<|BQ 15 O O (bR (c:=true) qQ) dD (fA mY 0 O bz O)<|AG 16 O O (bR (c:=true) qQ) dD (fun w hS=>au bx O O (hS.cell (i:=0) O (v:=I _) O))<|A1 10<|cJ O (Bv O (bR (c:=true) qQ)) O dD sR (ER _ h J (dD.ext hb) (hW.hp dD)) (aJ D9 O (show _=I (xG (qs.getD k.toNat cQ))from O))<|fun w30 l7=>A1 17<|cJ O (Bv O (bR (c:=true) qQ)) O l7 sR (ER _ h J (l7.ext hb) (hW.hp l7)) (aJ D9 O O)<|fun w32 jN=>BQ 18 O O (bR (c:=true) qQ) jN (bX O O)<|have Nz:=jN;AQ 19 O Nz (gI (bR (c:=true) qQ) (v:=B _) O)<|AQ 20 O Nz (mV (B _) O)<|Dl (dj:=68) O (fun C9=> ?_) (fun C9=> ?_)
   .refine BQ 21 O O (bT C9) jN (fA iM 12 O cP O)<|AG 22 O O (bT C9) jN (fun w hS=>bZ ((HY.at J J).vars.sl.hp hS) bg O O (hS.cell (i:=0) O O))<|AG 23 O O (bT C9) jN (fun w hS=>ag ((HY.at J J).vars.sl.hp hS) bg bz O O QS)<|AG 24 O O (bT C9) jN (fun w hS=>au bx O O (((HY.at J J).vars.sl.hp hS).cell _ _ (dZ QS)))<|BQ 25 O O (bT C9) jN (fA iM 2 O po O)<|BQ 26 O O (bT C9) jN (fA mY 0 O bz O)<|AG 27 O O (bT C9) jN (fun w hS=>au bx O O (hS.cell (i:=0) O (v:=I _) O))<|BQ 28 O O (bT C9) jN (jB (show _=I (xG (qs.getD k.toNat cQ))from O) O)<|AQ 29 O Nz (gI (bT C9) (v:=B _) O)<|AD<|aF O (fun h37=> ?_) (fun h37=> ?_)
    .have hin:IU (bk cs) (qs.getD k.toNat cQ)=true:=by unfold IU;simp_all
     have Wh:=hpl.at h0 ‹k<_› ‹Eb _=true›
     have hf1:=hfr _ ⟨Wh.2.1.1,Wh.2.1.2⟩
     have hf2:=hfr (qs.getD k.toNat cQ).to.var ⟨by have:=‹fl (bk cs) _=fl (bk cs) _›;by_cases c:0<=(qs.getD k.toNat cQ).to.var;exact c;exfalso;rw[Hz (i:=(qs.getD k.toNat cQ).to.var) (fun q=>c q.1)]at this;omega,Wh.2.2⟩
     refine ez (z:=⟨none,_,_,_,_,none⟩) aM O aM jN sR<|fun w38 nR=>have Cd:=nR;AQ 0 O Cd (run_move j8)<|AQ 1 O Cd (run_move ajK)<|AQ 2 O Cd (af O)<|AQ 3 O Cd (fA bM 8 O m4 O)<|AQ 4 O Cd (fA iM 2 O po O)<|AQ 5 O Cd (fA mY 0 O bz O)<|tI 6 O Cd bx 0 O O rfl<|AQ 10 O Cd (fA iM 11 O c8 O)<|AT 11 O Cd (fun w hS=>au dW O O (hS.cell (i:=0) O (v:=U _) O))<|A1 7<|cJ O aH O nR sR (ER _ h J (nR.ext hb) (hW.hp nR)) (aJ D9 O O)<|fun w40 jM=>have anK:=jM;AT 8 O anK (fun w hS=>ag (hS.sl (i:=1) O) cS c8 O O J)<|AT 9 O anK (fun w hS=>au dW O O ((hS.sl (i:=1) O).cell _ _ (ke (dv:=0#64) J)))<|AQ 12 O anK (jC O O)<|AT 13 O anK (fun w hS=>ag (hS.sl (i:=1) O) cS c8 O O J)<|AD<|px jM (i:=1) O J O O O O rfl<|fun w42 mz=>aa<|ax<|V (ay H6 O J)<|mI rfl<|aa<| ?_
     refine⟨(k+1,_),aZ,l6.u4.u4.u4.u4.u4.u4.u4.u4.u4.u4.u4.u4.u1.u1,(Hp.conv (mz.sub (sQ sR)) aN),(aK I aN),J,J,?_,?_⟩
     ·(rw[mE (d:=cQ) h0 ‹k<_›,<-ho];unfold I3;rw[aQ hin];rfl)
     (rw[mM];exact hol)
    refine ak<|ax<|V (ay H6 O J)<|mI rfl<|aa<|have hno:¬IU (bk cs) (qs.getD k.toNat cQ)=true:=Xi;?_
    refine⟨(k+1,o),aZ,l6.u4.u4.u4.u4.u4.u4.u4.u4.u4,(Hp.conv (jN.sub (sQ sR)) aN),(aK I aN),J,J,?_,?_⟩
    ·(rw[mE (d:=cQ) h0 ‹k<_›,<-ho];unfold I3;rw[aP hno])
    exact hol
   refine AK 21 O O (bF C9) jN<|AK 22 O O (bF C9) jN<|AK 23 O O (bF C9) jN<|AK 24 O O (bF C9) jN<|AK 25 O O (bF C9) jN<|AK 26 O O (bF C9) jN<|AK 27 O O (bF C9) jN<|AK 28 O O (bF C9) jN<|AQ 29 O Nz (dX (bF C9) (v:=B false) O)<|AD<|dh rfl<|ak<|ax<|V (ay H6 O J)<|mI rfl<|aa<|have hno:¬IU (bk cs) (qs.getD k.toNat cQ)=true:=Xi;?_
   refine⟨(k+1,o),aZ,l6.u4.u4.u4.u4.u4.u4.u4.u4.u4,(Hp.conv (jN.sub (sQ sR)) aN),(aK I aN),J,J,?_,?_⟩
   ·(rw[mE (d:=cQ) h0 ‹k<_›,<-ho];unfold I3;rw[aP hno])
   exact hol
  refine AK 3 O O (bR (c:=false) qQ) dD<|AK 4 O O (bR (c:=false) qQ) dD<|AK 5 O O (bR (c:=false) qQ) dD<|AK 6 O O (bR (c:=false) qQ) dD<|AK 7 O O (bR (c:=false) qQ) dD<|AK 8 O O (bR (c:=false) qQ) dD<|AK 9 O O (bR (c:=false) qQ) dD<|AK 10 O O (bR (c:=false) qQ) dD<|AK 11 O O (bR (c:=false) qQ) dD<|AK 12 O O (bR (c:=false) qQ) dD<|AK 13 O O (bR (c:=false) qQ) dD<|AK 14 O O (bR (c:=false) qQ) dD<|AK 15 O O (bR (c:=false) qQ) dD<|AK 16 O O (bR (c:=false) qQ) dD<|AK 17 O O (bR (c:=false) qQ) dD<|AK 18 O O (bR (c:=false) qQ) dD<|AQ 19 O Sp (dX (bR (c:=false) qQ) (v:=B false) O)<|AQ 20 O Sp (mV (B _) O)<|AK 21 O O O dD<|AK 22 O O O dD<|AK 23 O O O dD<|AK 24 O O O dD<|AK 25 O O O dD<|AK 26 O O O dD<|AK 27 O O O dD<|AK 28 O O O dD<|AQ 29 O Sp (dX O (v:=B false) O)<|AD<|dh rfl<|ak<|ax<|V (ay H6 O J)<|mI rfl<|aa<|have hno:¬IU (bk cs) (qs.getD k.toNat cQ)=true:=Xi;?_
  refine⟨(k+1,o),aZ,l6.u4.u4.u4.u4.u4.u4.u4.u4.u4,(Hp.conv (dD.sub (sQ sR)) aN),(aK I aN),J,J,?_,?_⟩
  ·(rw[mE (d:=cQ) h0 ‹k<_›,<-ho];unfold I3;rw[aP hno])
  exact hol
 refine a7 (id:=2) rfl<|SR<|aE j8<| ?_
 refine V (run_assign bG) ?_
 refine aa<|aj<|have eB:((qs.take k.toNat).foldl (I3 (bk cs)) (UK (bk cs) aX ai.length))=BP (bk cs) aX ai.length qs:=(by rw[iP J];rfl);N1 O O cF (i:=0) O hol (by rw[ho,eB])
theorem pE{W0:World}{b:Nat}{ql qi:Value}{cq:Option (Nat×Array Value)}{wl:List Int}{wi:List Bool}{L:List a8}(i:Int)(hi:0<=i/\i<wi.length)(Zb:wl.length<=100000000)(w:World)(hq:qO cq ql (wl.map I))(hH:Hp W0 w (wE b ql qi cq wl wi L)):Calls Tryz.prog 85 #[pt b,I i] w (iA fun u w'=>u= .tuple #[]/\∃(S8:Value) (S9:Option (Nat×Array Value)),qO S9 S8 (((oD (wl,wi) i).1).map I)/\Hp W0 w' (wE b (S8) qi (S9) ((oD (wl,wi) i).1) ((oD (wl,wi) i).2) L)):=by
 simp only[wE]at hH
 refine en func85 rfl rfl<|SR<|aE (v:=Pn _ _) rfl<|V (af O)<|V (fA yE 1 O Gz O)<|lV qa hH 0 O O rfl<|mI rfl<|V (ag (hH.sl (i:=2) O) qa mG O O J)<|V (au qb O O ((hH.sl (i:=2) O).cell _ _ (ke (dv:=false) J)))<|V (bO O)<|aa<|bY O (fun h3=> ?_) (fun h3=> ?_)
 .refine SR<|aE (v:=Pn _ _) rfl<|V (af O)<|V (fA yE 1 O Gz O)<|lV qa hH 0 O O rfl<|mI rfl<|V (ag (hH.sl (i:=2) O) qa mG O O J)<|px (a:=true) hH (i:=2) O J O O O O rfl<|fun w4 bU=>aa<|ax<|aE (v:=Pn _ _) rfl<|aE (v:=Pn _ _) rfl<|V (af O)<|V (fA yE 0 O cP O)<|lV bg bU 0 O O rfl<|mI rfl<|yd 1 1 bU (ct bg O O (sz:=1) (vs:=[I _]) O O aD aD O O)<|fun b8 w6 eD=> ?_
  (try simp only[oX]at eD)
  refine asa O eD (i:=2) O hq (eD.dQ (i:=0) (n:=1) (sz:=1) O O aD) O O bg O O (bytes:=8) O O O O J aD<|fun v9 c12 Gk adw dF=>V (af O)<|V (fA yE 0 O cP O)<|bu dF (i:=1) O (bL O O (v:=v9) O (gN (dF.slQ (i:=2) O adw)).2 (gN (dF.slQ (i:=2) O adw)).1 (dF.blk (i:=1) O) az)<|fun PO iX=> ?_
  simp only[fO,gU,iZ,fg,Nat.reduceAdd]at iX
  refine aa<|nW O ⟨rfl,v9,c12,?_,?_⟩
  .rw[aaG aR];exact adw
  rw[aaG aR];exact(iX.sub (sQ sR))
 refine ak<|nW O ⟨rfl,ql,cq,?_,?_⟩
 .rw[UM aR];exact hq
 rw[UM aR];exact(hH)
theorem Df{W0:World}{b:Nat}{ql qi:Value}{cq:Option (Nat×Array Value)}{wl:List Int}{wi:List Bool}{L:List a8}(x:Int)(hx:0<=x/\x<wi.length)(w:World)(hq:qO cq ql ((x::wl).map I))(hH:Hp W0 w (wE b ql qi cq (x::wl) wi L)):Calls Tryz.prog 87 #[pt b] w (iA fun u w'=>u=I x/\∃(S8:Value) (S9:Option (Nat×Array Value)),qO S9 S8 (wl.map I)/\Hp W0 w' (wE b (S8) qi (S9) wl (wi.set x.toNat false) L)):=by
 simp only[wE]at hH
 refine en func87 rfl rfl<|SR<|va (v:=I 0) rfl<|aa<|SR<|aE (v:=Pn _ _) rfl<|V (af O)<|V (fA yE 0 O cP O)<|lV bg hH 0 O O rfl<|V (ag (hH.slQ (i:=1) O hq) bg bz O O (by simp;done))<|V (au bx O O ((hH.slQ (i:=1) O hq).cell _ _ (dZ (by simp;done))))<|V (run_assign (show _=I x from O))<|aa<|SR<|aE (v:=Pn _ _) rfl<|aE (v:=Pn _ _) rfl<|V (af O)<|V (fA yE 0 O cP O)<|lV bg hH 0 O O rfl<|V (fW (hH.slQ (i:=1) O hq) bg bz O (q:=1) O iF)<|V (af O)<|V (fA yE 0 O cP O)<| ?_
 obtain⟨c1,CQ,rY⟩:=hH.aw5 (i:=1) (x0:=I x) (xs:=wl.map I) O hq
 have hs6:=rY.slQ (i:=1) O CQ
 refine bu rY (i:=0) O (bL O O (v:=om ql 1 1) O (gN hs6).2 (gN hs6).1 (rY.blk (i:=0) O) az)<|fun w4 bU=> ?_
 simp only[fO,gU,iZ,fg,Nat.reduceAdd]at bU
 refine aa<|SR<|aE (v:=Pn _ _) rfl<|V (af O)<|V (fA yE 1 O Gz O)<|lV qa bU 0 O O rfl<|mI rfl<|V (ag (bU.sl (i:=2) O) qa mG O O J)<|px (a:=false) bU (i:=2) O J O O O O rfl<|fun w7 fq=>aa<|SR<|mI rfl<|aI rfl<|aa<|aj<|iG O (v:=I x) O ⟨rfl,(om ql 1 1),c1,CQ,(fq)⟩
theorem EV{bw bh bn bv:Nat}{was:El}{had:BitVec 64}{v:Int}(hv:0<=v/\v<ai.length/\v<aX.length)(w:World)(hbw:a8.blk bw (.cells (jg was) 37 (0,0))∈L)(hbh:a8.blk bh (.cells #[U had] 35 (0,0))∈L)(Gl:a8.blk bn (.cells #[pt n] 31 (0,0))∈L)(hbv:a8.blk bv (.cells #[I v] 3 (0,0))∈L)(hH:Hp W0 w (nE n wr vL vt vv vy vu vq sn vW vU vT cn sk wy vd vm cW cU W ul ts an aT ai aX us qs lg tm L)):Calls Tryz.prog 193 #[.pointer (some ⟨bw,0,none⟩),.pointer (some ⟨bh,0,none⟩),.pointer (some ⟨bn,0,none⟩),.pointer (some ⟨bv,0,none⟩)] w (iA fun u w'=>u= .tuple #[]/\Hp W0 w' (nE n wr vL vt vv vy vu vq sn vW vU vT cn sk wy vd vm cW cU W ul ts an aT (ai.set v.toNat was) (aX.set v.toNat had) us qs lg tm L)):=by
 simp only[nE]at hH
 refine en func193 rfl rfl<|ez (z:=⟨none,_,_,_,_,none⟩) aM O aM hH (sP (sP (sP (sP (sP (sP (sQ sR)))))))<|fun w1 aW=>have fK:=aW.sub (sP (sP (sP (sP (sP (sP (sQ sR)))))));AT 0 O fK (fun w hS=>au cw O O (hS.gP (mT (mT (mT (mT (mT (mT (mT (mT (mT (mT (mT Gl))))))))))) (v:=Pn _ _) O))<|AQ 1 O fK (af O)<|AQ 2 O fK (fA bM 3 O lz O)<|tV 3 O fK dJ 0 O O rfl<|AT 4 O fK (fun w hS=>au bx O O (hS.gP (mT (mT (mT (mT (mT (mT (mT (mT (mT (mT (mT hbv))))))))))) (v:=I _) O))<|AT 5 O fK (fun w hS=>au cw O O (hS.gP (mT (mT (mT (mT (mT (mT (mT (mT (mT (mT (mT Gl))))))))))) (v:=Pn _ _) O))<|AQ 6 O fK (af O)<|AQ 7 O fK (fA bM 4 O iN O)<|tV 8 O fK cS 0 O O rfl<|AT 9 O fK (fun w hS=>au bx O O (hS.gP (mT (mT (mT (mT (mT (mT (mT (mT (mT (mT (mT hbv))))))))))) (v:=I _) O))<|AT 10 O fK (fun w hS=>dR cI O O O (hS.acB (mT (mT (mT (mT (mT (mT (mT (mT (mT (mT (mT hbw)))))))))))))<|AT 11 O fK (fun w hS=>au dW O O (hS.gP (mT (mT (mT (mT (mT (mT (mT (mT (mT (mT (mT hbh))))))))))) (v:=U _) O))<|A1 12<|cf O aH O aW (sP (sP (sP (sP (sP (sP (sQ sR))))))) (ag (aW.sl (i:=6) O) dJ gM O O J)<|A1 13<|Ym O aH fy aD aW (i:=6) O (fun _=>(sP (sP (sP (sP (sP (sP (sQ sR)))))))) J O ((rfl:_=Value.agg (jg _)).trans (by rw[hG])) (fun u hu=>wx _ u qf) rfl<|fun w7 fq=>AT 14 O (fq.sub (sP (sP (sP (sP (sP (sP (sQ sR)))))))) (fun w hS=>ag (hS.sl (i:=6) O) cS c8 O O J)<|AD<|px fq (i:=7) O J O O O O rfl<|fun w9 bW=>aa<|nW O ⟨rfl,(bW)⟩
theorem Dg{bw bn:Nat}{was:Int}(w:World)(hbw:a8.blk bw (.cells #[I was] 3 (0,0))∈L)(Gl:a8.blk bn (.cells #[pt n] 31 (0,0))∈L)(hH:Hp W0 w (nE n wr vL vt vv vy vu vq sn vW vU vT cn sk wy vd vm cW cU W ul ts an aT ai aX us qs lg tm L)):Calls Tryz.prog 88 #[.pointer (some ⟨bw,0,none⟩),.pointer (some ⟨bn,0,none⟩)] w (iA fun u w'=>u= .tuple #[]/\Hp W0 w' (nE n wr vL vt vv vy vu vq was vW vU vT cn sk wy vd vm cW cU W ul ts an aT ai aX us qs lg tm L)):=by
 simp only[nE]at hH
 refine en func88 rfl rfl<|ax<|V (au cw rfl rfl (hH.gP (mT (mT (mT (mT (mT (mT (mT (mT (mT (mT (mT (mT Gl)))))))))))) (v:=Pn _ _) O))<|V (au bx O O (hH.gP (mT (mT (mT (mT (mT (mT (mT (mT (mT (mT (mT (mT hbw)))))))))))) (v:=I _) O))<|V (af O)<|V (fA bM 7 O bz O)<|bu hH (i:=0) O (bL O O (v:=I _) O O O (hH.blk (i:=0) O) az)<|fun w1 aW=> ?_
 simp only[fO,gU,iZ,fg,Nat.reduceAdd]at aW
 refine aa<|nW O ⟨rfl,(aW)⟩
theorem Dh{bn:Nat}(w:World)(Gl:a8.blk bn (.cells #[pt n] 31 (0,0))∈L)(hH:Hp W0 w (nE n wr vL vt vv vy vu vq sn vW vU vT cn sk wy vd vm cW cU W ul ts an aT ai aX us qs lg tm L)):Calls Tryz.prog 45 #[.pointer (some ⟨bn,0,none⟩)] w (iA fun u w'=>u= .tuple #[]/\Hp W0 w' (nE n wr vL vt vv vy vu vq sn vW vU vT cn false (0) vd vm cW cU W ul ts an aT ai aX us qs lg tm L)):=by
 simp only[nE]at hH
 refine en func45 rfl rfl<|ez (z:=⟨none,_,_,_,_,none⟩) aM O aM hH (sQ sR)<|fun w1 aW=>have fK:=aW.sub (sQ sR);AT 0 O fK (fun w hS=>au cw O O (hS.gP (mT (mT (mT (mT (mT (mT (mT (mT (mT (mT (mT Gl))))))))))) (v:=Pn _ _) O))<|AT 1 O fK (fun w hS=>au cw O O (hS.gP (mT (mT (mT (mT (mT (mT (mT (mT (mT (mT (mT Gl))))))))))) (v:=Pn _ _) O))<|AQ 2 O fK (af O)<|AQ 3 O fK (fA bM 12 O mG O)<|A1 4<|ec O aH aW (j:=0) O (sQ sR) (bL O O (v:=B false) O O O (aW.blk (i:=0) O) az)<|fun w5 gT=> ?_
 simp only[fO,gU,iZ,fg,Nat.reduceAdd]at gT
 refine AQ 5 O (gT.sub (sQ sR)) (af O)<|AQ 6 O (gT.sub (sQ sR)) (fA bM 13 O c8 O)<|AD<|bu gT (i:=0) O (bL O O (v:=U 0#64) O O O (gT.blk (i:=0) O) az)<|fun w7 fq=> ?_
 simp only[fO,gU,iZ,fg,Nat.reduceAdd]at fq
 refine aa<|nW O ⟨rfl,(fq)⟩
theorem H7{bn bi:Nat}{i:Int}(hi:0<=i/\i<=an.length)(w:World)(Gl:a8.blk bn (.cells #[pt n] 31 (0,0))∈L)(hbi:a8.blk bi (.cells #[I i] 3 (0,0))∈L)(hH:Hp W0 w (nE n wr vL vt vv vy vu vq sn vW vU vT cn sk wy vd vm cW cU W ul ts an aT ai aX us qs lg tm L)):Calls Tryz.prog 54 #[.pointer (some ⟨bn,0,none⟩),.pointer (some ⟨bi,0,none⟩)] w (iA fun u w'=>u= .tuple #[]/\∃vL':Value,Hp W0 w' (nE n wr (vL') vt vv vy vu vq sn vW vU vT cn sk wy vd vm cW cU W ul ts (an.take i.toNat) aT ai aX us qs lg tm L)):=by
 simp only[nE]at hH
 refine en func54 rfl rfl<|ez (z:=⟨none,_,_,_,_,none⟩) aM O aM hH sR<|fun w1 aW=>have fK:=aW;AT 0 O fK (fun w hS=>au cw O O (hS.gP (mT (mT (mT (mT (mT (mT (mT (mT (mT (mT (mT (mT Gl)))))))))))) (v:=Pn _ _) O))<|AT 1 O fK (fun w hS=>au cw O O (hS.gP (mT (mT (mT (mT (mT (mT (mT (mT (mT (mT (mT (mT Gl)))))))))))) (v:=Pn _ _) O))<|AQ 2 O fK (af O)<|AQ 3 O fK (fA bM 1 O qd O)<|tV 4 O fK mN 0 O O rfl<|AT 5 O fK (fun w hS=>au bx O O (hS.gP (mT (mT (mT (mT (mT (mT (mT (mT (mT (mT (mT (mT hbi)))))))))))) (v:=I _) O))<|A1 6<|cf O aH O aW sR (tT (aW.sl (i:=4) O) mN KB O O J)<|AQ 7 O fK (af O)<|AQ 8 O fK (fA bM 1 O qd O)<|AD<|have eD:=Hp.ahh o7 aW (i:=4) O (m:=i.toNat) J;bu eD (i:=0) O (bL O O (v:=(kS vL (i.toNat))) O (aS (eD.get (i:=4) O)).1 (aS (eD.get (i:=4) O)).2 (eD.blk (i:=0) O) az)<|fun w5 gT=> ?_
 simp only[fO,gU,iZ,fg,Nat.reduceAdd]at gT
 refine aa<|nW O ⟨rfl,(kS vL (i.toNat)),(gT)⟩
theorem H8{b:Nat}{ql qi:Value}{cq:Option (Nat×Array Value)}{wl:List Int}{wi:List Bool}(v:Int)(e:El)(y:BitVec 64)(hv:0<=v/\v<ai.length)(S2:aX.length=ai.length)(NU:us.length=ai.length)(hlg:lg.length<=600000000000)(Zb:wl.length<=10000000)(hun:(us.getD v.toNat cD).l.length<=1000)(hui:∀i∈(us.getD v.toNat cD).l,0<=i/\i<wi.length)(hum:dr 3 (us.getD v.toNat cD)∈L)(w:World)(hq:qO cq ql (wl.map I))(hH:Hp W0 w (nE n wr vL vt vv vy vu vq sn vW vU vT cn sk wy vd vm cW cU W ul ts an aT ai aX us qs lg tm ((wE b ql qi cq wl wi L)))):Calls Tryz.prog 162 #[pt n,pt b,I v,.agg (jg e),U y] w (iA fun u w'=>u= .tuple #[]/\∃(f vd':Value) (S8:Value) (S9:Option (Nat×Array Value)) (Lb:List a8),ku NX n Lb (f,.raise v (ai.getD v.toNat dy) (aX.getD v.toNat 0))/\qO S9 S8 ((lG ai us (wl,wi) v e).1.map I)/\Hp W0 w' (nE n wr vL vt vv vy vu vq sn vW vU vT cn sk wy (vd') vm cW cU W ul ts an aT (ai.set v.toNat e) (aX.set v.toNat y) us qs (lg++[(f,.raise v (ai.getD v.toNat dy) (aX.getD v.toNat 0))]) tm ((wE b (S8) qi (S9) ((lG ai us (wl,wi) v e).1) ((lG ai us (wl,wi) v e).2) ((Lb++L)))))):=by
 simp only[wE]at hH
 simp only[nE]at hH
 refine en func162 rfl rfl<|SR<|iu hH (v:=Pn _ _) rfl<|fun b3 w1 aW=>iu aW (v:=I _) rfl<|fun b6 w4 bU=>iu bU (v:= .agg _) rfl<|fun b9 w7 fq=>aa<|ah<|ez (z:=⟨none,_,_,_,_,none⟩) aM O aM fq sR<|fun Gk dF=>have jm:=dF;tP 0 O jm cw 2 O O rfl<|AQ 1 O jm (af O)<|AQ 2 O jm (fA bM 3 O lz O)<|tV 3 O jm dJ 3 O O rfl<|tI 4 O jm bx 1 O O rfl<|AT 5 O jm (fun w hS=>ag (hS.sl (i:=9) O) dJ gM O O J)<|AT 6 O jm (fun w hS=>lC (hS.sl (i:=9) O) cI O O O J)<|tP 7 O jm cw 2 O O rfl<|AQ 8 O jm (af O)<|AQ 9 O jm (fA bM 4 O iN O)<|tV 10 O jm cS 3 O O rfl<|tI 11 O jm bx 1 O O rfl<|AT 12 O jm (fun w hS=>ag (hS.sl (i:=10) O) cS c8 O O J)<|AT 13 O jm (fun w hS=>au dW O O ((hS.sl (i:=10) O).cell _ _ (ke (dv:=0#64) J)))<|iy 14 15 aM ?_ ?_
 .refine cY O aH O dF sR (f:=fun b=> .pointer (some ⟨b,0,none⟩)) (bf jH)<|fun b14 B7 cm=>A1 15<|cY O aH O cm (sQ sR) (f:=fun b=> .pointer (some ⟨b,0,none⟩)) (bf Tryz.zeroValue35)<|fun b17 Wg cG=>A1 16<|ec O aH cG (j:=1) O (sQ (sQ sR)) (ey O O O (cG.blk (i:=1) O))<|fun S5 eN=>AD<|bu eN (i:=0) O (bL O O (v:=U _) O O O (eN.blk (i:=0) O) aD)<|fun Vv dD=>aa<|ah<|ez (z:=⟨none,_,_,_,_,none⟩) aM O aM dD (sP (sP (sP (sP (sP (sP (sP (sP (sP (sP (sP (sQ sR))))))))))))<|fun w28 gx=>have Da:=gx.sub (sP (sP (sP (sP (sP (sP (sP (sP (sP (sP (sP (sQ sR))))))))))));tP 0 O Da cw 4 O O rfl<|AQ 1 O Da (af O)<|AQ 2 O Da (fA bM 3 O lz O)<|tV 3 O Da dJ 5 O O rfl<|tI 4 O Da bx 3 O O rfl<|tP 5 O Da cw 4 O O rfl<|AQ 6 O Da (af O)<|AQ 7 O Da (fA bM 4 O iN O)<|tV 8 O Da cS 5 O O rfl<|tI 9 O Da bx 3 O O rfl<|AT 10 O Da (fun w hS=>dR cI O O O (hS.blk (i:=2) O))<|AQ 11 O Da (mV (U _) O)<|A1 12<|cf O aH O gx (sP (sP (sP (sP (sP (sP (sP (sP (sP (sP (sP (sQ sR)))))))))))) (ag (gx.sl (i:=11) O) dJ gM O O J)<|A1 13<|Ym O aH fy aD gx (i:=11) O (fun _=>(sP (sP (sP (sP (sP (sP (sP (sP (sP (sP (sP (sQ sR))))))))))))) J O ((rfl:_=Value.agg (jg _)).trans (by rw[hG])) (fun u hu=>wx _ u qf) rfl<|fun w34 yl=>AT 14 O (yl.sub (sP (sP (sP (sP (sP (sP (sP (sP (sP (sP (sP (sQ sR))))))))))))) (fun w hS=>ag (hS.sl (i:=11) O) cS c8 O O J)<|AD<|px yl (i:=12) O J O O O O rfl<|fun w36 vP=>aa<|SR<|lP cw vP 4 O O rfl<| ?_
  refine V (UA bG bG bG bG) ?_
  refine bV O (iq _ _ (.raise v (ai.getD v.toNat dy) (aX.getD v.toNat 0)) J _ (vP.pj [5,5,5,5,5,5,5,5,5,5,5,5])) (aJ yI O O) ?_
  rintro _ w40 ⟨rfl,v42,jM⟩
  simp only[nE]at jM
  have mz:=jM.pk [12,12,12,12,12]
  refine aa<|ah<|SR<|V (dR cI O O O (mz.blk (i:=1) O))<|V (dR cI O O O (mz.blk (i:=2) O))<|V (Hl B3 O O)<|aa<|aF O (fun h45=> ?_) (fun h45=> ?_)
  .refine aj<|nW O ⟨rfl,(jF 193 #[pt b14,pt b17,pt b3,pt b6]),v42,ql,cq,[a8.blk b14 (.cells (jg (ai.getD v.toNat dy)) 37 (0,0)),a8.blk b17 (.cells #[U (aX.getD v.toNat 0)] 35 (0,0)),a8.blk b3 (.cells #[pt n] 31 (0,0)),a8.blk b6 (.cells #[I v] 3 (0,0))],⟨b14,b17,b3,b6,rfl,az,az,az,az⟩,?_,?_⟩
   .rw[lG,aQ ‹qL _ e›];exact hq
   rw[lG,aQ ‹qL _ e›];exact((mz.sub (sP (sP (sQ sR)))).pj [4,4,4,4,4,4,4,4,4,4,4,4,4,4,4,1,0,1])
  refine ak<|ah<|eF aM mz<|fun w46 oa=>have Sz:=oa;tP 0 O Sz cw 4 O O rfl<|AQ 1 O Sz (af O)<|AQ 2 O Sz (fA bM 5 O qc O)<|tV 3 O Sz kE 5 O O rfl<|tI 4 O Sz bx 3 O O rfl<|AT 5 O Sz (fun w hS=>ag (hS.sl (i:=13) O) kE cP O O J)<|AT 6 O Sz (fun w hS=>au bg O O ((hS.sl (i:=13) O).cell _ _ (ke (dv:=cD) J)))<|AT 7 O Sz (fun w hS=>aA (hS.Ps (mT (mT (mT (mT (mT (mT (mT (mT (mT (mT (mT (mT (mT (mT (mT (mT (mT (mT (mT (mT hum))))))))))))))))))))) O bg O)<|AQ 8 O Sz (mV (I 0) O)<|AD<|aC<|bj (G:=Int×Value×(Option (Nat×Array Value))×(List Int)×(List Bool)) (fun⟨k,xH,A5,pD,me⟩ s' w'=>(Fr (13::(rg 56 8 [])) _ s')/\(Hp W0 w' (_::_::_::_::_::_::_::_::_::_::_::_::_::_::_::_::_:: .blk b (.cells #[xH,qi] 156 (0,0))::qE A5 xH 3 (pD.map I)::jq B qi 4 me::_))/\(s' 56=I k)/\(0<=k)/\(k<=(us.getD v.toNat cD).l.length)/\(qO A5 xH (pD.map I))/\((pD,me)=qP (wl,wi) ((us.getD v.toNat cD).l.take k.toNat))) (fun⟨k,xH,A5,pD,me⟩=>((us.getD v.toNat cD).l.length-k).toNat) ((0,ql,cq,wl,wi)) ⟨Fr.refl _ _,oa,rfl,J,J,hq,rfl⟩<| ?_
  rintro⟨k,xH,A5,pD,me⟩ aQ4 w48 ⟨azp,mW,Zu,h0,hk,MA,hp⟩
  obtain⟨azq,at2,at3⟩:=azp.w3 1 54 55
  have aGr:pD.length<=wl.length+1000:=by have:=aK (fun p=>p.1.length) hp;have h2:=FJ (l:=(us.getD v.toNat cD).l.take k.toNat) (p:=(wl,wi));simp only at this;rw[eo]at h2;simp only at h2;omega
  have aGs:me.length=wi.length:=by have:=aK (fun p=>p.2.length) hp;have h2:=xZ (l:=(us.getD v.toNat cD).l.take k.toNat) (p:=(wl,wi));simp only at this h2;omega
  refine SR<|V (aL Zu at3)<|aa<|ah<|aF O (fun h50=> ?_) (fun h50=> ?_)
  .refine ak<|ah<|aC<|SR<|V (ag (mW.Ps (mT (mT (mT (mT (mT (mT (mT (mT (mT (mT (mT (mT (mT (mT (mT (mT (mT (mT (mT (mT hum))))))))))))))))))))) bg bz at2 Zu J)<|V (au bx O O ((mW.Ps (mT (mT (mT (mT (mT (mT (mT (mT (mT (mT (mT (mT (mT (mT (mT (mT (mT (mT (mT (mT hum))))))))))))))))))))).cell _ _ (dZ J)))<|aI rfl<|aa<|ax<|aE azq<|mI rfl<|bV O (pE _ aex J _ MA (mW.pj [17,17,17])) (aJ call85 O O)<| ?_
   rintro _ w53 ⟨rfl,v55,c56,aGt,gy⟩
   simp only[wE]at gy
   have vh:=gy.pk [3,3,3,3,3,3,3,3,3,3,3,3,3,3,3,3,3]
   refine aa<|ax<|V (ay Zu O J)<|mI rfl<|aa<| ?_
   refine⟨(k+1,v55,c56,(oD (pD,me) ((us.getD v.toNat cD).l.getD k.toNat 0)).1,(oD (pD,me) ((us.getD v.toNat cD).l.getD k.toNat 0)).2),aZ,azp.u4.u4.u1,(Hp.conv vh aN),(aK I aN),J,J,?_,?_⟩
   .exact aGt
   (rw[PA h0 ‹k<_›,<-hp])
  refine a7 (id:=0) rfl<|nW O ⟨rfl,(jF 193 #[pt b14,pt b17,pt b3,pt b6]),v42,xH,A5,[a8.blk b14 (.cells (jg (ai.getD v.toNat dy)) 37 (0,0)),a8.blk b17 (.cells #[U (aX.getD v.toNat 0)] 35 (0,0)),a8.blk b3 (.cells #[pt n] 31 (0,0)),a8.blk b6 (.cells #[I v] 3 (0,0))],⟨b14,b17,b3,b6,rfl,az,az,az,az⟩,?_,?_⟩
  .rw[lG,aP ‹¬qL _ e›];rw[iP J]at hp;rw[<-hp];exact MA
  rw[lG,aP ‹¬qL _ e›];rw[iP J]at hp;rw[<-hp];exact((mW.sub (sP (sP (sQ sR)))).pj [4,4,4,4,4,4,4,4,4,4,4,4,4,4,4,1,0,1])
 refine cY O aH O dF sR (f:=fun b=> .pointer (some ⟨b,0,none⟩)) (bf Tryz.zeroValue35)<|fun b61 w59 Gc=>A1 14<|cY O aH O Gc (sQ sR) (f:=fun b=> .pointer (some ⟨b,0,none⟩)) (bf jH)<|fun b64 w62 pC=>A1 16<|ec O aH pC (j:=0) O (sQ (sQ sR)) (ey O O O (pC.blk (i:=0) O))<|fun w69 vk=>AD<|bu vk (i:=1) O (bL O O (v:=U _) O O O (vk.blk (i:=1) O) aD)<|fun w73 zS=>aa<|ah<|ez (z:=⟨none,_,_,_,_,none⟩) aM O aM zS (sP (sP (sP (sP (sP (sP (sP (sP (sP (sP (sP (sQ sR))))))))))))<|fun w75 qS=>have pY:=qS.sub (sP (sP (sP (sP (sP (sP (sP (sP (sP (sP (sP (sQ sR))))))))))));tP 0 O pY cw 4 O O rfl<|AQ 1 O pY (af O)<|AQ 2 O pY (fA bM 3 O lz O)<|tV 3 O pY dJ 5 O O rfl<|tI 4 O pY bx 3 O O rfl<|tP 5 O pY cw 4 O O rfl<|AQ 6 O pY (af O)<|AQ 7 O pY (fA bM 4 O iN O)<|tV 8 O pY cS 5 O O rfl<|tI 9 O pY bx 3 O O rfl<|AT 10 O pY (fun w hS=>dR cI O O O (hS.blk (i:=2) O))<|AQ 11 O pY (mV (U _) O)<|A1 12<|cf O aH O qS (sP (sP (sP (sP (sP (sP (sP (sP (sP (sP (sP (sQ sR)))))))))))) (ag (qS.sl (i:=11) O) dJ gM O O J)<|A1 13<|Ym O aH fy aD qS (i:=11) O (fun _=>(sP (sP (sP (sP (sP (sP (sP (sP (sP (sP (sP (sQ sR))))))))))))) J O ((rfl:_=Value.agg (jg _)).trans (by rw[hG])) (fun u hu=>wx _ u qf) rfl<|fun w81 tC=>AT 14 O (tC.sub (sP (sP (sP (sP (sP (sP (sP (sP (sP (sP (sP (sQ sR))))))))))))) (fun w hS=>ag (hS.sl (i:=11) O) cS c8 O O J)<|AD<|px tC (i:=12) O J O O O O rfl<|fun w83 oc=>aa<|SR<|lP cw oc 4 O O rfl<| ?_
 refine V (UA bG bG bG bG) ?_
 refine bV O (iq _ _ (.raise v (ai.getD v.toNat dy) (aX.getD v.toNat 0)) J _ (oc.pj [5,5,5,5,5,5,5,5,5,5,5,5])) (aJ yI O O) ?_
 rintro _ w87 ⟨rfl,v89,EO⟩
 simp only[nE]at EO
 have tD:=EO.pk [12,12,12,12,12]
 refine aa<|ah<|SR<|V (dR cI O O O (tD.blk (i:=0) O))<|V (dR cI O O O (tD.blk (i:=2) O))<|V (Hl B3 O O)<|aa<|aF O (fun h92=> ?_) (fun h92=> ?_)
 .refine aj<|nW O ⟨rfl,(jF 193 #[pt b64,pt b61,pt b3,pt b6]),v89,ql,cq,[a8.blk b64 (.cells (jg (ai.getD v.toNat dy)) 37 (0,0)),a8.blk b61 (.cells #[U (aX.getD v.toNat 0)] 35 (0,0)),a8.blk b3 (.cells #[pt n] 31 (0,0)),a8.blk b6 (.cells #[I v] 3 (0,0))],⟨b64,b61,b3,b6,rfl,az,az,az,az⟩,?_,?_⟩
  .rw[lG,aQ ‹qL _ e›];exact hq
  rw[lG,aQ ‹qL _ e›];exact((tD.sub (sP (sP (sQ sR)))).pj [4,4,4,4,4,4,4,4,4,4,4,4,4,4,4,0,0,1])
 refine ak<|ah<|eF aM tD<|fun w93 vY=>have SA:=vY;tP 0 O SA cw 4 O O rfl<|AQ 1 O SA (af O)<|AQ 2 O SA (fA bM 5 O qc O)<|tV 3 O SA kE 5 O O rfl<|tI 4 O SA bx 3 O O rfl<|AT 5 O SA (fun w hS=>ag (hS.sl (i:=13) O) kE cP O O J)<|AT 6 O SA (fun w hS=>au bg O O ((hS.sl (i:=13) O).cell _ _ (ke (dv:=cD) J)))<|AT 7 O SA (fun w hS=>aA (hS.Ps (mT (mT (mT (mT (mT (mT (mT (mT (mT (mT (mT (mT (mT (mT (mT (mT (mT (mT (mT (mT hum))))))))))))))))))))) O bg O)<|AQ 8 O SA (mV (I 0) O)<|AD<|aC<|bj (G:=Int×Value×(Option (Nat×Array Value))×(List Int)×(List Bool)) (fun⟨k,xH,A5,pD,me⟩ s' w'=>(Fr (13::(rg 56 8 [])) _ s')/\(Hp W0 w' (_::_::_::_::_::_::_::_::_::_::_::_::_::_::_::_::_:: .blk b (.cells #[xH,qi] 156 (0,0))::qE A5 xH 3 (pD.map I)::jq B qi 4 me::_))/\(s' 56=I k)/\(0<=k)/\(k<=(us.getD v.toNat cD).l.length)/\(qO A5 xH (pD.map I))/\((pD,me)=qP (wl,wi) ((us.getD v.toNat cD).l.take k.toNat))) (fun⟨k,xH,A5,pD,me⟩=>((us.getD v.toNat cD).l.length-k).toNat) ((0,ql,cq,wl,wi)) ⟨Fr.refl _ _,vY,rfl,J,J,hq,rfl⟩<| ?_
 rintro⟨k,xH,A5,pD,me⟩ aQ7 w95 ⟨azr,NA,Zv,h0,hk,MA,hp⟩
 obtain⟨azs,at4,at5⟩:=azr.w3 1 54 55
 have aGr:pD.length<=wl.length+1000:=by have:=aK (fun p=>p.1.length) hp;have h2:=FJ (l:=(us.getD v.toNat cD).l.take k.toNat) (p:=(wl,wi));simp only at this;rw[eo]at h2;simp only at h2;omega
 have aGs:me.length=wi.length:=by have:=aK (fun p=>p.2.length) hp;have h2:=xZ (l:=(us.getD v.toNat cD).l.take k.toNat) (p:=(wl,wi));simp only at this h2;omega
 refine SR<|V (aL Zv at5)<|aa<|ah<|aF O (fun h97=> ?_) (fun h97=> ?_)
 .refine ak<|ah<|aC<|SR<|V (ag (NA.Ps (mT (mT (mT (mT (mT (mT (mT (mT (mT (mT (mT (mT (mT (mT (mT (mT (mT (mT (mT (mT hum))))))))))))))))))))) bg bz at4 Zv J)<|V (au bx O O ((NA.Ps (mT (mT (mT (mT (mT (mT (mT (mT (mT (mT (mT (mT (mT (mT (mT (mT (mT (mT (mT (mT hum))))))))))))))))))))).cell _ _ (dZ J)))<|aI rfl<|aa<|ax<|aE azs<|mI rfl<|bV O (pE _ aex J _ MA (NA.pj [17,17,17])) (aJ call85 O O)<| ?_
  rintro _ atL ⟨rfl,aGu,aGv,azt,DQ⟩
  simp only[wE]at DQ
  have P6:=DQ.pk [3,3,3,3,3,3,3,3,3,3,3,3,3,3,3,3,3]
  refine aa<|ax<|V (ay Zv O J)<|mI rfl<|aa<| ?_
  refine⟨(k+1,aGu,aGv,(oD (pD,me) ((us.getD v.toNat cD).l.getD k.toNat 0)).1,(oD (pD,me) ((us.getD v.toNat cD).l.getD k.toNat 0)).2),aZ,azr.u4.u4.u1,(Hp.conv P6 aN),(aK I aN),J,J,?_,?_⟩
  .exact azt
  (rw[PA h0 ‹k<_›,<-hp])
 refine a7 (id:=0) rfl<|nW O ⟨rfl,(jF 193 #[pt b64,pt b61,pt b3,pt b6]),v89,xH,A5,[a8.blk b64 (.cells (jg (ai.getD v.toNat dy)) 37 (0,0)),a8.blk b61 (.cells #[U (aX.getD v.toNat 0)] 35 (0,0)),a8.blk b3 (.cells #[pt n] 31 (0,0)),a8.blk b6 (.cells #[I v] 3 (0,0))],⟨b64,b61,b3,b6,rfl,az,az,az,az⟩,?_,?_⟩
 .rw[lG,aP ‹¬qL _ e›];rw[iP J]at hp;rw[<-hp];exact MA
 rw[lG,aP ‹¬qL _ e›];rw[iP J]at hp;rw[<-hp];exact((NA.sub (sP (sP (sQ sR)))).pj [4,4,4,4,4,4,4,4,4,4,4,4,4,4,4,0,0,1])
theorem Aq{b:Nat}{ql qi:Value}{cq:Option (Nat×Array Value)}{wl:List Int}{wi:List Bool}(v:Int)(e:El)(y:BitVec 64)(hm:m<=100000)(S2:aX.length=ai.length)(NU:us.length=ai.length)(ni:(bk cs).length=ai.length)(NV:ai.length<=1000)(hlg:lg.length<=550000000000)(Zb:wl.length<=1000000)(vN:∀k:Nat,k<us.length->dr 3 (us.getD k cD)∈L/\(us.getD k cD).l.length<=1000/\∀i∈(us.getD k cD).l,0<=i/\i<wi.length)(w:World)(h:vF FX n m cs vW vU cW cU W ul ts cn L)(hq:qO cq ql (wl.map I))(hH:Hp W0 w (nE n wr vL vt vv vy vu vq sn vW vU vT cn sk wy vd vm cW cU W ul ts an aT ai aX us qs lg tm ((wE b ql qi cq wl wi L)))):Calls Tryz.prog 130 #[pt n,pt b,I v,.agg (jg e),U y] w (iA fun u w'=>u= .tuple #[]/\∃(vd':Value) (S8:Value) (S9:Option (Nat×Array Value)) (new:List (Value×jj)) (Lb:List a8),(∀x∈new,ku NX n Lb x/\EH x.2)/\new.length<=(bK (bk cs) v).length/\gh new (NP.mk an aT ai aX ((mO us)) qs sn cs sk wy wr) (NP.mk an aT ((xn ai us (wl,wi) (bK (bk cs) v) e).1) (fY aX (bK (bk cs) v) y) ((mO us)) qs sn cs sk wy wr)/\qO S9 S8 ((xn ai us (wl,wi) (bK (bk cs) v) e).2.1.map I)/\Hp W0 w' (nE n wr vL vt vv vy vu vq sn vW vU vT cn sk wy (vd') vm cW cU W ul ts an aT ((xn ai us (wl,wi) (bK (bk cs) v) e).1) (fY aX (bK (bk cs) v) y) us qs (lg++new) tm ((wE b (S8) qi (S9) ((xn ai us (wl,wi) (bK (bk cs) v) e).2.1) ((xn ai us (wl,wi) (bK (bk cs) v) e).2.2) ((Lb++L)))))):=by
 simp only[wE]at hH
 simp only[nE]at hH
 refine en func130 rfl rfl<|SR<|iu hH (v:= .agg _) rfl<|fun b3 w1 aW=>aa<|SR<|aE (v:=Pn _ _) rfl<|V (af O)<|V (fA bM 8 O m4 O)<|mI rfl<|Bt O aW (abh _ h J (aW.blk (i:=1) O) (aW.xY (i:=2) O h.hW)) (aJ call129 O O)<|fun v6 w4 bU=>V (aA (bU.sl (i:=0) O) O bg O)<|aE (v:=I 0) rfl<|aa<|aC<|have aQ9:=uZ (cl:=bk cs) (i:=v);bj (G:=Int×Value×Value×(Option (Nat×Array Value))×(List El)×(List (BitVec 64))×(List Int)×(List Bool)×(List (Value×jj))×(List a8)×(List a8)) (fun⟨k,VQ,xH,A5,cX,eA,pD,me,new,Lb,Z1⟩ s' w'=>(Fr (11::(rg 18 11 [])) _ s')/\(Hp W0 w' (.row v6 3 1 (bK (bk cs) v).length ((bK (bk cs) v).map I):: .blk b3 (.cells (Value.agg (jg e)).cells 37 (0,0)):: .blk n (.cells #[wr,vL,vt,vv,vy,vu,vq,I sn,vW,vU,vT,I cn,B sk,U wy,VQ,vm] 111 (0,0))::cE cW vW 35 (W.map U)::cE cU vU 1 (ul.map Prod.fst)::jq I vT 3 ts::uV We 13 vL 119 an::jq I vt 3 aT::uV sU 8 vv 37 cX::jq U vy 35 eA::jq iW.v vu 99 us::uV oT 13 vq 128 qs::jq Prod.fst VQ 1 (lg++new)::jq I vm 3 tm:: .blk b (.cells #[xH,qi] 156 (0,0))::qE A5 xH 3 (pD.map I)::jq B qi 4 me::Z1))/\(s' 18=I k)/\(0<=k)/\(k<=(bK (bk cs) v).length)/\(qO A5 xH (pD.map I))/\((cX,(pD,me))=(xn ai us (wl,wi) ((bK (bk cs) v).take k.toNat) e))/\(eA=fY aX ((bK (bk cs) v).take k.toNat) y)/\(Z1=Lb++L)/\(∀x∈new,ku NX n Lb x/\EH x.2)/\(new.length<=k.toNat)/\(gh new (NP.mk an aT ai aX ((mO us)) qs sn cs sk wy wr) (NP.mk an aT cX eA ((mO us)) qs sn cs sk wy wr))) (fun⟨k,VQ,xH,A5,cX,eA,pD,me,new,Lb,Z1⟩=>((bK (bk cs) v).length-k).toNat) ((0,vd,ql,cq,ai,aX,wl,wi,[],[],L)) ⟨Fr.refl _ _,(by rw[kV];exact bU),rfl,J,J,hq,rfl,rfl,rfl,(fun x hx=>by cases hx),lW _,gh.nil _⟩<| ?_
 rintro⟨k,VQ,xH,A5,cX,eA,pD,me,new,Lb,Z1⟩ sg7 w7 ⟨E2,eD,ajL,h0,hk,MA,hp,hy2,hz,Ta,hnl,hbk⟩
 obtain⟨ET,adr,HP,atz,azu,azv⟩:=E2.w6 0 1 4 8 16 17
 subst hz
 have e1:cX=fY ai ((bK (bk cs) v).take k.toNat) e:=by have:=aK Prod.fst hp;rw[x7]at this;exact this
 have lv1:cX.length=ai.length:=by rw[e1,iK]
 have lw1:eA.length=ai.length:=by rw[hy2,iK];exact S2
 have li1:me.length=wi.length:=by have:=aK (fun p=>p.2.2.length) hp;rw[JV]at this;exact this
 have ll1:pD.length<=wl.length+1000*k.toNat:=by have:=aK (fun p=>p.2.1.length) hp;have h2:=ahI (e:=e) (p:=(wl,wi)) (ai:=ai) (fun k hk=>(vN k hk).2.1) (ks:=(bK (bk cs) v).take k.toNat) (fun q hq=>by have:=lY (uu hq);omega);rw[eo]at h2;simp only at this h2;omega
 refine SR<|V (aL ajL azv)<|aa<|ah<|aF O (fun h9=> ?_) (fun h9=> ?_)
 .refine ak<|ah<|aC<|SR<|have hkm:=lY (dc (d:=0) h0 ‹k<_›);V (ag (eD.sl (i:=0) O) bg bz azu ajL J)<|V (au bx O O ((eD.sl (i:=0) O).cell _ _ (dZ J)))<|aI rfl<|aa<|ax<|aE ET<|aE adr<|mI rfl<|V (dR cI O O atz (eD.blk (i:=1) O))<|aE HP<|bV O (H8 _ _ _ J J J Ec J (vN _ J).2.1 (fun i hi=>by have:=(vN _ J).2.2 i hi;omega) (by(repeat apply fw);exact bt _ (vN _ J).1) _ MA (eD.pj [2,2,2,2,2,2,2,2,2,2,2,2,2,2,2])) (ru call162 O O O O O)<| ?_
  rintro _ Vo ⟨rfl,f12,aGw,q14,c15,azw,aGx,aGy,NY⟩
  simp only[nE,wE]at NY
  have fp:=Hp.lN (A:=[_,_,_,_,_,_,_,_,_,_,_,_,_,_,_]) (R:=[_,_]) NY
  simp only[fH,er]at fp
  have dm:=fp.pk [15,15]
  refine aa<|ax<|V (ay ajL O J)<|mI rfl<|aa<| ?_
  refine⟨(k+1,aGw,q14,c15,cX.set ((bK (bk cs) v).getD k.toNat 0).toNat e,eA.set ((bK (bk cs) v).getD k.toNat 0).toNat y,(lG cX us (pD,me) ((bK (bk cs) v).getD k.toNat 0) e).1,(lG cX us (pD,me) ((bK (bk cs) v).getD k.toNat 0) e).2,new++[(f12,.raise ((bK (bk cs) v).getD k.toNat 0) (cX.getD ((bK (bk cs) v).getD k.toNat 0).toNat dy) (eA.getD ((bK (bk cs) v).getD k.toNat 0).toNat 0))],azw++Lb,(azw++(Lb++L))),aZ,E2.u4.u4.u4,(Hp.conv dm (by simp only[dg];rfl)),(aK I aN),J,J,?_,?_,?_,?_,?_,?_,?_⟩
  .exact aGy
  ·(rw[ahH h0 ‹k<_›,<-hp];rfl)
  ·(rw[BL h0 ‹k<_›,<-hy2])
  ·(rw[dg])
  ·(intro x hx;rcases eP.1 hx with q|q;exact⟨(Ta x q).1.mono (fun e he=>bt _ he),(Ta x q).2⟩;rw[fZ.1 q];exact⟨aGx.mono fun e he=>dx _ he,trivial⟩)
  ·(rw[cV,gk];omega)
  exact hbk.trans (Yq (s:=(NP.mk an aT cX eA ((mO us)) qs sn cs sk wy wr)) (by show _/\_<(cX.length:Int);omega) (by show _<(eA.length:Int);omega))
 refine a7 (id:=0) O ?_
 rw[iP J]at hp hy2
 have e2:=aK Prod.fst hp
 have e3:=aK Prod.snd hp
 have e4:=aK Prod.fst e3
 have e5:=aK Prod.snd e3
 simp only at e2 e4 e5
 have eN:=(eD.sub (sQ (sQ sR)))
 rw[e2,hy2,e4,e5]at eN
 rw[e4]at MA
 rw[e2,hy2]at hbk
 exact nW O ⟨rfl,VQ,xH,A5,new,Lb,Ta,J,hbk,MA,eN⟩
theorem EW{bn bm:Nat}{i:Int}{R:List a8}(hm:m<=100000)(w:World)(Gl:a8.blk bn (.cells #[pt n] 31 (0,0))∈(R++L))(hbm:a8.blk bm (.cells #[I i] 3 (0,0))∈(R++L))(h:vF FX n m cs vW vU cW cU W ul ts cn L)(hH:Hp W0 w (nE n wr vL vt vv vy vu vq sn vW vU vT cn sk wy vd vm cW cU W ul ts an aT ai aX us qs lg tm ((R++L)))):Calls Tryz.prog 157 #[.pointer (some ⟨bn,0,none⟩),.pointer (some ⟨bm,0,none⟩)] w (iA fun u w'=>u= .tuple #[]/\∃(IJ IK S7:Value) (Nu Nv:Option (Nat×Array Value)) (W':List (BitVec 64)) (wK:List (Value×jo)) (ts':List Int) (Nw:Int) (Lb:List a8),vF FX n (m) ((Ac cs i).1) IJ IK Nu Nv W' wK ts' Nw (Lb++L)/\Hp W0 w' (nE n wr vL vt vv vy vu vq sn (IJ) (IK) (S7) (Nw) sk wy vd vm (Nu) (Nv) (W') (wK) (ts') an aT ai aX us qs lg tm ((R++(Lb++L))))):=by
 simp only[nE]at hH
 refine en func157 rfl rfl<|ez (z:=⟨some _,_,_,_,_,none⟩) aM O aM hH sR<|fun w1 aW=>have fK:=aW;AT 0 O fK (fun w hS=>au cw O O (hS.gP (mT (mT (mT (mT (mT (mT (mT (mT (mT (mT (mT (mT Gl)))))))))))) (v:=Pn _ _) O))<|AQ 1 O fK (af O)<|AQ 2 O fK (fA bM 8 O m4 O)<|AT 3 O fK (fun w hS=>au bx O O (hS.gP (mT (mT (mT (mT (mT (mT (mT (mT (mT (mT (mT (mT hbm)))))))))))) (v:=I _) O))<|AD<|bV O (ajC _ h J (R:=([_,_,_,_,_,_,_,_]++R)) aW) (aJ call49 O O)<| ?_
 rintro _ JZ ⟨rfl,vW5,vU6,vT7,cW8,cU9,W10,aGA,aGB,aGC,aGD,azx,dU⟩
 have jy:=Hp.lN (A:=[_,_,_,_]) (R:=([_,_,_,_,_,_,_,_]++R)) dU
 simp only[fH,er]at jy
 refine aa<|nW O ⟨rfl,vW5,vU6,vT7,cW8,cU9,W10,aGA,aGB,aGC,aGD,azx,(jy)⟩
theorem H9{R:List a8}(v k:Int)(hm:m<=100000)(hlg:lg.length<=550000000000)(w:World)(h:vF FX n m cs vW vU cW cU W ul ts cn L)(hH:Hp W0 w (nE n wr vL vt vv vy vu vq sn vW vU vT cn sk wy vd vm cW cU W ul ts an aT ai aX us qs lg tm ((R++L)))):Calls Tryz.prog 126 #[pt n,I v,I k] w (iA fun u w'=>u= .tuple #[]/\∃(IJ IK S7:Value) (Nu Nv:Option (Nat×Array Value)) (W':List (BitVec 64)) (wK:List (Value×jo)) (ts':List Int) (Nw:Int) (vd':Value) (new:List (Value×jj)) (Lb:List a8),vF FX n (m+(if(iT cs v k).2 then 1 else 0)) ((iT cs v k).1) IJ IK Nu Nv W' wK ts' Nw (Lb++L)/\(∀x∈new,ku NX n Lb x/\EH x.2)/\new.length<=1/\gh new (NP.mk an aT ai aX ((mO us)) qs sn cs sk wy wr) (NP.mk an aT ai aX ((mO us)) qs sn ((iT cs v k).1) sk wy wr)/\Hp W0 w' (nE n wr vL vt vv vy vu vq sn (IJ) (IK) (S7) (Nw) sk wy (vd') vm (Nu) (Nv) (W') (wK) (ts') an aT ai aX us qs (lg++new) tm ((R++(Lb++L))))):=by
 simp only[nE]at hH
 refine en func126 rfl rfl<|SR<|iu hH (v:=Pn _ _) rfl<|fun b3 w1 aW=>aa<|SR<|lP cw aW 0 O O rfl<|V (af O)<|V (fA bM 8 O m4 O)<|aG O aW (ajB h J (aW.blk (i:=1) O) (aW.xY (i:=2) O h.hW) (aW.sl (i:=4) O)) (aq call46 O)<|fun w4 bU=>oY bU (bf Tryz.zeroValue3)<|fun b8 w6 eD=>bu eD (i:=0) O (bL O O (v:=I _) O O O (eD.blk (i:=0) O) aD)<|fun ID cK=>aa<|SR<|lP cw cK 1 O O rfl<|V (af O)<|V (fA bM 8 O m4 O)<|mI rfl<|mI rfl<|bV O (anI _ _ h J (R:=([_,_,_,_,_,_,_,_,_,_]++R)) (cK.pj [2,2,2,2])) (bB call156 O O O)<| ?_
 rintro _ Vv ⟨rfl,azy,azz,azA,azB,azC,W20,azD,azE,azF,azG,abi,dD⟩
 have gx:=Hp.lN (A:=[_,_,_,_]) (R:=([_,_,_,_,_,_,_,_,_,_]++R)) dD
 simp only[fH,er]at gx
 have jx:=gx.pk [4,4]
 refine aa<|bY O (fun HS=> ?_) (fun HS=> ?_)
 .refine ax<|lP cw jx 1 O O rfl<| ?_
  refine V (r6 bG bG) ?_
  refine bV O (iq _ _ (.merge ((cs.length:Int)-1)) J _ (jx.pj [2,2,2,2,2,2,2,2,2,2,2,2])) (aJ yI O O) ?_
  rintro _ w35 ⟨rfl,v37,nO⟩
  simp only[nE]at nO
  have vV:=nO.pk [12,12]
  refine aa<|nW O ⟨rfl,azy,azz,azA,azB,azC,W20,azD,azE,azF,v37,[((jF 157 #[pt b3,pt b8]),.merge ((cs.length:Int)-1))],[a8.blk b3 (.cells #[pt n] 31 (0,0)),a8.blk b8 (.cells #[I ((cs.length:Int)-1)] 3 (0,0))]++azG,abi.mono (fun e he=>by rw[dg];exact bt _ he),(fun x hx=>by rw[fZ.1 hx];exact⟨⟨_,_,rfl,az,az⟩,trivial⟩),eG _,Yr (s:=(NP.mk an aT ai aX ((mO us)) qs sn cs sk wy wr)) h.ne ‹_=true›,(Hp.lN (A:=[_,_,_,_,_,_,_,_,_,_,_,_]) (B:=[_,_]) (R:=R) ((vV).pj [2,2,2,2,2,2,2,2,2,2,2,2,1]))⟩
 refine ak<|nW O ⟨rfl,azy,azz,azA,azB,azC,W20,azD,azE,azF,vd,[],azG,abi,(fun x hx=>by cases hx),lW _,(by rw[acV aR];exact gh.nil _),by rw[kV];exact(jx.sub (sQ (sQ sR)))⟩
theorem Jj{b:Nat}{ql qi:Value}{cq:Option (Nat×Array Value)}{wl:List Int}{wi:List Bool}{ids:List Nat}{tl:List (Nat×Rl)}{f:Ct}{nk:Nat}{Zf R:List a8}(q:de)(hm:m<=100000)(S2:aX.length=ai.length)(NU:us.length=ai.length)(ni:(bk cs).length=ai.length)(NV:ai.length<=1000)(hlg:lg.length<=500000000000)(Zb:wl.length<=1000000)(vN:∀k:Nat,k<us.length->dr 3 (us.getD k cD)∈R/\(us.getD k cD).l.length<=1000/\∀i∈(us.getD k cD).l,0<=i/\i<wi.length)(hf:EC nk f)(hnk:nk<=100000000000)(hql:0<=q.aT/\q.aT<an.length)(anL:q.code.length<=1000)(hqt:q.to.var<ai.length)(hqp:Eb q=true->0<q.vars.length/\0<=xG q/\xG q<ai.length)(hvs:∀v∈q.vars,0<=v/\v<ai.length)(w:World)(hT:oh W0)(hlv:UQ TX (Kz (Kw W0) R) ids tl an)(hZ:kA (AH fr) ids f tl Zf)(uf:zv (Kz (Kw W0) R) q)(h:vF FX n m cs vW vU cW cU W ul ts cn R)(hq:qO cq ql (wl.map I))(hH:Hp W0 w (nE n wr vL vt vv vy vu vq sn vW vU vT cn sk wy vd vm cW cU W ul ts an aT ai aX us qs lg tm ((wE b ql qi cq wl wi ((Zf++R)))))):Calls Tryz.prog 86 #[pt n,pt b,.agg (oT q).toArray] w (iA fun u w'=>∃(r:LkO) (vd':Value) (S8:Value) (S9:Option (Nat×Array Value)) (new:List (Value×jj)) (Lb Z':List a8),mP (bk cs) us (an.getD q.aT.toNat oK).p.sh q ai aX wl wi wy=r/\u=B r.ok/\(∀x∈new,ku NX n Lb x/\EH x.2)/\new.length<=(bK (bk cs) q.to.var).length/\gh new (NP.mk an aT ai aX ((mO us)) qs sn cs sk (r.wy) wr) (NP.mk an aT (r.ai) (r.aX) ((mO us)) qs sn cs sk (r.wy) wr)/\kA (AH fr) ids (UR (an.getD q.aT.toNat oK).d r.ks f) tl Z'/\qO S9 S8 (r.wl.map I)/\Hp W0 w' (nE n wr vL vt vv vy vu vq sn vW vU vT cn sk (r.wy) (vd') vm cW cU W ul ts an aT (r.ai) (r.aX) us qs (lg++new) tm ((wE b (S8) qi (S9) (r.wl) (r.wi) ((Z'++(Lb++R))))))):=by
 have hlc:=hlv.at hql.1 hql.2
 obtain⟨f1,f2,f3,a1,a2,a3,i1,i2,i3⟩:=hlc.ops.one
 have hone:∀u∈[(an.getD q.aT.toNat oK).e,(an.getD q.aT.toNat oK).l,(an.getD q.aT.toNat oK).j].toArray,u.oneCell'=true:=by rw[i1,i2,i3];intro u hu;simp only[Kk,cZ,Gu,Bg]at hu;rcases hu with rfl|rfl|rfl<;>rfl
 have hvw:∀v∈q.vars,0<=v/\v<aX.length:=fun v hv=>by have:=hvs v hv;omega
 simp only[wE]at hH
 simp only[nE]at hH
 refine en func86 rfl rfl<|SR<|iu hH (v:= .agg _) rfl<|fun b3 w1 aW=>va (v:=B false) rfl<|aa<|Et (G:=Unit) aW (6::(rg 11 20 [])) (fun(L:List a8) (_u:Unit)=>L) (fun(_u:Unit) s'=>(skQ (bk cs) q=false)) ?_ ?_
 .refine ah<|eF aM aW<|fun w4 bU=>AT 0 O bU (fun w hS=>cN (cs:=oT _) iM O O O (bp (hS.blk (i:=0) O)))<|A1 1<|cJ O aH O bU sR (mQ _ _ (uf.mono (bU.kz (Le.refl _) (fun x hx=>(mT (mT (mT (mT (mT (mT (mT (mT (mT (mT (mT (mT (mT (mT (mT (mT (bt _ hx))))))))))))))))))))) (aq call131 O)<|fun w6 eD=>have zh7:=eD;AQ 2 O zh7 (mV (B _) O)<|KY (dj:=13) O (fun h9=> ?_) (fun h9=> ?_)
  .refine BQ 3 O O (bR (c:=true) h9) eD (mV (Pn _ _) O)<|BQ 4 O O (bR (c:=true) h9) eD (af O)<|BQ 5 O O (bR (c:=true) h9) eD (fA bM 8 O m4 O)<|BQ 6 O O (bR (c:=true) h9) eD (fA iM 12 O cP O)<|AG 7 O O (bR (c:=true) h9) eD (fun w hS=>bZ (uf.vars.mono (hS.kz (Le.refl _) (fun x hx=>(mT (mT (mT (mT (mT (mT (mT (mT (mT (mT (mT (mT (mT (mT (mT (mT (bt _ hx)))))))))))))))))))).sl bg O O (hS.cell (i:=0) O O))<|AG 8 O O (bR (c:=true) h9) eD (fun w hS=>ag (uf.vars.mono (hS.kz (Le.refl _) (fun x hx=>(mT (mT (mT (mT (mT (mT (mT (mT (mT (mT (mT (mT (mT (mT (mT (mT (bt _ hx)))))))))))))))))))).sl bg bz O O (by have:=hqp ‹Eb _=true›;omega))<|AG 9 O O (bR (c:=true) h9) eD (fun w hS=>au bx O O ((uf.vars.mono (hS.kz (Le.refl _) (fun x hx=>(mT (mT (mT (mT (mT (mT (mT (mT (mT (mT (mT (mT (mT (mT (mT (mT (bt _ hx)))))))))))))))))))).sl.cell _ _ (dZ (by have:=hqp ‹Eb _=true›;omega))))<|BQ 11 O O (bR (c:=true) h9) eD (mV (Pn _ _) O)<|BQ 12 O O (bR (c:=true) h9) eD (af O)<|BQ 13 O O (bR (c:=true) h9) eD (fA bM 8 O m4 O)<|BQ 14 O O (bR (c:=true) h9) eD (fA iM 2 O po O)<|BQ 15 O O (bR (c:=true) h9) eD (fA mY 0 O bz O)<|AG 16 O O (bR (c:=true) h9) eD (fun w hS=>au bx O O (hS.cell (i:=0) O (v:=I _) O))<|A1 10<|cJ O (Bv O (bR (c:=true) h9)) O eD sR (ER _ h J (eD.blk (i:=1) O) (eD.xY (i:=2) O h.hW)) (aJ D9 O (show _=I (xG q)from O))<|fun Gk dF=>A1 17<|cJ O (Bv O (bR (c:=true) h9)) O dF sR (ER _ h J (dF.blk (i:=1) O) (dF.xY (i:=2) O h.hW)) (aJ D9 O O)<|fun B7 cm=>BQ 18 O O (bR (c:=true) h9) cm (bX O O)<|AQ 19 O cm (gI (bR (c:=true) h9) (v:=B _) O)<|AD<|aF O (fun Ja=> ?_) (fun Ja=> ?_)
   .refine SR<|va (v:=B true) rfl<|aa<|aj<|iG (v:=B true) O O ⟨⟨true,ai,aX,wl,wi,wy,[]⟩,vd,ql,cq,[],[],Zf,?_,rfl,?_,?_,?_,hZ,?_,(by rw[kV];exact(cm.sub (sQ sR)))⟩
    .exact aQ (by simp[skQ, *])
    .exact fun x hx=>by cases hx
    .exact lW _
    .exact gh.nil _
    exact hq
   refine ak ?_
   refine⟨((Fr.refl _ _)).u4.u4.u4.u4.u4,(),cm,?_⟩
   (simp[skQ, *];done)
  refine AK 3 O O (bR (c:=false) h9) eD<|AK 4 O O (bR (c:=false) h9) eD<|AK 5 O O (bR (c:=false) h9) eD<|AK 6 O O (bR (c:=false) h9) eD<|AK 7 O O (bR (c:=false) h9) eD<|AK 8 O O (bR (c:=false) h9) eD<|AK 9 O O (bR (c:=false) h9) eD<|AK 10 O O (bR (c:=false) h9) eD<|AK 11 O O (bR (c:=false) h9) eD<|AK 12 O O (bR (c:=false) h9) eD<|AK 13 O O (bR (c:=false) h9) eD<|AK 14 O O (bR (c:=false) h9) eD<|AK 15 O O (bR (c:=false) h9) eD<|AK 16 O O (bR (c:=false) h9) eD<|AK 17 O O (bR (c:=false) h9) eD<|AK 18 O O (bR (c:=false) h9) eD<|AQ 19 O zh7 (dX (bR (c:=false) h9) (v:=B false) O)<|AD<|dh rfl<|ak<| ?_
  refine⟨((Fr.refl _ _)).u4.u4.u4.u4.u4,(),eD,?_⟩
  (simp[skQ, *];done)
 rintro _u adp JZ oZ cG tL
 obtain⟨ajM,wH,DF⟩:=oZ.w3 0 1 5
 refine ah<|ez (z:=⟨none,_,_,_,_,none⟩) aM O aM cG sR<|fun Sa dS=>have pX:=dS;AQ 0 O pX (run_move ajM)<|AQ 1 O pX (af O)<|AQ 2 O pX (fA bM 1 O qd O)<|tV 3 O pX mN 1 O O rfl<|AQ 4 O pX (fA iM 0 O bz DF)<|tI 5 O pX bx 0 O O rfl<|AT 6 O pX (fun w hS=>ag (hS.sl (i:=5) O) mN KB O O J)<|AQ 7 O pX (fA Bc 2 O sizeOf117 O)<|AT 8 O pX (fun w hS=>oO (dv:=oK) (off:=2) (cs:=[_,_,_]) o7 (hS.sl (i:=5) O) p9 O O O J (aga O))<|A1 9<|cY O aH O dS sR (f:=fun b=> .pointer (some ⟨b,0,none⟩)) (bf Vi)<|fun b21 Vo cL=>AD<|bu cL (i:=0) O (eC O O O hone (cL.blk (i:=0) O) O)<|fun S5 eN=>aa<|Et (G:=(Nat)×(List a8)) eN (8::9::(rg 40 12 [])) (fun(L:List a8) (⟨q8,Z1⟩:(Nat)×(List a8))=> .blk q8 (.cells (Value.agg (jg (lkE (an.getD q.aT.toNat oK).p.sh q ai))).cells 37 (0,0))::(L.take 17++(Z1++R))) (fun(⟨q8,Z1⟩:(Nat)×(List a8)) s'=>(s' 8= .pointer (some ⟨q8,0,none⟩))/\(kA (AH fr) ids (Wr.tick .e (an.getD q.aT.toNat oK).d f) tl Z1)) ?_ ?_
 .refine gY aM eN (sP (sP (sP (sP (sP (sP (sP (sP (sP (sP (sP (sP (sP (sP (sP (sP (sP (sA sR))))))))))))))))))<|fun w24 oG=>have VR:=oG.sub (sP (sP (sP (sP (sP (sP (sP (sP (sP (sP (sP (sP (sP (sP (sP (sP (sP (sA sR))))))))))))))))));AQ 0 O VR (fA p9 0 O sizeOf114 O)<|tV 1 O VR QD 0 O O rfl<|AQ 2 O VR (fA iM 1 O Bi DF)<|AT 3 O VR (fun w hS=>bZ (uf.code.mono (hS.kz (Le.refl _) (fun x hx=>(mT (mT (mT (mT (mT (mT (mT (mT (mT (mT (mT (mT (mT (mT (mT (mT (mT hx)))))))))))))))))))).sl iE O O (hS.cell (i:=1) O O))<|AQ 4 O VR (run_move ajM)<|AQ 5 O VR (af O)<|AQ 6 O VR (fA bM 3 O lz O)<|tV 7 O VR dJ 2 O O rfl<|iy 8 12 aM ?_ ?_
  .obtain⟨aRi,aGF,at6,azH,azI⟩:=ajn W0 ids tl hT _ _ _ _ anL _ _ f Zf ([_,_,_,_,_,_,_,_,_,_,_,_,_,_,_,_,_]++R) _ _ _ _ (hlc.ops.mono (Le.zz (fun x hx=>bt _ hx))) hlc.Ek hZ hf GQ (fun Z' w' h0=>by have h':Hp W0 w' (_::_::_::_::_::_::_::_::_::_::_::_::_::_::_::_::_::(Z'++R)):=Hp.oq (A:=[_,_,_,_,_,_,_,_,_,_,_,_,_,_,_,_,_]) h0;exact(uf.code.mono (h'.kz (Le.refl _) (fun x hx=>(mT (mT (mT (mT (mT (mT (mT (mT (mT (mT (mT (mT (mT (mT (mT (mT (mT (bt _ hx))))))))))))))))))))).sl) (fun Z' w' h0=>by have h':Hp W0 w' (_::_::_::_::_::_::_::_::_::_::_::_::_::_::_::_::_::(Z'++R)):=Hp.oq (A:=[_,_,_,_,_,_,_,_,_,_,_,_,_,_,_,_,_]) h0;exact(h'.sl (i:=8) O)) (Hp.rK (A:=[_,_,_,_,_,_,_,_,_,_,_,_,_,_,_,_,_]) (Zf:=Zf) (R:=R) oG)
   refine th O aH O azI (iH azH (cs:=aGF) at6 O O) (fun u w' ⟨_,Z',_,h⟩=>Hp.sub (L:=_::_::_::_::_::_::_::_::_::_::_::_::_::_::_::_::_::(Z'++R)) (Hp.oq (A:=[_,_,_,_,_,_,_,_,_,_,_,_,_,_,_,_,_]) h) (sP (sP (sP (sP (sP (sP (sP (sP (sP (sP (sP (sP (sP (sP (sP (sP (sP (sA sR))))))))))))))))))) ?_
   rintro x38 w33 ⟨azJ,Z36,aGG,h34⟩
   have yl:Hp _ w33 (_::_::_::_::_::_::_::_::_::_::_::_::_::_::_::_::_::(Z36++R)):=Hp.oq (A:=[_,_,_,_,_,_,_,_,_,_,_,_,_,_,_,_,_]) h34
   rw[hlc.sh]at azJ
   subst azJ
   have at7:=yl.sub (sP (sP (sP (sP (sP (sP (sP (sP (sP (sP (sP (sP (sP (sP (sP (sP (sP (sA sR))))))))))))))))))
   refine AQ 9 O at7 (run_move bG) ?_
   refine AQ 10 O at7 (bA O (v:= .agg _) O)<|AQ 11 O at7 (bA O (v:=B _) O)<|A1 12<|cY O aH O yl (sP (sP (sP (sP (sP (sP (sP (sP (sP (sP (sP (sP (sP (sP (sP (sP (sP (sA sR)))))))))))))))))) (f:=fun b=> .pointer (some ⟨b,0,none⟩)) (bf jH)<|fun b44 w42 mz=>A1 13<|ec O aH mz (j:=0) O (sQ (sP (sP (sP (sP (sP (sP (sP (sP (sP (sP (sP (sP (sP (sP (sP (sP (sP (sA sR))))))))))))))))))) (ey O O O (mz.blk (i:=0) O))<|fun w49 eS=>AQ 14 O (eS.sub (sQ (sP (sP (sP (sP (sP (sP (sP (sP (sP (sP (sP (sP (sP (sP (sP (sP (sP (sA sR)))))))))))))))))))) (aV (B _) O)<|AD<| ?_
   refine⟨((Fr.refl _ _)).u4.u4.u4.u1.u1,(b44,Z36),(Hp.conv eS aN),rfl,?_⟩
   exact aGG
  refine cY O aH O oG (sP (sP (sP (sP (sP (sP (sP (sP (sP (sP (sP (sP (sP (sP (sP (sP (sP (sA sR)))))))))))))))))) (f:=fun b=> .pointer (some ⟨b,0,none⟩)) (bf jH)<|fun b53 w51 ajN=>A1 8<| ?_
  obtain⟨aRl,aGH,aGI,azK,azL⟩:=ajn W0 ids tl hT _ _ _ _ anL _ _ f Zf ([_,_,_,_,_,_,_,_,_,_,_,_,_,_,_,_,_,_]++R) _ _ _ _ (hlc.ops.mono (Le.zz (fun x hx=>bt _ hx))) hlc.Ek hZ hf GQ (fun Z' w' h0=>by have h':Hp W0 w' (_::_::_::_::_::_::_::_::_::_::_::_::_::_::_::_::_::_::(Z'++R)):=Hp.oq (A:=[_,_,_,_,_,_,_,_,_,_,_,_,_,_,_,_,_,_]) h0;exact(uf.code.mono (h'.kz (Le.refl _) (fun x hx=>(mT (mT (mT (mT (mT (mT (mT (mT (mT (mT (mT (mT (mT (mT (mT (mT (mT (mT (bt _ hx)))))))))))))))))))))).sl) (fun Z' w' h0=>by have h':Hp W0 w' (_::_::_::_::_::_::_::_::_::_::_::_::_::_::_::_::_::_::(Z'++R)):=Hp.oq (A:=[_,_,_,_,_,_,_,_,_,_,_,_,_,_,_,_,_,_]) h0;exact(h'.sl (i:=9) O)) (Hp.rK (A:=[_,_,_,_,_,_,_,_,_,_,_,_,_,_,_,_,_,_]) (Zf:=Zf) (R:=R) ajN)
  refine th O aH O azL (iH azK (cs:=aGH) aGI O O) (fun u w' ⟨_,Z',_,h⟩=>Hp.sub (L:=_::_::_::_::_::_::_::_::_::_::_::_::_::_::_::_::_::_::(Z'++R)) (Hp.oq (A:=[_,_,_,_,_,_,_,_,_,_,_,_,_,_,_,_,_,_]) h) (sQ (sP (sP (sP (sP (sP (sP (sP (sP (sP (sP (sP (sP (sP (sP (sP (sP (sP (sA sR)))))))))))))))))))) ?_
  rintro x66 w61 ⟨azM,Z64,aGJ,h62⟩
  have pC:Hp _ w61 (_::_::_::_::_::_::_::_::_::_::_::_::_::_::_::_::_::_::(Z64++R)):=Hp.oq (A:=[_,_,_,_,_,_,_,_,_,_,_,_,_,_,_,_,_,_]) h62
  rw[hlc.sh]at azM
  subst azM
  have at8:=pC.sub (sQ (sP (sP (sP (sP (sP (sP (sP (sP (sP (sP (sP (sP (sP (sP (sP (sP (sP (sA sR)))))))))))))))))))
  refine AQ 9 O at8 (run_move bG) ?_
  refine AQ 10 O at8 (bA O (v:= .agg _) O)<|AQ 11 O at8 (bA O (v:=B _) O)<|A1 13<|ec O aH pC (j:=0) O (sQ (sP (sP (sP (sP (sP (sP (sP (sP (sP (sP (sP (sP (sP (sP (sP (sP (sP (sA sR))))))))))))))))))) (ey O O O (pC.blk (i:=0) O))<|fun w74 F7=>AQ 14 O (F7.sub (sQ (sP (sP (sP (sP (sP (sP (sP (sP (sP (sP (sP (sP (sP (sP (sP (sP (sP (sA sR)))))))))))))))))))) (aV (B _) O)<|AD<| ?_
  refine⟨((Fr.refl _ _)).u4.u4.u4.u1.u1,(b53,Z64),(Hp.conv F7 aN),rfl,?_⟩
  exact aGJ
 rintro⟨q8,Z1⟩ aRm w76 azN qS ⟨ajO,J2⟩
 simp only[Gm,wS,fH,er]at qS
 have ajP:=azN.w1 7
 obtain⟨P7,azO,NB⟩:=azN.t3 0 ajM 1 wH 5 DF
 refine ah<|SR<|V (fA iM 2 O po NB)<|V (fA mY 0 O bz O)<|lI bx qS 2 O O rfl<|V (aL O O)<|aa<|aF O (fun h78=> ?_) (fun h78=> ?_)
 .refine ah<|SR<|V (fA p9 1 O sizeOf65 ajP)<|lV Ku qS 1 O O rfl<|V (dR cI O O ajO (qS.blk (i:=0) O))<|V (fA iM 2 O po NB)<|V (fA mY 1 O gM O)<|V (iI (sub:=sU _) cI O O O (qS.blk (i:=2) O) O)<| ?_
  obtain⟨aRo,aGK,aGL,azP,azQ⟩:=ajo W0 ids tl hT _ _ _ _ (Wr.tick .e (an.getD q.aT.toNat oK).d f) Z1 ([_,_,_,_,_,_,_,_,_,_,_,_,_,_,_,_,_,_]++R) _ _ _ _ (hlc.ops.mono (Le.zz (fun x hx=>bt _ hx))) hlc.Ek J2 (hf.aap _) GQ (Hp.rK (A:=[_,_,_,_,_,_,_,_,_,_,_,_,_,_,_,_,_,_]) (Zf:=Z1) (R:=R) qS)
  refine bV O azQ (iH azP (cs:=aGK) aGL O (jA (b:=Value.agg (sU q.to.c).toArray) O (aK Value.agg (hG q.to.c).symm))) ?_
  rintro x89 w84 ⟨aGM,Z87,azR,h85⟩
  have vX:Hp _ w84 (_::_::_::_::_::_::_::_::_::_::_::_::_::_::_::_::_::_::(Z87++R)):=Hp.oq (A:=[_,_,_,_,_,_,_,_,_,_,_,_,_,_,_,_,_,_]) h85
  subst aGM
  refine V (bO O)<|aa<|bY O (fun h93=> ?_) (fun h93=> ?_)
  .refine SR<|aE P7<|aE P7<|V (cN (cs:=oT _) iM O O NB (bp (vX.blk (i:=2) O)))<|aG O vX (wM _ (hvw) _ (vX.blk (i:=3) O) (vX.sl (i:=10) O) (uf.mono (vX.kz (Le.refl _) (fun x hx=>(mT (mT (mT (mT (mT (mT (mT (mT (mT (mT (mT (mT (mT (mT (mT (mT (mT (mT (bt _ hx))))))))))))))))))))))) (aJ call132 O O)<|fun w94 NA=>V (af O)<|V (fA bM 13 O c8 O)<|bu NA (i:=3) O (bL O O (v:=U _) O O O (NA.blk (i:=3) O) az)<|fun w96 SB=> ?_
   simp only[fO,gU,iZ,fg,Nat.reduceAdd]at SB
   refine aa<|SR<|va (v:=B false) rfl<|aa<|aj<|iG (v:=B false) O O ⟨⟨false,ai,aX,wl,wi,orW q.why aX q.vars,[.e,.l]⟩,vd,ql,cq,[],[],Z87,?_,rfl,?_,?_,?_,azR,?_,(by rw[kV];exact(SB.sub (sQ (sQ (sQ sR)))))⟩
   .exact(aP QX).trans ((aQ aR).trans (aP (by simpa using‹(!cR _ _)=true›)))
   .exact fun x hx=>by cases hx
   .exact lW _
   .exact gh.nil _
   exact hq
  refine ak<|SR<|va (v:=B true) rfl<|aa<|aj<|iG (v:=B true) O O ⟨⟨true,ai,aX,wl,wi,wy,[.e,.l]⟩,vd,ql,cq,[],[],Z87,?_,rfl,?_,?_,?_,azR,?_,(by rw[kV];exact(vX.sub (sQ (sQ (sQ sR)))))⟩
  .exact(aP QX).trans ((aQ aR).trans (aQ (by simpa using‹(!cR _ _)=false›)))
  .exact fun x hx=>by cases hx
  .exact lW _
  .exact gh.nil _
  exact hq
 refine ak<|ah<|ez (z:=⟨none,_,_,_,_,none⟩) aM O aM qS sR<|fun w98 adD=>have SC:=adD;AQ 0 O SC (run_move P7)<|AQ 1 O SC (af O)<|AQ 2 O SC (fA bM 3 O lz O)<|tV 3 O SC dJ 3 O O rfl<|AQ 4 O SC (fA iM 2 O po NB)<|AQ 5 O SC (fA mY 0 O bz O)<|tI 6 O SC bx 2 O O rfl<|AT 7 O SC (fun w hS=>ag (hS.sl (i:=9) O) dJ gM O O J)<|AT 8 O SC (fun w hS=>lC (hS.sl (i:=9) O) cI O O O J)<|A1 9<|cY O aH O adD sR (f:=fun b=> .pointer (some ⟨b,0,none⟩)) (bf jH)<|fun aRt atL DQ=>AD<|bu DQ (i:=0) O (ey O O O (DQ.blk (i:=0) O))<|fun atN vz=>aa<|ah<|SR<|V (fA p9 1 O sizeOf65 ajP)<|lV Ku vz 2 O O rfl<|V (dR cI O O ajO (vz.blk (i:=1) O))<|V (dR cI O O O (vz.blk (i:=0) O))<| ?_
 obtain⟨aMg,azS,azT,at9,aua⟩:=ajo W0 ids tl hT _ _ _ _ (Wr.tick .e (an.getD q.aT.toNat oK).d f) Z1 ([_,_,_,_,_,_,_,_,_,_,_,_,_,_,_,_,_,_,_]++R) _ _ _ _ (hlc.ops.mono (Le.zz (fun x hx=>bt _ hx))) hlc.Ek J2 (hf.aap _) GQ (Hp.rK (A:=[_,_,_,_,_,_,_,_,_,_,_,_,_,_,_,_,_,_,_]) (Zf:=Z1) (R:=R) vz)
 refine bV O aua (iH at9 (cs:=azS) azT O O) ?_
 rintro aRu anM ⟨azU,anN,apV,aub⟩
 have DM:Hp _ anM (_::_::_::_::_::_::_::_::_::_::_::_::_::_::_::_::_::_::_::(anN++R)):=Hp.oq (A:=[_,_,_,_,_,_,_,_,_,_,_,_,_,_,_,_,_,_,_]) aub
 subst azU
 refine V (bO O)<|aa<|bY O (fun auc=> ?_) (fun auc=> ?_)
 .refine ez (z:=⟨some _,_,_,_,_,none⟩) aM O aM DM (sP (sP (sP (sP (sP (sP (sP (sP (sP (sP (sP (sP (sP (sP (sP (sP (sP (sP (sP (sA sR))))))))))))))))))))<|fun aRv IP=>have pT:=IP.sub (sP (sP (sP (sP (sP (sP (sP (sP (sP (sP (sP (sP (sP (sP (sP (sP (sP (sP (sP (sA sR))))))))))))))))))));AQ 0 O pT (run_move P7)<|AQ 1 O pT (run_move azO)<|AQ 2 O pT (fA iM 2 O po NB)<|AQ 3 O pT (fA mY 0 O bz O)<|tI 4 O pT bx 3 O O rfl<|AQ 5 O pT (fA p9 2 O sizeOf115 ajP)<|tV 6 O pT Kq 2 O O rfl<|AT 7 O pT (fun w hS=>dR cI O O O (hS.blk (i:=0) O))<|AT 8 O pT (fun w hS=>dR cI O O ajO (hS.blk (i:=1) O))<|AQ 10 O pT (run_move P7)<|AQ 11 O pT (af O)<|AQ 12 O pT (fA bM 4 O iN O)<|tV 13 O pT cS 4 O O rfl<|AQ 14 O pT (fA iM 2 O po NB)<|AQ 15 O pT (fA mY 0 O bz O)<|tI 16 O pT bx 3 O O rfl<|AT 17 O pT (fun w hS=>ag (hS.sl (i:=11) O) cS c8 O O J)<|AT 18 O pT (fun w hS=>au dW O O ((hS.sl (i:=11) O).cell _ _ (ke (dv:=0#64) J)))<|AQ 19 O pT (run_move P7)<|AT 20 O pT (fun w hS=>cN (cs:=oT _) iM O O NB (bp (hS.blk (i:=3) O)))<|A1 9<| ?_
  obtain⟨aMh,azV,azW,aud,aue⟩:=ajp W0 ids tl hT _ _ _ _ (Wr.tick .l (an.getD q.aT.toNat oK).d (Wr.tick .e (an.getD q.aT.toNat oK).d f)) anN ([_,_,_,_,_,_,_,_,_,_,_,_,_,_,_,_,_,_,_]++R) _ _ _ _ (hlc.ops.mono (Le.zz (fun x hx=>bt _ hx))) hlc.Ek apV ((hf.aap _).aap _) GQ (Hp.rK (A:=[_,_,_,_,_,_,_,_,_,_,_,_,_,_,_,_,_,_,_]) (Zf:=anN) (R:=R) IP)
  refine th O aH O aue (iH aud (cs:=azV) azW O O) (fun u w' ⟨_,Z',_,h⟩=>Hp.sub (L:=_::_::_::_::_::_::_::_::_::_::_::_::_::_::_::_::_::_::_::(Z'++R)) (Hp.oq (A:=[_,_,_,_,_,_,_,_,_,_,_,_,_,_,_,_,_,_,_]) h) (sP (sP (sP (sP (sP (sP (sP (sP (sP (sP (sP (sP (sP (sP (sP (sP (sP (sP (sP (sA sR))))))))))))))))))))) ?_
  rintro aRw auf ⟨apW,aug,azX,aGO⟩
  have P8:Hp _ auf (_::_::_::_::_::_::_::_::_::_::_::_::_::_::_::_::_::_::_::(aug++R)):=Hp.oq (A:=[_,_,_,_,_,_,_,_,_,_,_,_,_,_,_,_,_,_,_]) aGO
  rw[aoY hlc.Ek hlc.sh]at apW
  subst apW
  refine A1 21<|cJ O aH O P8 (sP (sP (sP (sP (sP (sP (sP (sP (sP (sP (sP (sP (sP (sP (sP (sP (sP (sP (sP (sA sR)))))))))))))))))))) (wM _ (hvw) _ (P8.blk (i:=4) O) (P8.sl (i:=11) O) (uf.mono (P8.kz (Le.refl _) (fun x hx=>(mT (mT (mT (mT (mT (mT (mT (mT (mT (mT (mT (mT (mT (mT (mT (mT (mT (mT (mT (bt _ hx)))))))))))))))))))))))) (aJ call132 O O)<|fun aGP apX=>AQ 22 O (apX.sub (sP (sP (sP (sP (sP (sP (sP (sP (sP (sP (sP (sP (sP (sP (sP (sP (sP (sP (sP (sA sR))))))))))))))))))))) (jC O O)<|AD<|bV O (Aq _ _ _ J J J J J J J (fun k hk=>⟨by(repeat apply fw);exact bt _ (vN k hk).1,(vN k hk).2⟩) _ (h.mono fun e he=>by(repeat apply fw);exact bt _ he) hq (apX.pj [4,4,4,4,4,4,4,4,4,4,4,4,4,4,4])) (ru call130 O O O O O)<| ?_
  rintro _ aGQ ⟨rfl,azY,aGR,aGS,apY,apZ,azZ,az0,ajQ,az1,az2⟩
  simp only[nE,wE]at az2
  have IQ:=Hp.lN (A:=[_,_,_,_,_,_,_,_,_,_,_,_,_,_,_]) (R:=[_,_,_,_]) az2
  simp only[fH,er]at IQ
  have az3:=IQ.pk [15,15,15,15]
  refine aa<|SR<|va (v:=B true) rfl<|aa<|aj<|iG (v:=B true) O O ⟨lkR (bk cs) us (an.getD q.aT.toNat oK).p.sh q ai aX wl wi wy,azY,aGR,aGS,apY,apZ,aug,?_,rfl,?_,?_,?_,azX,?_,(Hp.lN (A:=[_,_,_,_,_,_,_,_,_,_,_,_,_,_,_]) (B:=apZ) (R:=aug) (az3.sub (sQ (sQ (sQ (sQ sR))))))⟩
  .exact(aP QX).trans ((aP aR).trans (aP (by simpa using‹(!cR _ _)=true›)))
  .exact azZ
  .exact az0
  .exact ajQ
  exact az1
 refine ak<|SR<|va (v:=B true) rfl<|aa<|aj<|iG (v:=B true) O O ⟨⟨true,ai,aX,wl,wi,wy,[.e,.l]⟩,vd,ql,cq,[],[],anN,?_,rfl,?_,?_,?_,apV,?_,(by rw[kV];exact(DM.sub (sQ (sQ (sQ (sQ sR))))))⟩
 .exact(aP QX).trans ((aP aR).trans (aQ (by simpa using‹(!cR _ _)=false›)))
 .exact fun x hx=>by cases hx
 .exact lW _
 .exact gh.nil _
 exact hq
end
end Go.Proofs.YtlhjdflgjbkpmaaGreatDoor.W

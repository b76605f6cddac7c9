/- Part 5 of the proof of FlowTakes: its plain laws and the walks of its functions. -/
import Derived.Test.YtlhjdflgjbkpmaaGreatDoorFlowTakesPartD
set_option linter.all false
namespace Go.Proofs.YtlhjdflgjbkpmaaGreatDoor.W
section
open Go Go.RowKit Go.Proofs.YtlhjdflgjbkpmaaGreatDoor.E Go.Proofs.YtlhjdflgjbkpmaaGreatDoor.M
set_option maxRecDepth 100000
open Go.Proofs.Tryz
abbrev FX:FTy:=(⟨(⟨134,243,193,3,35,8⟩:UT),111,35,1,3⟩:FTy)
theorem vV{nA nB nC nD nE nF nG nH nI nJ nK nL:Value}(F:Nat)(vW vU vT:Value)(cnt:Int)(W:List (BitVec 64))(w:World)(hb:w.heap[F]?=some (.cells #[nA,nB,nC,nD,nE,nF,nG,nH,vW,vU,vT,I cnt,nI,nJ,nK,nL] 111 (0,0)))(hW:Sl w vW 1 W.length (W.map U)):Calls Tryz.prog 133 #[.pointer (some ⟨F,8,none⟩)] w (Pure (I W.length) w):=by
 refine eH func133 rfl rfl fun hH=>SR<|va (v:=I 0) rfl<|aa<|ah<|SR<|aG (v:=Pn _ _) rfl<|V (jB pq O O)<|aa<|dm rfl<|ak<|SR<|aG (v:=Pn _ _) rfl<|V (af O)<|V (fA lF 0 O iO O)<|V (az cR O O (hH.dY hb O))<|V (aD (hW.hp hH) O cR O)<|aI rfl<|aa<|aj<|oI O ?_ hH
 rfl
theorem xJ{nA nB nC nD nE nF nG nH nI nJ nK nL:Value}(F:Nat)(vW vU vT:Value)(cnt:Int)(W:List (BitVec 64))(i:Int)(w:World)(hb:w.heap[F]?=some (.cells #[nA,nB,nC,nD,nE,nF,nG,nH,vW,vU,vT,I cnt,nI,nJ,nK,nL] 111 (0,0)))(hW:Sl w vW 1 W.length (W.map U)):Calls Tryz.prog 218 #[.pointer (some ⟨F,8,none⟩),I i] w (Pure (B (decide (0<=i/\i<W.length))) w):=by
 refine eH func218 rfl rfl fun hH=>SR<|va (v:=B false) rfl<|aa<|SR<|mI rfl<|V (di O O)<|mB rfl<|bI 7 O (fun h2=> ?_) (fun h2=> ?_)
 .refine mI rfl<|aG (v:=Pn _ _) rfl<|aE O hH (vV _ _ _ _ _ _ _ (hH.ext hb) (hW.hp hH)) (aq call133 O)<|fun w3 gL=>V (aL O O)<|mB rfl<|aB rfl<|aa<|aj<|oB O ?_ gL
  (simp;omega)
 refine aG (v:=B false) rfl<|aB rfl<|aa<|aj<|oB O ?_ hH
 (rw[gm J];done)
theorem FA{nA nB nC nD nE nF nG nH nI nJ nK nL:Value}(F:Nat)(vW vU vT:Value)(cnt:Int)(W:List (BitVec 64))(i:Int)(hi:0<=i/\i<W.length)(w:World)(hb:w.heap[F]?=some (.cells #[nA,nB,nC,nD,nE,nF,nG,nH,vW,vU,vT,I cnt,nI,nJ,nK,nL] 111 (0,0)))(hW:Sl w vW 1 W.length (W.map U)):Calls Tryz.prog 190 #[.pointer (some ⟨F,8,none⟩),I i] w (Pure (U (W.getD i.toNat 0)) w):=by
 refine eH func190 rfl rfl fun hH=>SR<|va (v:=U 0#64) rfl<|aa<|ah<|SR<|aG (v:=Pn _ _) rfl<|mI rfl<|aE O hH (xJ _ _ _ _ _ _ _ _ (hH.ext hb) (hW.hp hH)) (aK call218 O O)<|fun w1 a7=>V (tY O)<|aa<|aF O (fun h6=> ?_) (fun h6=> ?_)
 .refine SR<|va (v:=U 0#64) rfl<|aa<|aj<|oU O ?_ a7
  omega
 refine ak<|SR<|aG (v:=Pn _ _) rfl<|V (af O)<|V (fA lF 0 O iO O)<|V (az cR O O (a7.dY hb O))<|mI rfl<|V (ag (hW.hp a7) cR cX O O J)<|V (az dU O O (Sl.atU (hW.hp a7) J J))<|aU rfl<|aa<|aj<|oU O ?_ a7
 rfl
theorem lR{nA nB nC nD nE nF nG nH nI nJ nK nL:Value}(F:Nat)(vW vU vT:Value)(cnt:Int)(W:List (BitVec 64))(us:List Value)(w:World)(hb:w.heap[F]?=some (.cells #[nA,nB,nC,nD,nE,nF,nG,nH,vW,vU,vT,I cnt,nI,nJ,nK,nL] 111 (0,0)))(hW:Sl w vW 1 W.length (W.map U))(hU:Sl w vU 1 us.length us):Calls Tryz.prog 90 #[.pointer (some ⟨F,8,none⟩)] w (Pure (I us.length) w):=by
 refine eH func90 rfl rfl fun hH=>SR<|va (v:=I 0) rfl<|aa<|ah<|SR<|aG (v:=Pn _ _) rfl<|V (jB pq O O)<|aa<|dm rfl<|ak<|SR<|aG (v:=Pn _ _) rfl<|V (af O)<|V (fA lF 1 O jH O)<|V (az gz O O (hH.dY hb O))<|V (aD (hU.hp hH) O gz O)<|aI rfl<|aa<|aj<|oI O ?_ hH
 rfl
theorem cY{nA nB nC nD nE nF nG nH nI nJ nK nL:Value}(F:Nat)(vW vU vT:Value)(cnt:Int)(W:List (BitVec 64))(i k:Int)(hi:0<=i/\i<1000000/\0<=k/\k<4/\4*i+k<W.length)(w:World)(hb:w.heap[F]?=some (.cells #[nA,nB,nC,nD,nE,nF,nG,nH,vW,vU,vT,I cnt,nI,nJ,nK,nL] 111 (0,0)))(hW:Sl w vW 1 W.length (W.map U)):Calls Tryz.prog 159 #[.pointer (some ⟨F,8,none⟩),I i,I k] w (Pure (I (W.getD (4*i+k).toNat 0).toInt) w):=by
 refine eH func159 rfl rfl fun hH=>SR<|va (v:=I 0) rfl<|aa<|SR<|aG (v:=Pn _ _) rfl<|V (af O)<|V (fA x7 0 O yb O)<|mI rfl<|V (B6 O O J)<|mI rfl<|V (ax O O J)<|aE O hH (FA _ _ _ _ _ _ _ J _ (hH.ext hb) (hW.hp hH)) (aK call190 O O)<|fun w1 a7=>V (Wf dU bt O)<|aI rfl<|aa<|aj<|oI O ?_ a7
 rfl
theorem kT{nA nB nC nD nE nF nG nH nI nJ nK nL:Value}(F:Nat)(vW vU vT:Value)(cnt:Int)(nd:List pB)(hn:nd.length<=1000000)(w:World)(hb:w.heap[F]?=some (.cells #[nA,nB,nC,nD,nE,nF,nG,nH,vW,vU,vT,I cnt,nI,nJ,nK,nL] 111 (0,0)))(hW:Sl w vW 1 (bx nd).length ((bx nd).map U)):Calls Tryz.prog 89 #[.pointer (some ⟨F,8,none⟩)] w (Pure (I nd.length) w):=by
 have X0:=gO nd
 refine eH func89 rfl rfl fun hH=>SR<|va (v:=I 0) rfl<|aa<|ah<|SR<|aG (v:=Pn _ _) rfl<|V (jB JM O O)<|aa<|dm rfl<|ak<|SR<|aG (v:=Pn _ _) rfl<|V (af O)<|V (fA gJ 0 O tS O)<|V (fA x7 0 O yb O)<|aE O hH (vV _ _ _ _ _ _ _ (hH.ext hb) (hW.hp hH)) (aq call133 O)<|fun w1 a7=>V (ajo O O J J)<|aI rfl<|aa<|aj<|oI O ?_ a7
 omega
theorem lS{nA nB nC nD nE nF nG nH nI nJ nK nL:Value}(F:Nat)(vW vU vT:Value)(cnt:Int)(nd:List pB)(i:Int)(hn:nd.length<=1000000)(w:World)(hb:w.heap[F]?=some (.cells #[nA,nB,nC,nD,nE,nF,nG,nH,vW,vU,vT,I cnt,nI,nJ,nK,nL] 111 (0,0)))(hW:Sl w vW 1 (bx nd).length ((bx nd).map U)):Calls Tryz.prog 158 #[.pointer (some ⟨F,8,none⟩),I i] w (Pure (B (decide (0<=i/\i<nd.length))) w):=by
 refine eH func158 rfl rfl fun hH=>SR<|va (v:=B false) rfl<|aa<|SR<|mI rfl<|V (di O O)<|mB rfl<|bI 7 O (fun h2=> ?_) (fun h2=> ?_)
 .refine mI rfl<|aG (v:=Pn _ _) rfl<|aE O hH (kT _ _ _ _ _ _ oY _ (hH.ext hb) (hW.hp hH)) (aq call89 O)<|fun w3 gL=>V (aL O O)<|mB rfl<|aB rfl<|aa<|aj<|oB O ?_ gL
  (simp;omega)
 refine aG (v:=B false) rfl<|aB rfl<|aa<|aj<|oB O ?_ hH
 (rw[gm J];done)
theorem Aq{nA nB nC nD nE nF nG nH nI nJ nK nL:Value}(F:Nat)(vW vU vT:Value)(cnt:Int)(W:List (BitVec 64))(w:World)(hb:w.heap[F]?=some (.cells #[nA,nB,nC,nD,nE,nF,nG,nH,vW,vU,vT,I cnt,nI,nJ,nK,nL] 111 (0,0)))(hW:Sl w vW 1 W.length (W.map U)):Calls Tryz.prog 123 #[.pointer (some ⟨F,8,none⟩)] w (Pure (I cnt) w):=by
 refine eH func123 rfl rfl fun hH=>SR<|va (v:=I 0) rfl<|aa<|ah<|SR<|aG (v:=Pn _ _) rfl<|V (jB JM O O)<|aa<|dm rfl<|ak<|SR<|aG (v:=Pn _ _) rfl<|V (af O)<|V (fA gJ 3 O bp O)<|V (az bt O O (hH.dY hb (v:=I _) O))<|aI rfl<|aa<|aj<|oI O ?_ hH
 rfl
theorem BU{nA nB nC nD nE nF nG nH nI nJ nK nL:Value}(F:Nat)(vW vU vT:Value)(cnt:Int)(W:List (BitVec 64))(ts:List Int)(w:World)(hb:w.heap[F]?=some (.cells #[nA,nB,nC,nD,nE,nF,nG,nH,vW,vU,vT,I cnt,nI,nJ,nK,nL] 111 (0,0)))(hW:Sl w vW 1 W.length (W.map U))(hT:Sl w vT 1 ts.length (ts.map I)):Calls Tryz.prog 46 #[.pointer (some ⟨F,8,none⟩)] w (Pure (I ts.length) w):=by
 refine eH func46 rfl rfl fun hH=>SR<|va (v:=I 0) rfl<|aa<|ah<|SR<|aG (v:=Pn _ _) rfl<|V (jB JM O O)<|aa<|dm rfl<|ak<|SR<|aG (v:=Pn _ _) rfl<|V (af O)<|V (fA gJ 2 O df O)<|V (az bq O O (hH.dY hb O))<|V (aD (hT.hp hH) O bq O)<|aI rfl<|aa<|aj<|oI O ?_ hH
 rfl
theorem ng{nA nB nC nD nE nF nG nH nI nJ nK nL:Value}(F:Nat)(vW vU vT:Value)(cnt:Int)(nd:List pB)(cl:List Nat)(i:Int)(hn:nd.length<=1000000)(hf:Fo nd cl)(hi:0<=i/\i<nd.length)(w:World)(hb:w.heap[F]?=some (.cells #[nA,nB,nC,nD,nE,nF,nG,nH,vW,vU,vT,I cnt,nI,nJ,nK,nL] 111 (0,0)))(hW:Sl w vW 1 (bx nd).length ((bx nd).map U)):Calls Tryz.prog 160 #[.pointer (some ⟨F,8,none⟩),I i] w (Pure (I (nT nd cl i.toNat)) w):=by
 have X0:=gO nd
 refine eH func160 rfl rfl fun hH=>SR<|va (v:=I 0) rfl<|aa<|ah<|aC<|bj (G:=Nat) (fun c s' w'=>(Fr (1::(rg 5 12 [])) _ s')/\(Hp w w' _)/\(s' 1=I (c:Int))/\(c<nd.length)/\(bV cl c=bV cl i.toNat)) (fun c=>nd.length-jZ nd c) (i.toNat) ⟨Fr.refl _ _,hH,(aJ I (show i=((i.toNat:Nat):Int)by omega)),J,rfl⟩<| ?_
 rintro c sg1 w1 ⟨tg,iA,yW,hc,n8⟩
 have lD:=tg.w1 0
 have hcu:=aku hf hn hc
 refine ah<|SR<|aG lD<|V (af O)<|V (fA gJ 0 O tS O)<|aG yW<|aE O iA (cY _ _ _ _ _ _ _ _ J _ (iA.ext hb) (hW.hp iA)) (bz sM O O (show _=I 0 from O))<|fun w2 tK=>aG yW<|V (kQ O O)<|aa<|aF O (fun h5=> ?_) (fun h5=> ?_)
 .refine ak<|aC<|au<|aG lD<|V (af O)<|V (fA gJ 0 O tS O)<|aG yW<|aE O tK (cY _ _ _ _ _ _ _ _ J _ (tK.ext hb) (hW.hp tK)) (bz sM O O (show _=I 0 from O))<|fun w6 eR=>aI rfl<|aa<| ?_
  refine⟨rA nd c,?_,tg.u4.u4.u4.u1,eR,(aJ I hcu),?_,?_⟩
  .have hne:rA nd c≠c:=fun e=>‹_≠(c:Int)› (hcu.trans (by rw[e]));exact(Qy hf hc O).2.2 hne
  .exact(Qy hf hc n8).1
  exact(Qy hf hc n8).2.1
 refine aY (id:=0) rfl<|SR<|aG yW<|aI rfl<|aa<|aj<|oI O ?_ tK
 exact aJ (fun x:Nat=>(x:Int)) (afE hf J hc J n8)
theorem BV{nA nB nC nD nE nF nG nH nI nJ nK nL:Value}(F:Nat)(vW vU vT:Value)(cnt:Int)(nd:List pB)(cl:List Nat)(i:Int)(hn:nd.length<=1000000)(hf:Fo nd cl)(w:World)(hb:w.heap[F]?=some (.cells #[nA,nB,nC,nD,nE,nF,nG,nH,vW,vU,vT,I cnt,nI,nJ,nK,nL] 111 (0,0)))(hW:Sl w vW 1 (bx nd).length ((bx nd).map U)):Calls Tryz.prog 128 #[.pointer (some ⟨F,8,none⟩),I i] w (Pure (I (eW cl i)) w):=by
 have X0:=gO nd
 refine eH func128 rfl rfl fun hH=>SR<|va (v:=I 0) rfl<|aa<|ah<|SR<|aG (v:=Pn _ _) rfl<|mI rfl<|aE O hH (lS _ _ _ _ _ _ _ oY _ (hH.ext hb) (hW.hp hH)) (aK call158 O O)<|fun w1 a7=>V (tY O)<|aa<|aF O (fun h6=> ?_) (fun h6=> ?_)
 .refine SR<|va (v:=I (-1)) rfl<|aa<|aj<|oI O ?_ a7
  exact abo hf J
 refine ak<|ah<|eu aN a7<|fun w7 eX=>have zh8:=eX;AQ 0 O zh8 (mV (Pn _ _) O)<|AQ 1 O zh8 (af O)<|AQ 2 O zh8 (fA gJ 0 O tS O)<|AQ 3 O zh8 (mV (Pn _ _) O)<|AQ 4 O zh8 (mV (I _) O)<|A1 5<|cC O aH O eX sR (ng _ _ _ _ _ nd cl _ oY oY J _ (eX.ext hb) (hW.hp eX)) (aK call160 O O)<|fun w9 bS=>A1 6<|cC O aH O bS sR (cY _ _ _ _ _ _ _ _ (by have:=(ow hf (i:=i.toNat) J).1;omega) _ (bS.ext hb) (hW.hp bS)) (bz sM O O (show _=I 3 from O))<|fun H9 cQ=>AQ 7 O cQ (aV (I _) O)<|AD<|aj<|oI O ?_ cQ
 exact abp hf hn J
theorem CK{nA nB nC nD nE nF nG nH nI nJ nK nL:Value}(W0:World)(F:Nat)(vW vU vT:Value)(cnt:Int)(cW:Option (Nat×Array Value))(W:List (BitVec 64))(L:List a8)(b1 b2:Nat)(n:Int)(hn:0<=n/\n<=W.length)(w:World)(h1:a8.blk b1 (.cells #[.pointer (some ⟨F,8,none⟩)] 193 (0,0))∈L)(h2:a8.blk b2 (.cells #[I n] 3 (0,0))∈L)(xO:cO cW vW (W.map U))(hH:Hp W0 w (.blk F (.cells #[nA,nB,nC,nD,nE,nF,nG,nH,vW,vU,vT,I (cnt),nI,nJ,nK,nL] 111 (0,0))::cE cW vW 35 (W.map U)::L)):Calls Tryz.prog 134 #[.pointer (some ⟨b1,0,none⟩),.pointer (some ⟨b2,0,none⟩)] w (jF fun u w'=>u= .tuple #[]/\∃v' c',cO c' v' ((W.take n.toNat).map U)/\Hp W0 w' (.blk F (.cells #[nA,nB,nC,nD,nE,nF,nG,nH,v',vU,vT,I (cnt),nI,nJ,nK,nL] 111 (0,0))::cE c' v' 35 ((W.take n.toNat).map U)::L)):=by
 refine en func134 rfl rfl<|ia aN hH (sQ (sQ sR))<|fun w1 a7=>have j8:=a7.sub (sQ (sQ sR));AT 0 O j8 (fun w hS=>az pq O O (hS.oa h1 (v:=Pn _ _) O))<|AT 1 O j8 (fun w hS=>az pq O O (hS.oa h1 (v:=Pn _ _) O))<|AQ 2 O j8 (af O)<|AQ 3 O j8 (fA lF 0 O iO O)<|AT 5 O j8 (fun w hS=>az bt O O (hS.oa h2 (v:=I _) O))<|AT 6 O j8 (fun w hS=>az bt O O (hS.oa h2 (v:=I _) O))<|A1 4<|bW O aH O a7 (sQ (sQ sR)) (az cR O O (a7.cell (i:=0) O O))<|A1 7<|bW O aH O a7 (sQ (sQ sR)) (uz (a7.xp (i:=1) O xO) cR cX O O O J)<|AQ 8 O j8 (af O)<|AQ 9 O j8 (fA lF 0 O iO O)<|A1 10<|have hs1:=((a7.xp (i:=1) O xO)).r8 (n:=(n).toNat) J;?_
 obtain⟨c9,awm,dN⟩:=a7.apI (i:=1) O xO (m:=(n).toNat) V9
 simp only[ij,kf,<-AI]at dN awm
 refine eK O aH dN (j:=0) O (sQ (sQ sR)) (bM O O (v:=(r8 vW (n).toNat)) O (gG hs1).2 (gG hs1).1 (dN.blk (i:=0) O) aA)<|fun Cx bY=>AD<|p5 O ⟨rfl,(r8 vW (n).toNat),c9,awm,bY⟩
theorem CL{nA nB nC nD nE nF nG nH nI nJ nK nL:Value}(W0:World)(F:Nat)(vW vU vT:Value)(cnt:Int)(cW:Option (Nat×Array Value))(W:List (BitVec 64))(L:List a8)(b1 b2 b3:Nat)(i:Int)(b:BitVec 64)(hi:0<=i/\i<W.length)(w:World)(h1:a8.blk b1 (.cells #[U b] 35 (0,0))∈L)(h2:a8.blk b2 (.cells #[.pointer (some ⟨F,8,none⟩)] 193 (0,0))∈L)(h3:a8.blk b3 (.cells #[I i] 3 (0,0))∈L)(xO:cO cW vW (W.map U))(hH:Hp W0 w (.blk F (.cells #[nA,nB,nC,nD,nE,nF,nG,nH,vW,vU,vT,I (cnt),nI,nJ,nK,nL] 111 (0,0))::cE cW vW 35 (W.map U)::L)):Calls Tryz.prog 243 #[.pointer (some ⟨b1,0,none⟩),.pointer (some ⟨b2,0,none⟩),.pointer (some ⟨b3,0,none⟩)] w (jF fun u w'=>u= .tuple #[]/\∃v' c',cO c' v' ((W.set i.toNat b).map U)/\Hp W0 w' (.blk F (.cells #[nA,nB,nC,nD,nE,nF,nG,nH,v',vU,vT,I (cnt),nI,nJ,nK,nL] 111 (0,0))::cE c' v' 35 ((W.set i.toNat b).map U)::L)):=by
 refine en func243 rfl rfl<|ia aN hH (sP (sQ sR))<|fun w1 a7=>have j8:=a7.sub (sP (sQ sR));AT 0 O j8 (fun w hS=>az pq O O (hS.oa (mT h2) (v:=Pn _ _) O))<|AQ 1 O j8 (af O)<|AQ 2 O j8 (fA lF 0 O iO O)<|tV 3 O j8 cR 0 O O rfl<|AT 4 O j8 (fun w hS=>az bt O O (hS.oa (mT h3) (v:=I _) O))<|AT 5 O j8 (fun w hS=>az dU O O (hS.oa (mT h1) (v:=U _) O))<|A1 6<|bW O aH O a7 (sP (sQ sR)) (ag (a7.xp (i:=1) O xO) cR cX O O J)<|A1 7<|afJ (u:=U _) O aH a7 (i:=1) O xO (fun _ _=>(sP (sQ sR))) V9 O O O O rfl<|fun c7 w9 hk8 bS=> ?_
 simp only[ij,kf,EX]at bS hk8
 refine AD<|p5 O ⟨rfl,vW,c7,hk8,bS⟩
theorem qv{nA nB nC nD nE nF nG nH nI nJ nK nL:Value}(W0:World)(F:Nat)(vW vU vT:Value)(cnt:Int)(cW cU:Option (Nat×Array Value))(W:List (BitVec 64))(ul:List (Value×jh))(L:List a8)(b:BitVec 64)(X0:W.length<=4000000)(M7:ul.length<=4000000)(w:World)(xO:cO cW vW (W.map U))(Ib:cO cU vU (ul.map Prod.fst))(hH:Hp W0 w (.blk F (.cells #[nA,nB,nC,nD,nE,nF,nG,nH,vW,vU,vT,I (cnt),nI,nJ,nK,nL] 111 (0,0))::cE cW vW 35 (W.map U)::cE cU vU 1 (ul.map Prod.fst)::L)):Calls Tryz.prog 91 #[.pointer (some ⟨F,8,none⟩),U b] w (jF fun u w'=>u=I W.length/\∃(v':Value) (c':Option (Nat×Array Value)) (v2:Value) (c2:Option (Nat×Array Value)) (xK:List (Value×jh)) (Lb:List a8),cO c' v' ((W++[b]).map U)/\cO c2 v2 (xK.map Prod.fst)/\xK.map Prod.snd=ul.map Prod.snd++[jh.add W.length]/\xK.take ul.length=ul/\xK.length<=ul.length+1/\(∀x∈xK.drop ul.length,oA (⟨134,243,193,3,35,8⟩:UT) F Lb x)/\Hp W0 w' (.blk F (.cells #[nA,nB,nC,nD,nE,nF,nG,nH,v',v2,vT,I (cnt),nI,nJ,nK,nL] 111 (0,0))::cE c' v' 35 ((W++[b]).map U)::cE c2 v2 1 (xK.map Prod.fst)::(Lb++L))):=by
 refine en func91 rfl rfl<|SR<|gX hH (v:=Pn _ _) rfl<|fun b3 w1 a7=>va (v:=I 0) rfl<|aa<|ah<|SR<|lP pq a7 0 O O rfl<|V (jB pq O O)<|aa<|dm rfl<|ak<|SR<|lP pq a7 0 O O rfl<|V (af O)<|V (fA lF 0 O iO O)<|lV cR a7 1 O O rfl<|V (aD (a7.xp (i:=2) O xO) O cR O)<|ou a7 (aZ Tryz.zeroValue3)<|fun b6 w4 bP=>bk bP (i:=0) O (bM O O (v:=I _) O O O (bP.blk (i:=0) O) ay)<|fun w7 eX=>aa<|ah<|ia aN eX (sP (sP (sQ (sQ sR))))<|fun w9 bS=>have za:=bS.sub (sP (sP (sQ (sQ sR))));tP 0 O za pq 1 O O rfl<|tP 1 O za pq 1 O O rfl<|AQ 2 O za (af O)<|AQ 3 O za (fA lF 0 O iO O)<|AQ 5 O za (mV (U _) O)<|ic 4 6 aN ?_ ?_
 .refine bW O aH O bS (sP (sP (sQ (sQ sR)))) (az cR O O (bS.cell (i:=2) O O))<|A1 6<|cN O aH O bS (sP (sP (sQ (sQ sR)))) (f:=fun b=> .slice (some ⟨b,0,none⟩) 1 1) (bZ cR O O (sz:=1) (vs:=[U _]) O O ay ay O O)<|fun b15 C8 cw=> ?_
  (try simp only[ot]at cw)
  refine A1 7<|Bj (y0:=U b) O aH O cw (i:=4) O xO (fun _ _=>(sQ (sP (sP (sQ (sQ sR)))))) (cw.dQ (i:=0) (n:=1) (sz:=1) O O ay) O O cR O O O (bytes:=8) O O O s3 s3<|fun v18 Ub cJ=> ?_
  rw[Oy]at cJ
  refine AQ 8 O (cJ.sub (sQ (sP (sP (sQ (sQ sR)))))) (af O)<|AQ 9 O (cJ.sub (sQ (sP (sP (sQ (sQ sR)))))) (fA lF 0 O iO O)<|A1 10<|eK O aH cJ (j:=3) O (sQ (sP (sP (sQ (sQ sR))))) (bM O O (v:=v18) O (gG (cJ.xp (i:=4) O trivial)).2 (gG (cJ.xp (i:=4) O trivial)).1 (cJ.blk (i:=3) O) aA)<|fun w23 qB=>AD<|ah<|ia aN qB (sP (sP (sP (sQ (sP (sQ sR))))))<|fun w25 j6=>have IB:=j6.sub (sP (sP (sP (sQ (sP (sQ sR))))));tP 0 O IB pq 2 O O rfl<|tP 1 O IB pq 2 O O rfl<|AQ 2 O IB (af O)<|AQ 3 O IB (fA lF 1 O jH O)<| ?_
  refine AQ 5 O IB (rP bC bC) ?_
  refine ic 4 6 aN ?_ ?_
  .refine bW O aH O j6 (sP (sP (sP (sQ (sP (sQ sR)))))) (az gz O O (j6.cell (i:=3) O O))<|A1 6<|cN O aH O j6 (sP (sP (sP (sQ (sP (sQ sR)))))) (f:=fun b=> .slice (some ⟨b,0,none⟩) 1 1) (bZ gz O O (sz:=1) (vs:=[.func _ _ _]) O O ay ay O O)<|fun b31 w29 iN=> ?_
   (try simp only[ot]at iN)
   refine A1 7<|Bj (y0:= .func (.func 134) #[] #[.pointer (some ⟨b3,0,none⟩),.pointer (some ⟨b6,0,none⟩)]) rfl aH rfl iN (i:=6) O Ib (fun _ _=>(sQ (sP (sP (sP (sQ (sP (sQ sR)))))))) (iN.dQ (i:=0) (n:=1) (sz:=1) O O ay) O O gz O O O (bytes:=8) O O O s3 s3<|fun v34 w35 m6=> ?_
   rw[tJ (jh.add W.length)]at m6
   refine AQ 8 O (m6.sub (sQ (sP (sP (sP (sQ (sP (sQ sR)))))))) (af O)<|AQ 9 O (m6.sub (sQ (sP (sP (sP (sQ (sP (sQ sR)))))))) (fA lF 1 O jH O)<|A1 10<|eK O aH m6 (j:=4) O (sQ (sP (sP (sP (sQ (sP (sQ sR))))))) (bM O O (v:=v34) O (gG (m6.z7 (i:=6) O trivial)).2 (gG (m6.z7 (i:=6) O trivial)).1 (m6.blk (i:=4) O) aA)<|fun w39 nM=>AD<|SR<|lI bt nM 2 O O rfl<|aI rfl<|aa<|aj<|ja O (v:=I W.length) O ⟨rfl,v18,none,v34,none,(ul++[(.func (.func 134) #[] #[.pointer (some ⟨b3,0,none⟩),.pointer (some ⟨b6,0,none⟩)],jh.add W.length)]),[a8.blk b3 (.cells #[.pointer (some ⟨F,8,none⟩)] 193 (0,0)),a8.blk b6 (.cells #[I W.length] 3 (0,0))],trivial,trivial,aA,aA,aA,?_,(nM.pj [4,4,4,3,2]).sub (sP (sP (sP (sP (sP (sQ (sQ sR)))))))⟩
   intro x hx;rw[Dy,fG]at hx;subst hx;exact⟨_,_,rfl,aA,aA⟩
  refine cN O aH O j6 (sP (sP (sP (sQ (sP (sQ sR)))))) (f:=fun b=> .slice (some ⟨b,0,none⟩) 1 1) (bZ gz O O (sz:=1) (vs:=[.func _ _ _]) O O ay ay O O)<|fun b43 w41 xI=> ?_
  (try simp only[ot]at xI)
  refine A1 4<|bW O aH O xI (sQ (sP (sP (sP (sQ (sP (sQ sR))))))) (az gz O O (xI.cell (i:=4) O O))<|A1 7<|Bj (y0:= .func (.func 134) #[] #[.pointer (some ⟨b3,0,none⟩),.pointer (some ⟨b6,0,none⟩)]) rfl aH rfl xI (i:=6) O Ib (fun _ _=>(sQ (sP (sP (sP (sQ (sP (sQ sR)))))))) (xI.dQ (i:=0) (n:=1) (sz:=1) O O ay) O O gz O O O (bytes:=8) O O O s3 s3<|fun v48 w49 ey=> ?_
  rw[tJ (jh.add W.length)]at ey
  refine AQ 8 O (ey.sub (sQ (sP (sP (sP (sQ (sP (sQ sR)))))))) (af O)<|AQ 9 O (ey.sub (sQ (sP (sP (sP (sQ (sP (sQ sR)))))))) (fA lF 1 O jH O)<|A1 10<|eK O aH ey (j:=4) O (sQ (sP (sP (sP (sQ (sP (sQ sR))))))) (bM O O (v:=v48) O (gG (ey.z7 (i:=6) O trivial)).2 (gG (ey.z7 (i:=6) O trivial)).1 (ey.blk (i:=4) O) aA)<|fun w53 gk=>AD<|SR<|lI bt gk 2 O O rfl<|aI rfl<|aa<|aj<|ja O (v:=I W.length) O ⟨rfl,v18,none,v48,none,(ul++[(.func (.func 134) #[] #[.pointer (some ⟨b3,0,none⟩),.pointer (some ⟨b6,0,none⟩)],jh.add W.length)]),[a8.blk b3 (.cells #[.pointer (some ⟨F,8,none⟩)] 193 (0,0)),a8.blk b6 (.cells #[I W.length] 3 (0,0))],trivial,trivial,aA,aA,aA,?_,(gk.pj [4,4,4,3,2]).sub (sP (sP (sP (sP (sP (sQ (sQ sR)))))))⟩
  intro x hx;rw[Dy,fG]at hx;subst hx;exact⟨_,_,rfl,aA,aA⟩
 refine cN O aH O bS (sP (sP (sQ (sQ sR)))) (f:=fun b=> .slice (some ⟨b,0,none⟩) 1 1) (bZ cR O O (sz:=1) (vs:=[U _]) O O ay ay O O)<|fun b57 w55 oo=> ?_
 (try simp only[ot]at oo)
 refine A1 4<|bW O aH O oo (sQ (sP (sP (sQ (sQ sR))))) (az cR O O (oo.cell (i:=3) O O))<|A1 7<|Bj (y0:=U b) O aH O oo (i:=4) O xO (fun _ _=>(sQ (sP (sP (sQ (sQ sR)))))) (oo.dQ (i:=0) (n:=1) (sz:=1) O O ay) O O cR O O O (bytes:=8) O O O s3 s3<|fun v62 w63 BN=> ?_
 rw[Oy]at BN
 refine AQ 8 O (BN.sub (sQ (sP (sP (sQ (sQ sR)))))) (af O)<|AQ 9 O (BN.sub (sQ (sP (sP (sQ (sQ sR)))))) (fA lF 0 O iO O)<|A1 10<|eK O aH BN (j:=3) O (sQ (sP (sP (sQ (sQ sR))))) (bM O O (v:=v62) O (gG (BN.xp (i:=4) O trivial)).2 (gG (BN.xp (i:=4) O trivial)).1 (BN.blk (i:=3) O) aA)<|fun w67 kD=>AD<|ah<|ia aN kD (sP (sP (sP (sQ (sP (sQ sR))))))<|fun w69 uN=>have MH:=uN.sub (sP (sP (sP (sQ (sP (sQ sR))))));tP 0 O MH pq 2 O O rfl<|tP 1 O MH pq 2 O O rfl<|AQ 2 O MH (af O)<|AQ 3 O MH (fA lF 1 O jH O)<| ?_
 refine AQ 5 O MH (rP bC bC) ?_
 refine ic 4 6 aN ?_ ?_
 .refine bW O aH O uN (sP (sP (sP (sQ (sP (sQ sR)))))) (az gz O O (uN.cell (i:=3) O O))<|A1 6<|cN O aH O uN (sP (sP (sP (sQ (sP (sQ sR)))))) (f:=fun b=> .slice (some ⟨b,0,none⟩) 1 1) (bZ gz O O (sz:=1) (vs:=[.func _ _ _]) O O ay ay O O)<|fun b75 w73 wU=> ?_
  (try simp only[ot]at wU)
  refine A1 7<|Bj (y0:= .func (.func 134) #[] #[.pointer (some ⟨b3,0,none⟩),.pointer (some ⟨b6,0,none⟩)]) rfl aH rfl wU (i:=6) O Ib (fun _ _=>(sQ (sP (sP (sP (sQ (sP (sQ sR)))))))) (wU.dQ (i:=0) (n:=1) (sz:=1) O O ay) O O gz O O O (bytes:=8) O O O s3 s3<|fun v78 w79 pM=> ?_
  rw[tJ (jh.add W.length)]at pM
  refine AQ 8 O (pM.sub (sQ (sP (sP (sP (sQ (sP (sQ sR)))))))) (af O)<|AQ 9 O (pM.sub (sQ (sP (sP (sP (sQ (sP (sQ sR)))))))) (fA lF 1 O jH O)<|A1 10<|eK O aH pM (j:=4) O (sQ (sP (sP (sP (sQ (sP (sQ sR))))))) (bM O O (v:=v78) O (gG (pM.z7 (i:=6) O trivial)).2 (gG (pM.z7 (i:=6) O trivial)).1 (pM.blk (i:=4) O) aA)<|fun w83 nP=>AD<|SR<|lI bt nP 2 O O rfl<|aI rfl<|aa<|aj<|ja O (v:=I W.length) O ⟨rfl,v62,none,v78,none,(ul++[(.func (.func 134) #[] #[.pointer (some ⟨b3,0,none⟩),.pointer (some ⟨b6,0,none⟩)],jh.add W.length)]),[a8.blk b3 (.cells #[.pointer (some ⟨F,8,none⟩)] 193 (0,0)),a8.blk b6 (.cells #[I W.length] 3 (0,0))],trivial,trivial,aA,aA,aA,?_,(nP.pj [4,4,4,3,2]).sub (sP (sP (sP (sP (sP (sQ (sQ sR)))))))⟩
  intro x hx;rw[Dy,fG]at hx;subst hx;exact⟨_,_,rfl,aA,aA⟩
 refine cN O aH O uN (sP (sP (sP (sQ (sP (sQ sR)))))) (f:=fun b=> .slice (some ⟨b,0,none⟩) 1 1) (bZ gz O O (sz:=1) (vs:=[.func _ _ _]) O O ay ay O O)<|fun b87 w85 vb=> ?_
 (try simp only[ot]at vb)
 refine A1 4<|bW O aH O vb (sQ (sP (sP (sP (sQ (sP (sQ sR))))))) (az gz O O (vb.cell (i:=4) O O))<|A1 7<|Bj (y0:= .func (.func 134) #[] #[.pointer (some ⟨b3,0,none⟩),.pointer (some ⟨b6,0,none⟩)]) rfl aH rfl vb (i:=6) O Ib (fun _ _=>(sQ (sP (sP (sP (sQ (sP (sQ sR)))))))) (vb.dQ (i:=0) (n:=1) (sz:=1) O O ay) O O gz O O O (bytes:=8) O O O s3 s3<|fun v92 w93 vc=> ?_
 rw[tJ (jh.add W.length)]at vc
 refine AQ 8 O (vc.sub (sQ (sP (sP (sP (sQ (sP (sQ sR)))))))) (af O)<|AQ 9 O (vc.sub (sQ (sP (sP (sP (sQ (sP (sQ sR)))))))) (fA lF 1 O jH O)<|A1 10<|eK O aH vc (j:=4) O (sQ (sP (sP (sP (sQ (sP (sQ sR))))))) (bM O O (v:=v92) O (gG (vc.z7 (i:=6) O trivial)).2 (gG (vc.z7 (i:=6) O trivial)).1 (vc.blk (i:=4) O) aA)<|fun w97 Rj=>AD<|SR<|lI bt Rj 2 O O rfl<|aI rfl<|aa<|aj<|ja O (v:=I W.length) O ⟨rfl,v62,none,v92,none,(ul++[(.func (.func 134) #[] #[.pointer (some ⟨b3,0,none⟩),.pointer (some ⟨b6,0,none⟩)],jh.add W.length)]),[a8.blk b3 (.cells #[.pointer (some ⟨F,8,none⟩)] 193 (0,0)),a8.blk b6 (.cells #[I W.length] 3 (0,0))],trivial,trivial,aA,aA,aA,?_,(Rj.pj [4,4,4,3,2]).sub (sP (sP (sP (sP (sP (sQ (sQ sR)))))))⟩
 intro x hx;rw[Dy,fG]at hx;subst hx;exact⟨_,_,rfl,aA,aA⟩
theorem FB{nA nB nC nD nE nF nG nH nI nJ nK nL:Value}(W0:World)(F:Nat)(vW vU vT:Value)(cnt:Int)(cW cU:Option (Nat×Array Value))(W:List (BitVec 64))(ul:List (Value×jh))(L:List a8)(i:Int)(b:BitVec 64)(X0:W.length<=4000000)(M7:ul.length<=4000000)(hi:0<=i/\i<W.length)(w:World)(xO:cO cW vW (W.map U))(Ib:cO cU vU (ul.map Prod.fst))(hH:Hp W0 w (.blk F (.cells #[nA,nB,nC,nD,nE,nF,nG,nH,vW,vU,vT,I (cnt),nI,nJ,nK,nL] 111 (0,0))::cE cW vW 35 (W.map U)::cE cU vU 1 (ul.map Prod.fst)::L)):Calls Tryz.prog 217 #[.pointer (some ⟨F,8,none⟩),I i,U b] w (jF fun u w'=>u=B true/\∃(v':Value) (c':Option (Nat×Array Value)) (v2:Value) (c2:Option (Nat×Array Value)) (xK:List (Value×jh)) (Lb:List a8),cO c' v' ((W.set i.toNat b).map U)/\cO c2 v2 (xK.map Prod.fst)/\xK.map Prod.snd=GV W (ul.map Prod.snd) i.toNat b/\xK.take ul.length=ul/\xK.length<=ul.length+1/\(∀x∈xK.drop ul.length,oA (⟨134,243,193,3,35,8⟩:UT) F Lb x)/\Hp W0 w' (.blk F (.cells #[nA,nB,nC,nD,nE,nF,nG,nH,v',v2,vT,I (cnt),nI,nJ,nK,nL] 111 (0,0))::cE c' v' 35 ((W.set i.toNat b).map U)::cE c2 v2 1 (xK.map Prod.fst)::(Lb++L))):=by
 refine en func217 rfl rfl<|SR<|gX hH (v:=Pn _ _) rfl<|fun b3 w1 a7=>gX a7 (v:=I _) rfl<|fun b6 w4 bP=>va (v:=B false) rfl<|aa<|ah<|SR<|lP pq bP 1 O O rfl<|lI bt bP 0 O O rfl<|aE O bP (xJ _ _ _ _ _ _ _ _ (bP.blk (i:=2) O) (bP.xp (i:=3) O xO)) (aK call218 O O)<|fun w7 eX=>V (bK (bT (hi)))<|aa<|dm rfl<|ak<|ah<|eu aN eX<|fun H9 cQ=>have X6:=cQ;tP 0 O X6 pq 1 O O rfl<|AQ 1 O X6 (af O)<|AQ 2 O X6 (fA lF 0 O iO O)<|tV 3 O X6 cR 2 O O rfl<|tI 4 O X6 bt 0 O O rfl<|AT 5 O X6 (fun w hS=>ag (hS.xp (i:=3) O xO) cR cX O O J)<|AT 6 O X6 (fun w hS=>az dU O O (Sl.atU (hS.xp (i:=3) O xO) J J))<|A1 7<|cN O aH O cQ sR (f:=fun b=> .pointer (some ⟨b,0,none⟩)) (aZ Tryz.zeroValue35)<|fun b15 C8 cw=>A1 8<|eK O aH cw (j:=0) O (sQ sR) (bM O O (v:=U _) O O O (cw.blk (i:=0) O) ay)<|fun Ml er=>AD<|ah<|SR<|V (az dU O O (er.cell (i:=0) O (v:=U _) O))<|mU rfl<|V (tX O O)<|aa<|aF O (fun Mf=> ?_) (fun Mf=> ?_)
 .refine ah<|ia aN er (sP (sP (sP (sP (sQ sR)))))<|fun w20 fD=>have m9:=fD.sub (sP (sP (sP (sP (sQ sR)))));tP 0 O m9 pq 2 O O rfl<|AQ 1 O m9 (af O)<|AQ 2 O m9 (fA lF 0 O iO O)<|tV 3 O m9 cR 3 O O rfl<|tI 4 O m9 bt 1 O O rfl<|AQ 5 O m9 (mV (U _) O)<|A1 6<|bW O aH O fD (sP (sP (sP (sP (sQ sR))))) (ag (fD.xp (i:=4) O xO) cR cX O O J)<|A1 7<|afJ (u:=U _) O aH fD (i:=4) O xO (fun _ _=>(sP (sP (sP (sP (sQ sR)))))) V9 O O O O rfl<|fun c26 w28 arw gj=> ?_
  simp only[ij,kf,EX]at gj arw
  refine AD<|ia aN gj (sP (sP (sP (sQ (sP (sQ sR))))))<|fun w30 lQ=>have Hr:=lQ.sub (sP (sP (sP (sQ (sP (sQ sR))))));tP 0 O Hr pq 2 O O rfl<|tP 1 O Hr pq 2 O O rfl<|AQ 2 O Hr (af O)<|AQ 3 O Hr (fA lF 1 O jH O)<| ?_
  refine AQ 5 O Hr (Ki bC bC bC) ?_
  refine ic 4 6 aN ?_ ?_
  .refine bW O aH O lQ (sP (sP (sP (sQ (sP (sQ sR)))))) (az gz O O (lQ.cell (i:=3) O O))<|A1 6<|cN O aH O lQ (sP (sP (sP (sQ (sP (sQ sR)))))) (f:=fun b=> .slice (some ⟨b,0,none⟩) 1 1) (bZ gz O O (sz:=1) (vs:=[.func _ _ _]) O O ay ay O O)<|fun b36 w34 xH=> ?_
   (try simp only[ot]at xH)
   refine A1 7<|Bj (y0:= .func (.func 243) #[] #[.pointer (some ⟨b15,0,none⟩),.pointer (some ⟨b3,0,none⟩),.pointer (some ⟨b6,0,none⟩)]) rfl aH rfl xH (i:=6) O Ib (fun _ _=>(sQ (sP (sP (sP (sQ (sP (sQ sR)))))))) (xH.dQ (i:=0) (n:=1) (sz:=1) O O ay) O O gz O O O (bytes:=8) O O O s3 s3<|fun v39 w40 jD=> ?_
   rw[tJ (jh.set i.toNat (W.getD i.toNat 0))]at jD
   refine AQ 8 O (jD.sub (sQ (sP (sP (sP (sQ (sP (sQ sR)))))))) (af O)<|AQ 9 O (jD.sub (sQ (sP (sP (sP (sQ (sP (sQ sR)))))))) (fA lF 1 O jH O)<|A1 10<|eK O aH jD (j:=4) O (sQ (sP (sP (sP (sQ (sP (sQ sR))))))) (bM O O (v:=v39) O (gG (jD.z7 (i:=6) O trivial)).2 (gG (jD.z7 (i:=6) O trivial)).1 (jD.blk (i:=4) O) aA)<|fun w44 qD=>AD<|SR<|va (v:=B true) rfl<|aa<|aj<|ja O (v:=B true) O ⟨rfl,vW,c26,v39,none,(ul++[(.func (.func 243) #[] #[.pointer (some ⟨b15,0,none⟩),.pointer (some ⟨b3,0,none⟩),.pointer (some ⟨b6,0,none⟩)],jh.set i.toNat (W.getD i.toNat 0))]),[a8.blk b15 (.cells #[U (W.getD i.toNat 0)] 35 (0,0)),a8.blk b3 (.cells #[.pointer (some ⟨F,8,none⟩)] 193 (0,0)),a8.blk b6 (.cells #[I i] 3 (0,0))],arw,trivial,?_,aA,aA,?_,(qD.pj [4,4,4,1,2,1]).sub (sP (sP (sP (sP (sP (sP (sQ sR)))))))⟩
   ·(rw[GV,aP ‹_≠b›];simp;done)
   (intro x hx;rw[Dy,fG]at hx;subst hx;exact⟨_,_,_,rfl,aA,aA,by simp[fF hi.1]⟩)
  refine cN O aH O lQ (sP (sP (sP (sQ (sP (sQ sR)))))) (f:=fun b=> .slice (some ⟨b,0,none⟩) 1 1) (bZ gz O O (sz:=1) (vs:=[.func _ _ _]) O O ay ay O O)<|fun b48 w46 nO=> ?_
  (try simp only[ot]at nO)
  refine A1 4<|bW O aH O nO (sQ (sP (sP (sP (sQ (sP (sQ sR))))))) (az gz O O (nO.cell (i:=4) O O))<|A1 7<|Bj (y0:= .func (.func 243) #[] #[.pointer (some ⟨b15,0,none⟩),.pointer (some ⟨b3,0,none⟩),.pointer (some ⟨b6,0,none⟩)]) rfl aH rfl nO (i:=6) O Ib (fun _ _=>(sQ (sP (sP (sP (sQ (sP (sQ sR)))))))) (nO.dQ (i:=0) (n:=1) (sz:=1) O O ay) O O gz O O O (bytes:=8) O O O s3 s3<|fun v53 w54 iB=> ?_
  rw[tJ (jh.set i.toNat (W.getD i.toNat 0))]at iB
  refine AQ 8 O (iB.sub (sQ (sP (sP (sP (sQ (sP (sQ sR)))))))) (af O)<|AQ 9 O (iB.sub (sQ (sP (sP (sP (sQ (sP (sQ sR)))))))) (fA lF 1 O jH O)<|A1 10<|eK O aH iB (j:=4) O (sQ (sP (sP (sP (sQ (sP (sQ sR))))))) (bM O O (v:=v53) O (gG (iB.z7 (i:=6) O trivial)).2 (gG (iB.z7 (i:=6) O trivial)).1 (iB.blk (i:=4) O) aA)<|fun w58 Ao=>AD<|SR<|va (v:=B true) rfl<|aa<|aj<|ja O (v:=B true) O ⟨rfl,vW,c26,v53,none,(ul++[(.func (.func 243) #[] #[.pointer (some ⟨b15,0,none⟩),.pointer (some ⟨b3,0,none⟩),.pointer (some ⟨b6,0,none⟩)],jh.set i.toNat (W.getD i.toNat 0))]),[a8.blk b15 (.cells #[U (W.getD i.toNat 0)] 35 (0,0)),a8.blk b3 (.cells #[.pointer (some ⟨F,8,none⟩)] 193 (0,0)),a8.blk b6 (.cells #[I i] 3 (0,0))],arw,trivial,?_,aA,aA,?_,(Ao.pj [4,4,4,1,2,1]).sub (sP (sP (sP (sP (sP (sP (sQ sR)))))))⟩
  ·(rw[GV,aP ‹_≠b›];simp;done)
  (intro x hx;rw[Dy,fG]at hx;subst hx;exact⟨_,_,_,rfl,aA,aA,by simp[fF hi.1]⟩)
 refine ak<|SR<|va (v:=B true) rfl<|aa<|aj<| ?_
 rw[Lq (Pr.1 ‹¬_≠b›)]
 refine ja O (v:=B true) O ⟨rfl,vW,cW,vU,cU,ul,[],xO,Ib,?_,aA,aA,?_,(er.pj [3,3,3]).sub (sP (sP (sP (sQ (sQ (sQ sR))))))⟩
 ·(rw[GV,aR (Pr.1 ‹¬_≠b›)])
 (intro x hx;simp at hx)
theorem jU{nA nB nC nD nE nF nG nH nI nJ nK nL:Value}(W0:World)(F:Nat)(vW vU vT:Value)(cnt:Int)(cW cU:Option (Nat×Array Value))(W:List (BitVec 64))(ul:List (Value×jh))(L:List a8)(i k to:Int)(X0:W.length<=4000000)(M7:ul.length<=4000000)(hi:0<=i/\i<1000000/\0<=k/\k<4/\4*i+k<W.length)(w:World)(xO:cO cW vW (W.map U))(Ib:cO cU vU (ul.map Prod.fst))(hH:Hp W0 w (.blk F (.cells #[nA,nB,nC,nD,nE,nF,nG,nH,vW,vU,vT,I (cnt),nI,nJ,nK,nL] 111 (0,0))::cE cW vW 35 (W.map U)::cE cU vU 1 (ul.map Prod.fst)::L)):Calls Tryz.prog 189 #[.pointer (some ⟨F,8,none⟩),I i,I k,I to] w (jF fun u w'=>u= .tuple #[]/\∃(v':Value) (c':Option (Nat×Array Value)) (v2:Value) (c2:Option (Nat×Array Value)) (xK:List (Value×jh)) (Lb:List a8),cO c' v' ((W.set (4*i+k).toNat (BitVec.ofInt 64 to)).map U)/\cO c2 v2 (xK.map Prod.fst)/\xK.map Prod.snd=GV W (ul.map Prod.snd) (4*i+k).toNat (BitVec.ofInt 64 to)/\xK.take ul.length=ul/\xK.length<=ul.length+1/\(∀x∈xK.drop ul.length,oA (⟨134,243,193,3,35,8⟩:UT) F Lb x)/\Hp W0 w' (.blk F (.cells #[nA,nB,nC,nD,nE,nF,nG,nH,v',v2,vT,I (cnt),nI,nJ,nK,nL] 111 (0,0))::cE c' v' 35 ((W.set (4*i+k).toNat (BitVec.ofInt 64 to)).map U)::cE c2 v2 1 (xK.map Prod.fst)::(Lb++L))):=by
 refine en func189 rfl rfl<|au<|aG (v:=Pn _ _) rfl<|V (af O)<|V (fA x7 0 O yb O)<|mI rfl<|V (B6 O O J)<|mI rfl<|V (ax O O J)<|mI rfl<|V (kF bt dU O)<|ct O (FB _ _ _ _ _ _ _ _ _ _ _ _ _ J J J _ xO Ib hH) (bz call217 O O O)<| ?_
 rintro _ w3 ⟨rfl,v6,c7,u8,e9,aCY,aCZ,aC0,aC1,aC2,aC3,aC4,aC5,h4⟩
 refine aa<|p5 O ⟨rfl,v6,c7,u8,e9,aCY,aCZ,aC0,aC1,aC2,aC3,aC4,aC5,h4⟩
theorem ah3{nA nB nC nD nE nF nG nH nI nJ nK nL:Value}{W0 w:World}{F:Nat}{vW vU vT:Value}{cnt:Int}{cW:Option (Nat×Array Value)}{W:List (BitVec 64)}{L:List a8}(x:Value×jh)(hx:oA (⟨134,243,193,3,35,8⟩:UT) F L x)(hok:match x.2 with| .add n=>n<=W.length| .set i _=>i<W.length)(xO:cO cW vW (W.map U))(hH:Hp W0 w (.blk F (.cells #[nA,nB,nC,nD,nE,nF,nG,nH,vW,vU,vT,I (cnt),nI,nJ,nK,nL] 111 (0,0))::cE cW vW 35 (W.map U)::L)):
  ∃(f:FuncId) (cs:List Value),x.1= .func (.func f) #[] cs.toArray/\(∀args w,(callFunc f args).run Tryz.prog w= .ok (.enter f args) w)/\Calls Tryz.prog f cs.toArray w (jF fun u w'=>u= .tuple #[]/\∃v' c',cO c' v' ((Qx W x.2).map U)/\Hp W0 w' (.blk F (.cells #[nA,nB,nC,nD,nE,nF,nG,nH,v',vU,vT,I (cnt),nI,nJ,nK,nL] 111 (0,0))::cE c' v' 35 ((Qx W x.2).map U)::L)):=by
 obtain⟨v,u⟩:=x
 cases u with
 |add n=>
  obtain⟨b1,b2,h0,h1,h2⟩:=hx
  have hc:=CK W0 F vW vU vT cnt cW W L b1 b2 n ⟨J,by exact Int.ofNat_le.2 hok⟩ w h1 h2 xO hH
  rw[dW]at hc
  exact⟨_,[_,_],h0,call134,hc⟩
 |set i b=>
  obtain⟨b1,b2,b3,h0,h1,h2,h3⟩:=hx
  have hc:=CL W0 F vW vU vT cnt cW W L b1 b2 b3 i b ⟨J,by exact Int.ofNat_lt.2 hok⟩ w h1 h2 h3 xO hH
  rw[dW]at hc
  exact⟨_,[_,_,_],h0,call243,hc⟩
theorem Eg{nA nB nC nD nE nF nG nH nI nJ nK nL:Value}(W0:World)(F:Nat)(vW vU vT:Value)(cnt:Int)(cW cU:Option (Nat×Array Value))(W:List (BitVec 64))(ul:List (Value×jh))(L:List a8)(m:Int)(X0:W.length<=4000000)(M7:ul.length<=4000000)(hm:0<=m/\m<=ul.length)(w:World)(hI:∀x∈ul,oA (⟨134,243,193,3,35,8⟩:UT) F L x)(hok:Ln W.length (ul.map Prod.snd))(xO:cO cW vW (W.map U))(Ib:cO cU vU (ul.map Prod.fst))(hH:Hp W0 w (.blk F (.cells #[nA,nB,nC,nD,nE,nF,nG,nH,vW,vU,vT,I (cnt),nI,nJ,nK,nL] 111 (0,0))::cE cW vW 35 (W.map U)::cE cU vU 1 (ul.map Prod.fst)::L)):Calls Tryz.prog 92 #[.pointer (some ⟨F,8,none⟩),I m] w (jF fun u w'=>u=B true/\∃(v':Value) (c':Option (Nat×Array Value)) (v2:Value) (c2:Option (Nat×Array Value)),cO c' v' ((iT W (ul.map Prod.snd) m.toNat).map U)/\cO c2 v2 ((ul.take m.toNat).map Prod.fst)/\Hp W0 w' (.blk F (.cells #[nA,nB,nC,nD,nE,nF,nG,nH,v',v2,vT,I (cnt),nI,nJ,nK,nL] 111 (0,0))::cE c' v' 35 ((iT W (ul.map Prod.snd) m.toNat).map U)::cE c2 v2 1 ((ul.take m.toNat).map Prod.fst)::L)):=by
 have hlm:(ul.map Prod.fst).length=ul.length:=fx ..
 refine en func92 rfl rfl<|SR<|va (v:=B false) rfl<|aa<|ah<|SR<|aG (v:=Pn _ _) rfl<|V (jB pq O O)<|mB rfl<|cD O rfl<|mI rfl<|aG (v:=Pn _ _) rfl<|V (af O)<|V (fA lF 1 O jH O)<|lV gz hH 0 O O rfl<|V (aD (hH.z7 (i:=2) O Ib) O gz O)<|V (dx O O)<|mB rfl<|aa<|aF O (fun h2=> ?_) (fun h2=> ?_)
 .refine SR<|va (v:=B false) rfl<|aa<|aj<| ?_
  exfalso;omega
 refine ak<|ah<|SR<|aG (v:=Pn _ _) rfl<|V (af O)<|V (fA lF 1 O jH O)<|lV gz hH 0 O O rfl<|V (aD (hH.z7 (i:=2) O Ib) O gz O)<|V (fK O O J)<|aI rfl<|aa<|aC<|have e0:iT W (ul.map Prod.snd) (ul.length:Int).toNat=W:=(by rw[dW,<-fx (f:=Prod.snd)];exact Cq);have e1:ul.take (ul.length:Int).toNat=ul:=aA;bj (G:=Int×Value×(Option (Nat×Array Value))×Value×(Option (Nat×Array Value))) (fun⟨k,v1,c1,u1,c2⟩ s' w'=>(Fr (5::(rg 23 24 [])) _ s')/\(Hp W0 w' (.blk F (.cells #[nA,nB,nC,nD,nE,nF,nG,nH,v1,u1,vT,I (cnt),nI,nJ,nK,nL] 111 (0,0))::cE c1 v1 35 ((iT W (ul.map Prod.snd) k.toNat).map U)::cE c2 u1 1 ((ul.take k.toNat).map Prod.fst)::_))/\(s' 5=I (k-1))/\(m<=k)/\(k<=ul.length)/\(cO c1 v1 ((iT W (ul.map Prod.snd) k.toNat).map U))/\(cO c2 u1 ((ul.take k.toNat).map Prod.fst))) (fun⟨k,v1,c1,u1,c2⟩=>(k-m).toNat) ((ul.length,vW,cW,vU,cU)) ⟨Fr.refl _ _,(by rw[e0,e1];exact hH),(aJ I J),J,J,P5,(by rw[e1];exact Ib)⟩<| ?_
 rintro⟨k,v1,c1,u1,c2⟩ sg3 w3 ⟨fr3,tK,IJ,k0,k1,HN,Cp⟩
 obtain⟨Ag,arx⟩:=fr3.w2 0 1
 refine ah<|SR<|aG IJ<|aG arx<|V (Ey O O)<|V (di O O)<|aa<|aF O (fun h5=> ?_) (fun h5=> ?_)
 .refine ak<|ah<|aC<|SR<|aG Ag<|V (af O)<|V (fA lF 1 O jH O)<|lV gz tK 0 O O rfl<|aG IJ<|V (ag (tK.z7 (i:=2) O Cp) gz sizeOf1 O O (by(simp only[fx,eD];omega)))<|V (az underlying1 O O ((tK.z7 (i:=2) O Cp).cell _ _ (akx J J)))<|have hkl:(k-1).toNat<ul.length:=J;have hL1:Hp W0 w3 (.blk F (.cells #[nA,nB,nC,nD,nE,nF,nG,nH,v1,u1,vT,I (cnt),nI,nJ,nK,nL] 111 (0,0))::cE c1 v1 35 ((iT W (ul.map Prod.snd) k.toNat).map U)::(cE c2 u1 1 ((ul.take k.toNat).map Prod.fst)::L)):=tK;?_
  obtain⟨f6,cs7,hv8,hf9,aC6⟩:=ah3 (ul[(k-1).toNat]) ((hI _ (pS hkl)).mono fun e he=>mT he) (apK hok (by simpa using hkl) J) HN hL1
  refine ct O aC6 (KD hf9 ((show _=_ from O).trans ((afK J hkl).trans hv8))) ?_
  rintro _ XD ⟨rfl,v11,c12,acp,Jn⟩
  rw[apJ J hkl]at acp Jn
  refine aa<|au<|aG Ag<|aG Ag<|V (af O)<|V (fA lF 1 O jH O)<|lV gz Jn 0 O O rfl<|aG IJ<|aG IJ<|V (uz (Jn.z7 (i:=2) O Cp) gz sizeOf1 O O O V6)<|V (af O)<|V (fA lF 1 O jH O)<|have hs1:=((Jn.z7 (i:=2) O Cp)).r8 (n:=(k-1).toNat) V6;?_
  obtain⟨c18,X7,cJ⟩:=Jn.apI (i:=2) O Cp (m:=(k-1).toNat) V6
  simp only[ij,kf,<-AI,AF,show min (k-1).toNat k.toNat=(k-1).toNat by omega]at cJ X7
  refine bk cJ (i:=0) O (bM O O (v:=(r8 u1 (k-1).toNat)) O (gG hs1).2 (gG hs1).1 (cJ.blk (i:=0) O) aA)<|fun Nr c8=>aa<|au<|aG IJ<|V (fK O O J)<|aI rfl<|aa<| ?_
  refine⟨(k-1,v11,c12,(r8 u1 (k-1).toNat),c18),aW,fr3.u4.u4.u4.u4.u4.u4.u1,(Hp.conv c8 aM),(aJ I aM),J,J,?_,?_⟩
  .exact acp
  exact X7
 refine aY (id:=0) rfl<|SR<|va (v:=B true) rfl<|aa<|aj<|have ek:k=m:=J;?_
 subst ek
 exact ja O (v:=B true) O ⟨rfl,v1,c1,u1,c2,HN,Cp,tK⟩
def Tryz.Ro:Go.Shelf.Ren:=⟨fun|189=>161|125=>192|257=>191|128=>228|129=>229|294=>219|295=>220|296=>221|297=>222|298=>223|299=>224|216=>225|300=>226|301=>227|328=>244|329=>245|330=>246|331=>247|332=>248|215=>249|343=>257|n=>n,fun|28=>99|3=>3|46=>59|0=>0|51=>201|53=>35|4=>4|183=>247|182=>246|131=>174|5=>5|9=>9|218=>260|222=>264|228=>270|229=>271|n=>n,fun|n=>n⟩
theorem Tryz.ah4:Go.Proofs.Lays.n189 Tryz.prog Tryz.Ro:={
 mixed:=aN
 f125:=func192.trans (aJ some aN)
 f128:=func228.trans (aJ some aN)
 f129:=func229.trans (aJ some aN)
 f189:=func161.trans (aJ some aN)
 f215:=func249.trans (aJ some aN)
 f216:=func225.trans (aJ some aN)
 f257:=func191.trans (aJ some aN)
 f294:=func219.trans (aJ some aN)
 f295:=func220.trans (aJ some aN)
 f296:=func221.trans (aJ some aN)
 f297:=func222.trans (aJ some aN)
 f298:=func223.trans (aJ some aN)
 f299:=func224.trans (aJ some aN)
 f300:=func226.trans (aJ some aN)
 f301:=func227.trans (aJ some aN)
 f328:=func244.trans (aJ some aN)
 f329:=func245.trans (aJ some aN)
 f330:=func246.trans (aJ some aN)
 f331:=func247.trans (aJ some aN)
 f332:=func248.trans (aJ some aN)
 f343:=func257.trans (aJ some aN)
 t0:=underlying0
 a0:=isAgg0
 z0:=sizeOf0
 v0:=Tryz.zeroValue0
 t3:=bt
 a3:=isAgg3
 z3:=bp
 v3:=Tryz.zeroValue3
 t4:=sI
 a4:=isAgg4
 z4:=mN
 v4:=Tryz.zeroValue4
 t5:=underlying5
 a5:=isAgg5
 z5:=sizeOf5
 v5:=Tryz.zeroValue5
 t9:=gK
 a9:=isAgg9
 z9:=jK
 v9:=Tryz.zeroValue9
 t28:=bq
 a28:=isAgg99
 z28:=df
 v28:=Tryz.zeroValue99
 t46:=DB
 a46:=isAgg59
 z46:=sizeOf59
 v46:=Tryz.zeroValue59
 t51:=underlying201
 a51:=isAgg201
 z51:=sizeOf201
 v51:=Tryz.zeroValue201
 t53:=dU
 a53:=isAgg35
 z53:=cX
 v53:=Tryz.zeroValue35
 t131:=underlying174
 a131:=isAgg174
 z131:=sizeOf174
 v131:=Tryz.zeroValue174
 t182:=underlying246
 a182:=isAgg246
 z182:=sizeOf246
 v182:=Tryz.zeroValue246
 t183:=underlying247
 a183:=isAgg247
 z183:=sizeOf247
 v183:=Tryz.zeroValue247
 t218:=underlying260
 a218:=isAgg260
 z218:=sizeOf260
 v218:=Tryz.zeroValue260
 t222:=underlying264
 a222:=isAgg264
 z222:=sizeOf264
 v222:=Tryz.zeroValue264
 t228:=underlying270
 a228:=isAgg270
 z228:=sizeOf270
 v228:=Tryz.zeroValue270
 t229:=underlying271
 a229:=isAgg271
 z229:=sizeOf271
 v229:=Tryz.zeroValue271}
section
open Go.Sort Go.Shelf
theorem ary(blk cap:Nat)(zs:List Int)(w:World)(hH:Holds (Value.int .i64) w blk 0 zs.toArray)(hblk:blk<w.heap.size)(hsz:zs.length<4611686018427387904):
  Calls Tryz.prog 161 #[.slice (some ⟨blk,0,none⟩) zs.length cap] w fun e w'=>e= .returned (.tuple #[])/\∃n os,w'=grow (putRow (Value.int .i64) (Sort.ahead w n) blk 0 (zs.mergeSort fun x y=>decide (x<=y)).toArray) os:=
 calls_of_every_depth fun D=>AnyS.slices_Sort_int_alone Tryz.ah4 D blk 0 cap zs w hH hblk hsz
theorem X8{w0 w:World}{L:List a8}{i:Nat}{v:Value}{e:TypeId}{zs:List Int}(hH:Hp w0 w L)(hi:L[i]?=some (.row v e 1 zs.length (zs.map I)))(hn:0<zs.length)(hs:zs.length<=4000000):
  Calls Tryz.prog 161 #[v] w (jF fun u w'=>u= .tuple #[]/\Hp w0 w' (L.set i (.row v e 1 zs.length ((zs.mergeSort fun x y=>decide (x<=y)).map I)))):=by
 obtain⟨hl,h2⟩:=hH.get hi
 rcases h2 with⟨rfl,q⟩|⟨gb,cap,cur,rfl,hb,hg,hnc,hm,hsz,ht⟩
 .omega
 have hlt:gb<w.heap.size:=(Ay.1 hg).1
 have hlen:(zs.mergeSort fun x y=>decide (x<=y)).length=zs.length:=List.length_mergeSort _
 refine Calls.mono (ary gb cap zs w (holds_of_blockI hg (by rw[kX]at ht;exact ht)) hlt J) fun en w' ⟨he,n,os,hw⟩=> ?_
 subst he
 refine⟨rfl,?_⟩
 subst hw
 have h3:=ownsRow_sortedI (w:=w) (base:=w0.heap.size) (os:=os) (n:=n) (ss:=zs) (ts:=zs.mergeSort fun x y=>decide (x<=y)) hlen hb hg hnc hm hsz
 exact hH.xd hi h3 (grownBy_sortedI _) (.inr (.inl O))
end
theorem Ar{nA nB nC nD nE nF nG nH nI nJ nK nL:Value}(F:Nat)(vW vU vT:Value)(cnt:Int)(nd:List pB)(cl:List Nat)(i:Int)(hn:nd.length<=1000000)(hf:Fo nd cl)(w:World)(hb:w.heap[F]?=some (.cells #[nA,nB,nC,nD,nE,nF,nG,nH,vW,vU,vT,I cnt,nI,nJ,nK,nL] 111 (0,0)))(hW:Sl w vW 1 (bx nd).length ((bx nd).map U)):Calls Tryz.prog 129 #[.pointer (some ⟨F,8,none⟩),I i] w (rM 3 1 (bG cl i).length ((bG cl i).map I) w):=by
 have X0:=gO nd
 refine eH func129 rfl rfl fun hH=>SR<|va (v:= .slice none 0 0) rfl<|have iA:=hH.fl 3 1;aa<|WZ<|ah<|SR<|aG (v:=Pn _ _) rfl<|mI rfl<|aE O iA (lS _ _ _ _ _ _ _ oY _ (iA.ext hb) (hW.hp iA)) (aK call158 O O)<|fun w2 tK=>V (tY O)<|aa<|aF O (fun h7=> ?_) (fun h7=> ?_)
 .refine SR<|va (v:= .slice none 0 0) rfl<|have eX:=tK.fl 3 1;aa<|aj<|Nc O O eX (i:=0) O ((by rw[Ox hf J];rfl)) ((by rw[Ox hf J];rfl))
 refine ak<|SR<|va (v:= .slice none 0 0) rfl<|have iv:=tK.fl 3 1;aa<|SR<|mI rfl<|aI rfl<|aa<|ah<|W3<|ah<|aC<|have hin:0<=i/\i<nd.length:=J;?_
 obtain⟨t,ht,hmt⟩:=hf.ring i.toNat J
 have XX:(i.toNat::t).length<=nd.length:=S8 ht.2 fun k hk=>((hmt k).1 hk).1
 refine bj (G:=Nat×(List Nat)×(List Nat)×Value) (fun⟨a,o,m,v5⟩ s' w'=>(Fr (5::6::(rg 12 12 [])) _ s')/\(Hp w w' (.row v5 3 1 (o.length) ((o.map Int.ofNat).map I)::_))/\(s' 5=v5)/\(s' 6=I (a:Int))/\(i.toNat::t=o++a::m)/\(a<nd.length)/\(o.length+1<=nd.length)) (fun⟨a,o,m,v5⟩=>m.length) ((i.toNat,[],t,(.slice none 0 0:Value))) ⟨Fr.refl _ _,iv,rfl,(aJ I (show i=((i.toNat:Nat):Int)by omega)),rfl,J,(by simp at XX⊢;omega)⟩ ?_
 rintro⟨a,o,m,v5⟩ XQ Hi ⟨rJ,bS,Mu,Ft,he,ha,ho⟩
 obtain⟨Df,ahG⟩:=rJ.w2 0 1
 have hnx:=Y6 hf hn ha
 have hst:=GX ht he
 refine aC<|SR<|aG Mu<|aG Ft<|vP 1 1 bS (bZ bq O O (sz:=1) (vs:=[I _]) O O ay ay O O)<|fun Mm H9 cQ=> ?_
 (try simp only[ot]at cQ)
 refine jm O cQ (i:=1) O (cQ.dQ (i:=0) (n:=1) (sz:=1) O O ay) O O bq O O (size:=1) (bytes:=8) O O O ay jY J jv<|fun v14 XD cF=> ?_
 refine V (run_assign bC) ?_
 refine aa<|SR<|aG Df<|V (af O)<|V (fA gJ 0 O tS O)<|aG Ft<|aE O cF (cY _ _ _ _ _ _ _ _ J _ (cF.ext hb) (hW.hp cF)) (bz sM O O (show _=I 2 from O))<|fun OY dH=>aI rfl<|aa<|SR<|mI rfl<|aG ahG<|V (bO O O)<|aa<|aF O (fun Jm=> ?_) (fun Jm=> ?_)
 .refine aY (id:=0) rfl<|SR<| ?_
  refine V (run_move bC) ?_
  have hzl:((o++[a]).map Int.ofNat).length<=4000000:=by rw[fx,cV,gI];omega
  rw[show(o.map Int.ofNat).map I++[I (a:Int)]=((o++[a]).map Int.ofNat).map I by simp,show o.length+1=((o++[a]).map Int.ofNat).length by simp]at dH
  refine ct O (X8 (zs:=((o++[a]).map Int.ofNat)) (i:=1) (v:=v14) dH O aA hzl) (aq call161 O) ?_
  rintro _ Nr ⟨rfl,c8⟩
  refine aa<|SR<| ?_
  refine V (run_move bC) ?_
  refine V (run_assign bC) ?_
  refine aa<|aj<|Nc O O c8 (i:=1) O ((by rw[<-Lr hf hin ht hmt he J,List.length_mergeSort])) ((by rw[<-Lr hf hin ht hmt he J]))
 refine ak ?_
 refine⟨(r9 nd a,o++[a],m.tail,v14),?_,rJ.u4.u4.u4.u1.u1,(Hp.conv (dH.sub (sQ sR)) aA),rfl,(aJ I (Y6 hf hn ha)),?_,?_,?_⟩
 .exact(yK ht hmt he (fun e=>‹¬_=i› J)).2.2.2
 .exact(yK ht hmt he (fun e=>‹¬_=i› J)).1
 .exact(yK ht hmt he (fun e=>‹¬_=i› J)).2.1
 (have:=(yK ht hmt he (fun e=>‹¬_=i› J)).2.2.1;have:=S8 ht.2 (fun k hk=>((hmt k).1 hk).1);omega)
set_option maxHeartbeats 1000000 in
theorem CM{nA nB nC nD nE nF nG nH nI nJ nK nL:Value}(W0:World)(F:Nat)(vW vU vT:Value)(cnt:Int)(cW cU:Option (Nat×Array Value))(nd:List pB)(ul:List (Value×jh))(ts:List Int)(L:List a8)(hn:nd.length<=100000)(M7:ul.length<=1000000)(hts:ts.length<=1000000)(Uz: -1000000<=cnt/\cnt<=1000000)(w:World)(xO:cO cW vW ((bx nd).map U))(Ib:cO cU vU (ul.map Prod.fst))(hH:Hp W0 w (.blk F (.cells #[nA,nB,nC,nD,nE,nF,nG,nH,vW,vU,vT,I (cnt),nI,nJ,nK,nL] 111 (0,0))::cE cW vW 35 ((bx nd).map U)::cE cU vU 1 (ul.map Prod.fst):: .row vT 3 1 ts.length (ts.map I)::L)):Calls Tryz.prog 47 #[.pointer (some ⟨F,8,none⟩)] w (jF fun u w'=>u=I nd.length/\∃(v1:Value) (c1:Option (Nat×Array Value)) (u1:Value) (c2:Option (Nat×Array Value)) (t1:Value) (lB:List (Value×jh)) (Lb:List a8),cO c1 v1 ((bx (nd++[qy nd.length])).map U)/\cO c2 u1 (lB.map Prod.fst)/\lB.map Prod.snd=Nh (ul.map Prod.snd) (bx nd).length/\lB.take ul.length=ul/\(∀x∈lB.drop ul.length,oA (⟨134,243,193,3,35,8⟩:UT) F Lb x)/\Hp W0 w' (.blk F (.cells #[nA,nB,nC,nD,nE,nF,nG,nH,v1,u1,t1,I (cnt+1),nI,nJ,nK,nL] 111 (0,0))::cE c1 v1 35 ((bx (nd++[qy nd.length])).map U)::cE c2 u1 1 (lB.map Prod.fst):: .row t1 3 1 (ts++[(ul.length:Int)]).length ((ts++[(ul.length:Int)]).map I)::(Lb++L))):=by
 have X0:=gO nd
 refine en func47 rfl rfl<|SR<|va (v:=I 0) rfl<|aa<|ah<|SR<|aG (v:=Pn _ _) rfl<|V (jB JM O O)<|aa<|dm rfl<|ak<|SR<|aG (v:=Pn _ _) rfl<|aE O hH (kT _ _ _ _ _ _ J _ (hH.blk (i:=0) O) (hH.xp (i:=1) O xO)) (aq call89 O)<|fun w1 a7=>aI rfl<|aa<|ah<|ia aN a7 (sQ (sP (sP (sQ sR))))<|fun w3 gL=>have Dl:=gL.sub (sQ (sP (sP (sQ sR))));AQ 0 O Dl (mV (Pn _ _) O)<|AQ 1 O Dl (mV (Pn _ _) O)<|AQ 2 O Dl (af O)<|AQ 3 O Dl (fA gJ 2 O df O)<|AQ 5 O Dl (mV (Pn _ _) O)<|AQ 6 O Dl (af O)<|AQ 7 O Dl (fA gJ 0 O tS O)<|AQ 8 O Dl (fA x7 0 O yb O)<|ic 4 9 aN ?_ ?_
 .refine bW O aH O gL (sQ (sP (sP (sQ sR)))) (az bq O O (gL.cell (i:=0) O O))<|A1 9<|cC O aH O gL (sQ (sP (sP (sQ sR)))) (lR _ _ _ _ _ _ _ _ (gL.blk (i:=0) O) (gL.xp (i:=1) O xO) (gL.z7 (i:=2) O Ib)) (aq call90 O)<|fun w7 eX=>A1 10<|cN O aH O eX (sQ (sP (sP (sQ sR)))) (f:=fun b=> .slice (some ⟨b,0,none⟩) 1 1) (bZ bq O O (sz:=1) (vs:=[I _]) O O ay ay O O)<|fun b11 w9 bS=> ?_
  (try simp only[ot]at bS)
  refine A1 11<|k8 O aH O bS (j:=4) O (fun _=>(sQ (sQ (sP (sP (sQ sR)))))) (bS.dQ (i:=0) (n:=1) (sz:=1) O O ay) O O bq O O (size:=1) (bytes:=8) O O O ay jY J jv<|fun v14 Cx bY=>AQ 12 O (bY.sub (sQ (sQ (sP (sP (sQ sR)))))) (af O)<|AQ 13 O (bY.sub (sQ (sQ (sP (sP (sQ sR)))))) (fA gJ 2 O df O)<|A1 14<|eK O aH bY (j:=1) O (sQ (sQ (sP (sP (sQ sR))))) (bM O O (v:=v14) O (a6 (bY.get (i:=4) O)).1 (a6 (bY.get (i:=4) O)).2 (bY.blk (i:=1) O) aA)<|fun OY dH=>AD<|ah<|SR<|mI rfl<|mI rfl<|mI rfl<|vP 4 4 dH (bZ bq O O (sz:=1) (vs:=[I _,I 1,I _,I _]) O O ay ay O O)<|fun b21 Ub cJ=> ?_
  (try simp only[ot]at cJ)
  refine V (aD (cJ.dQ (i:=0) (n:=4) (sz:=1) O O ay) O bq O)<|aG (v:=I 0) rfl<|aa<|aC<|have e0:((bx nd)++(Eo (qy nd.length)).take (0:Int).toNat)=(bx nd):=aA;bj (G:=Int×Value×(Option (Nat×Array Value))×Value×(Option (Nat×Array Value))×(List (Value×jh))×(List a8)) (fun⟨k,v1,c1,u1,c2,lB,Z1⟩ s' w'=>(Fr (5::(rg 29 12 [])) _ s')/\(Hp W0 w' (_::_:: .blk F (.cells #[nA,nB,nC,nD,nE,nF,nG,nH,v1,u1,v14,I (cnt),nI,nJ,nK,nL] 111 (0,0))::cE c1 v1 35 (((bx nd)++(Eo (qy nd.length)).take k.toNat).map U)::cE c2 u1 1 (lB.map Prod.fst)::_::Z1))/\(s' 29=I k)/\(0<=k)/\(k<=4)/\(cO c1 v1 (((bx nd)++(Eo (qy nd.length)).take k.toNat).map U))/\(cO c2 u1 (lB.map Prod.fst))/\(lB.map Prod.snd=ul.map Prod.snd++Ls (bx nd).length k)/\(lB.take ul.length=ul)/\(∃Lb,Z1=Lb++L/\∀x∈lB.drop ul.length,oA (⟨134,243,193,3,35,8⟩:UT) F Lb x)/\(lB.length<=ul.length+k.toNat)) (fun⟨k,v1,c1,u1,c2,lB,Z1⟩=>(4-k).toNat) ((0,vW,cW,vU,cU,ul,L)) ⟨Fr.refl _ _,(by rw[e0];exact cJ),rfl,J,J,P5,Ib,(by simp[Ls]),(JH ..),⟨[],rfl,aA⟩,J⟩<| ?_
  rintro⟨k,v1,c1,u1,c2,lB,Z1⟩ aCm Ug ⟨ahL,c8,X9,h0,h4,HN,Cp,hms,hpt,hzz,alV⟩
  obtain⟨anX,awn,arz,arA⟩:=ahL.w4 0 3 27 28
  refine SR<|V (aL X9 arA)<|aa<|ah<|aF O (fun zL=> ?_) (fun zL=> ?_)
  .refine ak<|ah<|aC<|SR<|V (ag (c8.dQ (i:=0) (n:=4) (sz:=1) O O ay) bq bp arz X9 J)<|V (az bt O O ((c8.dQ (i:=0) (n:=4) (sz:=1) O O ay).cell _ _ (W4 h0 ‹k<_›)))<|aI rfl<|aa<|au<|aG anX<|V (af O)<|V (fA gJ 0 O tS O)<|V (fA x7 0 O yb O)<|mI rfl<|V (kF bt dU O)<|ct O (qv _ _ _ _ _ _ _ _ _ _ _ _ V1 J _ HN Cp (c8.pj [2,2,2])) (aK call91 O O)<| ?_
   rintro _ w27 ⟨rfl,v30,c31,u32,e33,arB,awo,aC8,aC9,aDa,awp,aDb,awq,h28⟩
   have gj:=Hp.lC (A:=[_,_,_]) (R:=[_,_,_]) h28
   simp only[fH,dZ]at gj
   have xI:=gj.pk [3,3]
   refine aa<|au<|V (ax X9 O J)<|mI rfl<|aa<| ?_
   refine⟨(k+1,v30,c31,u32,e33,arB,(awo++Z1)),aW,ahL.u4.u4.u4.u1,(Hp.conv xI V2),(aJ I aM),J,J,?_,?_,?_,?_,?_,?_⟩
   ·(rw[IS h0 ‹k<_›,<-dg];exact aC8)
   .exact aC9
   ·(rw[aDa,hms,GZ h0,<-dg,cV,eD];congr 3;(have:(Eo (qy nd.length)).length=4:=rfl);omega)
   ·(obtain⟨Z6,rfl,UA⟩:=hzz;exact(oC hpt awp UA awq).1)
   ·(obtain⟨Z6,rfl,UA⟩:=hzz;exact⟨awo++Z6,by rw[dg],(oC hpt awp UA awq).2⟩)
   (have:=aDb;omega)
  refine aY (id:=0) rfl<|SR<|aG anX<|V (af O)<|V (fA gJ 3 O bp O)<|lI bt c8 2 O O rfl<|V (ax O O J)<|V (af O)<|V (fA gJ 3 O bp O)<|bk c8 (i:=2) O (bM O O (v:=I _) O O O (c8.blk (i:=2) O) aA)<|fun w43 wT=>aa<|SR<|aG awn<|aI rfl<|aa<|aj<|have ek:k=4:=J;?_
  subst ek
  obtain⟨Z6,rfl,UA⟩:=hzz
  exact ja O (v:=I nd.length) O ⟨rfl,v1,c1,u1,c2,v14,lB,Z6,V8,Cp,(hms.trans W5),hpt,UA,(by rw[pu,show(ts++[(ul.length:Int)]).length=ts.length+1 by simp,show(ts++[(ul.length:Int)]).map I=ts.map I++[I ((ul.map Prod.fst).length:Int)]by simp];exact(wT.pj [2,2,2,2]).sub (sP (sP (sP (sP (sQ (sQ sR)))))))⟩
 refine cC O aH O gL (sQ (sP (sP (sQ sR)))) (lR _ _ _ _ _ _ _ _ (gL.blk (i:=0) O) (gL.xp (i:=1) O xO) (gL.z7 (i:=2) O Ib)) (aq call90 O)<|fun w45 rK=>ic 4 10 aN ?_ ?_
 .refine bW O aH O rK (sQ (sP (sP (sQ sR)))) (az bq O O (rK.cell (i:=0) O O))<|A1 10<|cN O aH O rK (sQ (sP (sP (sQ sR)))) (f:=fun b=> .slice (some ⟨b,0,none⟩) 1 1) (bZ bq O O (sz:=1) (vs:=[I _]) O O ay ay O O)<|fun b51 w49 ey=> ?_
  (try simp only[ot]at ey)
  refine A1 11<|k8 O aH O ey (j:=4) O (fun _=>(sQ (sQ (sP (sP (sQ sR)))))) (ey.dQ (i:=0) (n:=1) (sz:=1) O O ay) O O bq O O (size:=1) (bytes:=8) O O O ay jY J jv<|fun v54 w52 iZ=>AQ 12 O (iZ.sub (sQ (sQ (sP (sP (sQ sR)))))) (af O)<|AQ 13 O (iZ.sub (sQ (sQ (sP (sP (sQ sR)))))) (fA gJ 2 O df O)<|A1 14<|eK O aH iZ (j:=1) O (sQ (sQ (sP (sP (sQ sR))))) (bM O O (v:=v54) O (a6 (iZ.get (i:=4) O)).1 (a6 (iZ.get (i:=4) O)).2 (iZ.blk (i:=1) O) aA)<|fun w57 sW=>AD<|ah<|SR<|mI rfl<|mI rfl<|mI rfl<|vP 4 4 sW (bZ bq O O (sz:=1) (vs:=[I _,I 1,I _,I _]) O O ay ay O O)<|fun b61 w59 BW=> ?_
  (try simp only[ot]at BW)
  refine V (aD (BW.dQ (i:=0) (n:=4) (sz:=1) O O ay) O bq O)<|aG (v:=I 0) rfl<|aa<|aC<|have e0:((bx nd)++(Eo (qy nd.length)).take (0:Int).toNat)=(bx nd):=aA;bj (G:=Int×Value×(Option (Nat×Array Value))×Value×(Option (Nat×Array Value))×(List (Value×jh))×(List a8)) (fun⟨k,v1,c1,u1,c2,lB,Z1⟩ s' w'=>(Fr (5::(rg 29 12 [])) _ s')/\(Hp W0 w' (_::_:: .blk F (.cells #[nA,nB,nC,nD,nE,nF,nG,nH,v1,u1,v54,I (cnt),nI,nJ,nK,nL] 111 (0,0))::cE c1 v1 35 (((bx nd)++(Eo (qy nd.length)).take k.toNat).map U)::cE c2 u1 1 (lB.map Prod.fst)::_::Z1))/\(s' 29=I k)/\(0<=k)/\(k<=4)/\(cO c1 v1 (((bx nd)++(Eo (qy nd.length)).take k.toNat).map U))/\(cO c2 u1 (lB.map Prod.fst))/\(lB.map Prod.snd=ul.map Prod.snd++Ls (bx nd).length k)/\(lB.take ul.length=ul)/\(∃Lb,Z1=Lb++L/\∀x∈lB.drop ul.length,oA (⟨134,243,193,3,35,8⟩:UT) F Lb x)/\(lB.length<=ul.length+k.toNat)) (fun⟨k,v1,c1,u1,c2,lB,Z1⟩=>(4-k).toNat) ((0,vW,cW,vU,cU,ul,L)) ⟨Fr.refl _ _,(by rw[e0];exact BW),rfl,J,J,P5,Ib,(by simp[Ls]),(JH ..),⟨[],rfl,aA⟩,J⟩<| ?_
  rintro⟨k,v1,c1,u1,c2,lB,Z1⟩ aLa w62 ⟨awr,pO,Ya,h0,h4,HN,Cp,hms,hpt,hzz,alV⟩
  obtain⟨anZ,aws,arC,arD⟩:=awr.w4 0 3 27 28
  refine SR<|V (aL Ya arD)<|aa<|ah<|aF O (fun h64=> ?_) (fun h64=> ?_)
  .refine ak<|ah<|aC<|SR<|V (ag (pO.dQ (i:=0) (n:=4) (sz:=1) O O ay) bq bp arC Ya J)<|V (az bt O O ((pO.dQ (i:=0) (n:=4) (sz:=1) O O ay).cell _ _ (W4 h0 ‹k<_›)))<|aI rfl<|aa<|au<|aG anZ<|V (af O)<|V (fA gJ 0 O tS O)<|V (fA x7 0 O yb O)<|mI rfl<|V (kF bt dU O)<|ct O (qv _ _ _ _ _ _ _ _ _ _ _ _ V1 J _ HN Cp (pO.pj [2,2,2])) (aK call91 O O)<| ?_
   rintro _ w67 ⟨rfl,v70,c71,u72,e73,aDc,acq,aDd,aDe,aDf,awt,aDg,awu,h68⟩
   have NA:=Hp.lC (A:=[_,_,_]) (R:=[_,_,_]) h68
   simp only[fH,dZ]at NA
   have pP:=NA.pk [3,3]
   refine aa<|au<|V (ax Ya O J)<|mI rfl<|aa<| ?_
   refine⟨(k+1,v70,c71,u72,e73,aDc,(acq++Z1)),aW,awr.u4.u4.u4.u1,(Hp.conv pP V2),(aJ I aM),J,J,?_,?_,?_,?_,?_,?_⟩
   ·(rw[IS h0 ‹k<_›,<-dg];exact aDd)
   .exact aDe
   ·(rw[aDf,hms,GZ h0,<-dg,cV,eD];congr 3;(have:(Eo (qy nd.length)).length=4:=rfl);omega)
   ·(obtain⟨Z6,rfl,UA⟩:=hzz;exact(oC hpt awt UA awu).1)
   ·(obtain⟨Z6,rfl,UA⟩:=hzz;exact⟨acq++Z6,by rw[dg],(oC hpt awt UA awu).2⟩)
   (have:=aDg;omega)
  refine aY (id:=0) rfl<|SR<|aG anZ<|V (af O)<|V (fA gJ 3 O bp O)<|lI bt pO 2 O O rfl<|V (ax O O J)<|V (af O)<|V (fA gJ 3 O bp O)<|bk pO (i:=2) O (bM O O (v:=I _) O O O (pO.blk (i:=2) O) aA)<|fun w83 nP=>aa<|SR<|aG aws<|aI rfl<|aa<|aj<|have ek:k=4:=J;?_
  subst ek
  obtain⟨Z6,rfl,UA⟩:=hzz
  exact ja O (v:=I nd.length) O ⟨rfl,v1,c1,u1,c2,v54,lB,Z6,V8,Cp,(hms.trans W5),hpt,UA,(by rw[pu,show(ts++[(ul.length:Int)]).length=ts.length+1 by simp,show(ts++[(ul.length:Int)]).map I=ts.map I++[I ((ul.map Prod.fst).length:Int)]by simp];exact(nP.pj [2,2,2,2]).sub (sP (sP (sP (sP (sQ (sQ sR)))))))⟩
 refine cN O aH O rK (sQ (sP (sP (sQ sR)))) (f:=fun b=> .slice (some ⟨b,0,none⟩) 1 1) (bZ bq O O (sz:=1) (vs:=[I _]) O O ay ay O O)<|fun b87 w85 vb=> ?_
 (try simp only[ot]at vb)
 refine A1 4<|bW O aH O vb (sQ (sQ (sP (sP (sQ sR))))) (az bq O O (vb.cell (i:=1) O O))<|A1 11<|k8 O aH O vb (j:=4) O (fun _=>(sQ (sQ (sP (sP (sQ sR)))))) (vb.dQ (i:=0) (n:=1) (sz:=1) O O ay) O O bq O O (size:=1) (bytes:=8) O O O ay jY J jv<|fun v92 w90 MI=>AQ 12 O (MI.sub (sQ (sQ (sP (sP (sQ sR)))))) (af O)<|AQ 13 O (MI.sub (sQ (sQ (sP (sP (sQ sR)))))) (fA gJ 2 O df O)<|A1 14<|eK O aH MI (j:=1) O (sQ (sQ (sP (sP (sQ sR))))) (bM O O (v:=v92) O (a6 (MI.get (i:=4) O)).1 (a6 (MI.get (i:=4) O)).2 (MI.blk (i:=1) O) aA)<|fun w95 uO=>AD<|ah<|SR<|mI rfl<|mI rfl<|mI rfl<|vP 4 4 uO (bZ bq O O (sz:=1) (vs:=[I _,I 1,I _,I _]) O O ay ay O O)<|fun b99 w97 Rj=> ?_
 (try simp only[ot]at Rj)
 refine V (aD (Rj.dQ (i:=0) (n:=4) (sz:=1) O O ay) O bq O)<|aG (v:=I 0) rfl<|aa<|aC<|have e0:((bx nd)++(Eo (qy nd.length)).take (0:Int).toNat)=(bx nd):=aA;bj (G:=Int×Value×(Option (Nat×Array Value))×Value×(Option (Nat×Array Value))×(List (Value×jh))×(List a8)) (fun⟨k,v1,c1,u1,c2,lB,Z1⟩ s' w'=>(Fr (5::(rg 29 12 [])) _ s')/\(Hp W0 w' (_::_:: .blk F (.cells #[nA,nB,nC,nD,nE,nF,nG,nH,v1,u1,v92,I (cnt),nI,nJ,nK,nL] 111 (0,0))::cE c1 v1 35 (((bx nd)++(Eo (qy nd.length)).take k.toNat).map U)::cE c2 u1 1 (lB.map Prod.fst)::_::Z1))/\(s' 29=I k)/\(0<=k)/\(k<=4)/\(cO c1 v1 (((bx nd)++(Eo (qy nd.length)).take k.toNat).map U))/\(cO c2 u1 (lB.map Prod.fst))/\(lB.map Prod.snd=ul.map Prod.snd++Ls (bx nd).length k)/\(lB.take ul.length=ul)/\(∃Lb,Z1=Lb++L/\∀x∈lB.drop ul.length,oA (⟨134,243,193,3,35,8⟩:UT) F Lb x)/\(lB.length<=ul.length+k.toNat)) (fun⟨k,v1,c1,u1,c2,lB,Z1⟩=>(4-k).toNat) ((0,vW,cW,vU,cU,ul,L)) ⟨Fr.refl _ _,(by rw[e0];exact Rj),rfl,J,J,P5,Ib,(by simp[Ls]),(JH ..),⟨[],rfl,aA⟩,J⟩<| ?_
 rintro⟨k,v1,c1,u1,c2,lB,Z1⟩ aHG arE ⟨an0,qN,Rp,h0,h4,HN,Cp,hms,hpt,hzz,alV⟩
 obtain⟨ah6,arF,alW,alX⟩:=an0.w4 0 3 27 28
 refine SR<|V (aL Rp alX)<|aa<|ah<|aF O (fun aDh=> ?_) (fun aDh=> ?_)
 .refine ak<|ah<|aC<|SR<|V (ag (qN.dQ (i:=0) (n:=4) (sz:=1) O O ay) bq bp alW Rp J)<|V (az bt O O ((qN.dQ (i:=0) (n:=4) (sz:=1) O O ay).cell _ _ (W4 h0 ‹k<_›)))<|aI rfl<|aa<|au<|aG ah6<|V (af O)<|V (fA gJ 0 O tS O)<|V (fA x7 0 O yb O)<|mI rfl<|V (kF bt dU O)<|ct O (qv _ _ _ _ _ _ _ _ _ _ _ _ V1 J _ HN Cp (qN.pj [2,2,2])) (aK call91 O O)<| ?_
  rintro _ arG ⟨rfl,aDi,aDj,aDk,aDl,aww,an1,ah7,awx,awy,an2,awz,an3,aDm⟩
  have O8:=Hp.lC (A:=[_,_,_]) (R:=[_,_,_]) aDm
  simp only[fH,dZ]at O8
  have awA:=O8.pk [3,3]
  refine aa<|au<|V (ax Rp O J)<|mI rfl<|aa<| ?_
  refine⟨(k+1,aDi,aDj,aDk,aDl,aww,(an1++Z1)),aW,an0.u4.u4.u4.u1,(Hp.conv awA V2),(aJ I aM),J,J,?_,?_,?_,?_,?_,?_⟩
  ·(rw[IS h0 ‹k<_›,<-dg];exact ah7)
  .exact awx
  ·(rw[awy,hms,GZ h0,<-dg,cV,eD];congr 3;(have:(Eo (qy nd.length)).length=4:=rfl);omega)
  ·(obtain⟨Z6,rfl,UA⟩:=hzz;exact(oC hpt an2 UA an3).1)
  ·(obtain⟨Z6,rfl,UA⟩:=hzz;exact⟨an1++Z6,by rw[dg],(oC hpt an2 UA an3).2⟩)
  (have:=awz;omega)
 refine aY (id:=0) rfl<|SR<|aG ah6<|V (af O)<|V (fA gJ 3 O bp O)<|lI bt qN 2 O O rfl<|V (ax O O J)<|V (af O)<|V (fA gJ 3 O bp O)<|bk qN (i:=2) O (bM O O (v:=I _) O O O (qN.blk (i:=2) O) aA)<|fun aDn ah8=>aa<|SR<|aG arF<|aI rfl<|aa<|aj<|have ek:k=4:=J;?_
 subst ek
 obtain⟨Z6,rfl,UA⟩:=hzz
 exact ja O (v:=I nd.length) O ⟨rfl,v1,c1,u1,c2,v92,lB,Z6,V8,Cp,(hms.trans W5),hpt,UA,(by rw[pu,show(ts++[(ul.length:Int)]).length=ts.length+1 by simp,show(ts++[(ul.length:Int)]).map I=ts.map I++[I ((ul.map Prod.fst).length:Int)]by simp];exact(ah8.pj [2,2,2,2]).sub (sP (sP (sP (sP (sQ (sQ sR)))))))⟩
set_option maxHeartbeats 1000000 in
theorem Au{nA nB nC nD nE nF nG nH nI nJ nK nL:Value}(W0:World)(F:Nat)(vW vU vT:Value)(cnt:Int)(cW cU:Option (Nat×Array Value))(nd:List pB)(ul:List (Value×jh))(ts:List Int)(L:List a8)(cl:List Nat)(i j:Int)(hn:nd.length<=100000)(M7:ul.length<=1000000)(hts:ts.length<=1000000)(Uz: -1000000<=cnt/\cnt<=1000000)(hf:Fo nd cl)(w:World)(xO:cO cW vW ((bx nd).map U))(Ib:cO cU vU (ul.map Prod.fst))(hH:Hp W0 w (.blk F (.cells #[nA,nB,nC,nD,nE,nF,nG,nH,vW,vU,vT,I (cnt),nI,nJ,nK,nL] 111 (0,0))::cE cW vW 35 ((bx nd).map U)::cE cU vU 1 (ul.map Prod.fst):: .row vT 3 1 ts.length (ts.map I)::L)):Calls Tryz.prog 156 #[.pointer (some ⟨F,8,none⟩),I i,I j] w (jF fun u w'=>(u=B false/\¬G3 nd.length cl i j/\Hp W0 w' (.blk F (.cells #[nA,nB,nC,nD,nE,nF,nG,nH,vW,vU,vT,I (cnt),nI,nJ,nK,nL] 111 (0,0))::cE cW vW 35 ((bx nd).map U)::cE cU vU 1 (ul.map Prod.fst):: .row vT 3 1 ts.length (ts.map I)::L))\/(u=B true/\∃(a b:Nat),UnP nd cl i j a b/\∃(v1:Value) (c1:Option (Nat×Array Value)) (u1:Value) (c2:Option (Nat×Array Value)) (t1:Value) (lB:List (Value×jh)) (Lb:List a8),cO c1 v1 ((bx (oz nd a b)).map U)/\cO c2 u1 (lB.map Prod.fst)/\lG (bx nd) (ul.map Prod.snd) (bx (oz nd a b)) (lB.map Prod.snd)/\lB.take ul.length=ul/\lB.length<=ul.length+5/\(∀x∈lB.drop ul.length,oA (⟨134,243,193,3,35,8⟩:UT) F Lb x)/\Hp W0 w' (.blk F (.cells #[nA,nB,nC,nD,nE,nF,nG,nH,v1,u1,t1,I (cnt-1),nI,nJ,nK,nL] 111 (0,0))::cE c1 v1 35 ((bx (oz nd a b)).map U)::cE c2 u1 1 (lB.map Prod.fst):: .row t1 3 1 (ts++[(ul.length:Int)]).length ((ts++[(ul.length:Int)]).map I)::(Lb++L)))):=by
 have X0:=gO nd
 refine en func156 rfl rfl<|SR<|va (v:=B false) rfl<|aa<|ah<|SR<|aG (v:=Pn _ _) rfl<|mI rfl<|aE O hH (lS _ _ _ _ _ _ _ J _ (hH.blk (i:=0) O) (hH.xp (i:=1) O xO)) (aK call158 O O)<|fun w1 a7=>V (tY O)<|mB rfl<|bI 16 O (fun h6=> ?_) (fun h6=> ?_)
 .refine aG (v:=B true) rfl<|aa<|cr rfl<|SR<|va (v:=B false) rfl<|aa<|aj<|ja O (v:=B false) O (.inl ⟨rfl,(by exact apW J),a7⟩)
 refine aG (v:=Pn _ _) rfl<|mI rfl<|aE O a7 (lS _ _ _ _ _ _ _ J _ (a7.blk (i:=0) O) (a7.xp (i:=1) O xO)) (aK call158 O O)<|fun w7 eX=>V (tY O)<|mB rfl<|aa<|aF O (fun h12=> ?_) (fun h12=> ?_)
 .refine SR<|va (v:=B false) rfl<|aa<|aj<|ja O (v:=B false) O (.inl ⟨rfl,(by exact apX J),eX⟩)
 refine ak<|SR<|aG (v:=Pn _ _) rfl<|mI rfl<|aE O eX (ng _ _ _ _ _ nd cl _ J oY J _ (eX.blk (i:=0) O) (eX.xp (i:=1) O xO)) (aK call160 O O)<|fun C8 cw=>aG (v:=Pn _ _) rfl<|mI rfl<|aE O cw (ng _ _ _ _ _ nd cl _ J oY J _ (cw.blk (i:=0) O) (cw.xp (i:=1) O xO)) (aK call160 O O)<|fun XD cF=>aI rfl<|aI rfl<|aa<|ah<|SR<|mI rfl<|mI rfl<|V (bO O O)<|aa<|aF O (fun pL=> ?_) (fun pL=> ?_)
 .refine SR<|va (v:=B false) rfl<|aa<|aj<|ja O (v:=B false) O (.inl ⟨rfl,(by exact apY hf J J J),cF⟩)
 refine ak<|SR<|aG (v:=Pn _ _) rfl<|V (af O)<|V (fA gJ 0 O tS O)<|va (v:=Pn _ _) rfl<|aa<|DW (G:=(Value)) cF (rg 34 13 []) (fun(L:List a8) (t1:(Value))=>((L).set 0 (.blk F (.cells #[nA,nB,nC,nD,nE,nF,nG,nH,vW,vU,t1,I (cnt),nI,nJ,nK,nL] 111 (0,0)))).set 3 (.row t1 3 1 (ts.length+1) (ts.map I++[I ((ul.map Prod.fst).length:Int)]))) (fun(t1:(Value)) s'=>True) ?_ ?_
 .refine ia aN cF (sQ (sP (sP (sQ sR))))<|fun Ub cJ=>have zh:=cJ.sub (sQ (sP (sP (sQ sR))));AQ 0 O zh (mV (Pn _ _) O)<|AQ 1 O zh (mV (Pn _ _) O)<|AQ 2 O zh (af O)<|AQ 3 O zh (fA gJ 2 O df O)<|AQ 5 O zh (mV (Pn _ _) O)<|AQ 6 O zh (af O)<|AQ 7 O zh (fA x7 0 O yb O)<|ic 4 8 aN ?_ ?_
  .refine bW O aH O cJ (sQ (sP (sP (sQ sR)))) (az bq O O (cJ.cell (i:=0) O O))<|A1 8<|cC O aH O cJ (sQ (sP (sP (sQ sR)))) (lR _ _ _ _ _ _ _ _ (cJ.blk (i:=0) O) (cJ.xp (i:=1) O xO) (cJ.z7 (i:=2) O Ib)) (aq call90 O)<|fun w23 qB=>A1 9<|cN O aH O qB (sQ (sP (sP (sQ sR)))) (f:=fun b=> .slice (some ⟨b,0,none⟩) 1 1) (bZ bq O O (sz:=1) (vs:=[I _]) O O ay ay O O)<|fun b27 w25 j6=> ?_
   (try simp only[ot]at j6)
   refine A1 10<|k8 O aH O j6 (j:=4) O (fun _=>(sQ (sQ (sP (sP (sQ sR)))))) (j6.dQ (i:=0) (n:=1) (sz:=1) O O ay) O O bq O O (size:=1) (bytes:=8) O O O ay jY J jv<|fun v30 w28 gj=>AQ 11 O (gj.sub (sQ (sQ (sP (sP (sQ sR)))))) (af O)<|AQ 12 O (gj.sub (sQ (sQ (sP (sP (sQ sR)))))) (fA gJ 2 O df O)<|A1 13<|eK O aH gj (j:=1) O (sQ (sQ (sP (sP (sQ sR))))) (bM O O (v:=v30) O (a6 (gj.get (i:=4) O)).1 (a6 (gj.get (i:=4) O)).2 (gj.blk (i:=1) O) aA)<|fun w33 mG=>AD<| ?_
   refine⟨((Fr.refl _ _)).u4.u4.u4.u1,v30,(Hp.conv (mG.sub (sQ sR)) aM),trivial⟩
  refine cC O aH O cJ (sQ (sP (sP (sQ sR)))) (lR _ _ _ _ _ _ _ _ (cJ.blk (i:=0) O) (cJ.xp (i:=1) O xO) (cJ.z7 (i:=2) O Ib)) (aq call90 O)<|fun w35 m6=>ic 4 9 aN ?_ ?_
  .refine bW O aH O m6 (sQ (sP (sP (sQ sR)))) (az bq O O (m6.cell (i:=0) O O))<|A1 9<|cN O aH O m6 (sQ (sP (sP (sQ sR)))) (f:=fun b=> .slice (some ⟨b,0,none⟩) 1 1) (bZ bq O O (sz:=1) (vs:=[I _]) O O ay ay O O)<|fun b41 w39 nM=> ?_
   (try simp only[ot]at nM)
   refine A1 10<|k8 O aH O nM (j:=4) O (fun _=>(sQ (sQ (sP (sP (sQ sR)))))) (nM.dQ (i:=0) (n:=1) (sz:=1) O O ay) O O bq O O (size:=1) (bytes:=8) O O O ay jY J jv<|fun v44 w42 me=>AQ 11 O (me.sub (sQ (sQ (sP (sP (sQ sR)))))) (af O)<|AQ 12 O (me.sub (sQ (sQ (sP (sP (sQ sR)))))) (fA gJ 2 O df O)<|A1 13<|eK O aH me (j:=1) O (sQ (sQ (sP (sP (sQ sR))))) (bM O O (v:=v44) O (a6 (me.get (i:=4) O)).1 (a6 (me.get (i:=4) O)).2 (me.blk (i:=1) O) aA)<|fun w47 mH=>AD<| ?_
   refine⟨((Fr.refl _ _)).u4.u4.u4.u1,v44,(Hp.conv (mH.sub (sQ sR)) aM),trivial⟩
  refine cN O aH O m6 (sQ (sP (sP (sQ sR)))) (f:=fun b=> .slice (some ⟨b,0,none⟩) 1 1) (bZ bq O O (sz:=1) (vs:=[I _]) O O ay ay O O)<|fun b51 w49 ey=> ?_
  (try simp only[ot]at ey)
  refine A1 4<|bW O aH O ey (sQ (sQ (sP (sP (sQ sR))))) (az bq O O (ey.cell (i:=1) O O))<|A1 10<|k8 O aH O ey (j:=4) O (fun _=>(sQ (sQ (sP (sP (sQ sR)))))) (ey.dQ (i:=0) (n:=1) (sz:=1) O O ay) O O bq O O (size:=1) (bytes:=8) O O O ay jY J jv<|fun v56 w54 iB=>AQ 11 O (iB.sub (sQ (sQ (sP (sP (sQ sR)))))) (af O)<|AQ 12 O (iB.sub (sQ (sQ (sP (sP (sQ sR)))))) (fA gJ 2 O df O)<|A1 13<|eK O aH iB (j:=1) O (sQ (sQ (sP (sP (sQ sR))))) (bM O O (v:=v56) O (a6 (iB.get (i:=4) O)).1 (a6 (iB.get (i:=4) O)).2 (iB.blk (i:=1) O) aA)<|fun w59 BW=>AD<| ?_
  refine⟨((Fr.refl _ _)).u4.u4.u4.u1,v56,(Hp.conv (BW.sub (sQ sR)) aM),trivial⟩
 rintro t1 aLf w61 aDo CI-
 obtain⟨awB,aHI,ah9,aia,aib⟩:=aDo.w5 0 6 7 8 9
 refine DW (G:=(Nat)×(Nat)) CI (7::8::(rg 47 9 [])) (fun(L:List a8) (⟨a,b⟩:(Nat)×(Nat))=>L) (fun(⟨a,b⟩:(Nat)×(Nat)) s'=>(s' 7=I (a:Int))/\(s' 8=I (b:Int))/\(UnP nd cl i j a b)) ?_ ?_
 .refine SR<|aG aib<|aG ah9<|aE O CI (cY _ _ _ _ _ _ _ _ adg _ (CI.blk (i:=0) O) (CI.xp (i:=1) O xO)) (bz sM O O (show _=I 1 from O))<|fun w62 pc=>aG aib<|aG aia<|aE O pc (cY _ _ _ _ _ _ _ _ adg _ (pc.blk (i:=0) O) (pc.xp (i:=1) O xO)) (bz sM O O (show _=I 1 from O))<|fun w64 uM=>V (aL O O)<|aa<|aF O (fun h67=> ?_) (fun h67=> ?_)
  .refine au<|aG aia<|aG ah9<|aI rfl<|aI rfl<|aa<| ?_
   refine⟨((Fr.refl _ _)).u4.u4.u1.u1.u1,(nT nd cl j.toNat,nT nd cl i.toNat),uM,(aJ I aM),(aJ I aM),?_⟩
   exact(To hf J J J).swap
  refine ak ?_
  refine⟨((Fr.refl _ _)).u4.u1.u1.u1,(nT nd cl i.toNat,nT nd cl j.toNat),uM,(kZ ah9 (aJ I aM)),(kZ aia (aJ I aM)),?_⟩
  exact To hf J J J
 rintro⟨a,b⟩ aDp w68 alY kD ⟨FC,Ic,hP⟩
 obtain⟨awC,BX⟩:=alY.t2 0 awB 9 aib
 have ha:=hP.ha
 have hb:=hP.hb
 have hab:=hP.ab
 have sa:=hf.small ha
 have sb:=hf.small hb
 have ta:=hf.afY ha hP.ua
 have tb:=hf.afY hb hP.ub
 refine SR<|aG BX<|aG Ic<|aG FC<|ct O (jU _ _ _ _ _ _ _ _ _ _ _ _ _ _ J J J _ xO Ib kD) (iQ call189 O O (show _=I 0 from O) O)<| ?_
 rintro _ w71 ⟨rfl,v74,c75,u76,e77,awD,aLg,alZ,aDq,aDr,aDs,aLh,aDt,h72⟩
 have u9:=Hp.lC (A:=[_,_,_]) (R:=[_]) h72
 simp only[fH,dZ]at u9
 have l1:(jX nd b a).length=nd.length:=by simp[jX,my,qz,uB]
 have pe:=gO (jX nd b a)
 have lt1:lG (bx nd) (ul.map Prod.snd) (bx (jX nd b a)) (awD.map Prod.snd):=by rw[aDr,<-afG (nd:=nd) hb];exact lG.set J
 rw[afG hb]at alZ u9
 have la1:=lt1
 have dr1:=And.intro aDs aDt
 refine aa<|SR<|aG BX<|aG FC<|aG BX<|aG FC<|aE O u9 (cY _ _ _ _ _ _ _ _ J _ (u9.blk (i:=0) O) (u9.xp (i:=1) O alZ)) (bz sM O O (show _=I 1 from O))<|fun w86 Uq=>have c64:=am8 (nd:=(jX nd b a)) (a:=a) (v:=jZ nd a) (by rw[l1];exact ha) S9 J;aG BX<|aG Ic<|aE O Uq (cY _ _ _ _ _ _ _ _ J _ (Uq.blk (i:=0) O) (Uq.xp (i:=1) O alZ)) (bz sM O O (show _=I 1 from O))<|fun w88 Rq=>have c67:=am8 (nd:=(jX nd b a)) (a:=b) (v:=jZ nd b) (by rw[l1];exact hb) S9 J;V (ax (aJ I c64) (aJ I c67) J)<|ct O (jU _ _ _ _ _ _ _ _ _ _ _ _ _ _ J J J _ alZ aDq Rq) (iQ call189 O O (show _=I 1 from O) (aJ I (show _=((jZ nd a+jZ nd b:Nat):Int)from by omega)))<| ?_
 rintro _ w92 ⟨rfl,v95,c96,u97,e98,awE,aic,Z7,awF,awG,awH,aHN,awI,h93⟩
 have vc:=Hp.lC (A:=[_,_,_]) (R:=[_]) h93
 simp only[fH,dZ]at vc
 have l2:(my (jX nd b a) a (jZ nd a+jZ nd b)).length=nd.length:=by simp[jX,my,qz,uB]
 have Iz:=gO (my (jX nd b a) a (jZ nd a+jZ nd b))
 have lt2:lG (bx (jX nd b a)) (awD.map Prod.snd) (bx (my (jX nd b a) a (jZ nd a+jZ nd b))) (awE.map Prod.snd):=by rw[awG,<-afH (nd:=(jX nd b a)) (by rw[l1];exact ha)];exact lG.set J
 rw[afH (by rw[l1];exact ha)]at Z7 vc
 have la2:=la1.trans lt2
 have dr2:=oC dr1.1 awH dr1.2 awI
 refine aa<|SR<|aG BX<|aG FC<|aG BX<|aG FC<|aE O vc (cY _ _ _ _ _ _ _ _ J _ (vc.blk (i:=0) O) (vc.xp (i:=1) O Z7)) (bz sM O O (show _=I 3 from O))<|fun aDv UB=>have c74:=ana (nd:=(my (jX nd b a) a (jZ nd a+jZ nd b))) (a:=a) (v:=pR nd a) (by rw[l2];exact ha) (Td.trans Tb) J;aG BX<|aG Ic<|aE O UB (cY _ _ _ _ _ _ _ _ J _ (UB.blk (i:=0) O) (UB.xp (i:=1) O Z7)) (bz sM O O (show _=I 3 from O))<|fun aDw O6=>have c77:=ana (nd:=(my (jX nd b a) a (jZ nd a+jZ nd b))) (a:=b) (v:=pR nd b) (by rw[l2];exact hb) (Td.trans Tb) J;V (tZ (aJ I c74) (aJ I c77))<|ct O (jU _ _ _ _ _ _ _ _ _ _ _ _ _ _ J J J _ Z7 awF O6) (iQ call189 O O (show _=I 3 from O) (aJ I (show _=((min (pR nd a) (pR nd b):Nat):Int)from by omega)))<| ?_
 rintro _ aDx ⟨rfl,aLr,aLs,aLt,aLu,an4,aHP,Z9,awJ,awK,awL,aHQ,awM,arH⟩
 have Ie:=Hp.lC (A:=[_,_,_]) (R:=[_]) arH
 simp only[fH,dZ]at Ie
 have l3:(qz (my (jX nd b a) a (jZ nd a+jZ nd b)) a (min (pR nd a) (pR nd b))).length=nd.length:=by simp[jX,my,qz,uB]
 have wl3:=gO (qz (my (jX nd b a) a (jZ nd a+jZ nd b)) a (min (pR nd a) (pR nd b)))
 have lt3:lG (bx (my (jX nd b a) a (jZ nd a+jZ nd b))) (awE.map Prod.snd) (bx (qz (my (jX nd b a) a (jZ nd a+jZ nd b)) a (min (pR nd a) (pR nd b)))) (an4.map Prod.snd):=by rw[awK,<-afI (nd:=(my (jX nd b a) a (jZ nd a+jZ nd b))) (by rw[l2];exact ha)];exact lG.set J
 rw[afI (by rw[l2];exact ha)]at Z9 Ie
 have la3:=la2.trans lt3
 have dr3:=oC dr2.1 awL dr2.2 awM
 refine aa<|SR<|aG BX<|aG FC<|aE O Ie (cY _ _ _ _ _ _ _ _ J _ (Ie.blk (i:=0) O) (Ie.xp (i:=1) O Z9)) (bz sM O O (show _=I 2 from O))<|fun aLx MJ=>have c82:=am9 (nd:=(qz (my (jX nd b a) a (jZ nd a+jZ nd b)) a (min (pR nd a) (pR nd b)))) (a:=a) (v:=r9 nd a) (by rw[l3];exact ha) (Te.trans (Tc.trans Ta)) J;aG BX<|aG Ic<|aE O MJ (cY _ _ _ _ _ _ _ _ J _ (MJ.blk (i:=0) O) (MJ.xp (i:=1) O Z9)) (bz sM O O (show _=I 2 from O))<|fun aDy aaa=>have c85:=am9 (nd:=(qz (my (jX nd b a) a (jZ nd a+jZ nd b)) a (min (pR nd a) (pR nd b)))) (a:=b) (v:=r9 nd b) (by rw[l3];exact hb) (Te.trans (Tc.trans Ta)) J;V (run_assign (aJ I c82))<|V (run_assign (aJ I c85))<|aa<|SR<|aG BX<|aG FC<|mI rfl<|ct O (jU _ _ _ _ _ _ _ _ _ _ _ _ _ _ J J J _ Z9 awJ aaa) (iQ call189 O O (show _=I 2 from O) O)<| ?_
 rintro _ aLA ⟨rfl,aLB,aLC,aLD,aLE,an5,aHS,an6,awN,awO,awP,aHT,awQ,aDz⟩
 have FD:=Hp.lC (A:=[_,_,_]) (R:=[_]) aDz
 simp only[fH,dZ]at FD
 have l4:(uB (qz (my (jX nd b a) a (jZ nd a+jZ nd b)) a (min (pR nd a) (pR nd b))) a (r9 nd b)).length=nd.length:=by simp[jX,my,qz,uB]
 have wl4:=gO (uB (qz (my (jX nd b a) a (jZ nd a+jZ nd b)) a (min (pR nd a) (pR nd b))) a (r9 nd b))
 have lt4:lG (bx (qz (my (jX nd b a) a (jZ nd a+jZ nd b)) a (min (pR nd a) (pR nd b)))) (an4.map Prod.snd) (bx (uB (qz (my (jX nd b a) a (jZ nd a+jZ nd b)) a (min (pR nd a) (pR nd b))) a (r9 nd b))) (an5.map Prod.snd):=by rw[awO,<-QC (nd:=(qz (my (jX nd b a) a (jZ nd a+jZ nd b)) a (min (pR nd a) (pR nd b)))) (by rw[l3];exact ha)];exact lG.set J
 rw[QC (by rw[l3];exact ha)]at an6 FD
 have la4:=la3.trans lt4
 have dr4:=oC dr3.1 awP dr3.2 awQ
 refine aa<|SR<|aG BX<|aG Ic<|mI rfl<|ct O (jU _ _ _ _ _ _ _ _ _ _ _ _ _ _ J J J _ an6 awN FD) (iQ call189 O O (show _=I 2 from O) O)<| ?_
 rintro _ aLH ⟨rfl,v154,aDA,aDB,aDC,an7,aHV,aid,awR,awS,awT,aHW,awU,aDD⟩
 have Ig:=Hp.lC (A:=[_,_,_]) (R:=[_]) aDD
 simp only[fH,dZ]at Ig
 have l5:(uB (uB (qz (my (jX nd b a) a (jZ nd a+jZ nd b)) a (min (pR nd a) (pR nd b))) a (r9 nd b)) b (r9 nd a)).length=nd.length:=by simp[jX,my,qz,uB]
 have wl5:=gO (uB (uB (qz (my (jX nd b a) a (jZ nd a+jZ nd b)) a (min (pR nd a) (pR nd b))) a (r9 nd b)) b (r9 nd a))
 have lt5:lG (bx (uB (qz (my (jX nd b a) a (jZ nd a+jZ nd b)) a (min (pR nd a) (pR nd b))) a (r9 nd b))) (an5.map Prod.snd) (bx (uB (uB (qz (my (jX nd b a) a (jZ nd a+jZ nd b)) a (min (pR nd a) (pR nd b))) a (r9 nd b)) b (r9 nd a))) (an7.map Prod.snd):=by rw[awS,<-QC (nd:=(uB (qz (my (jX nd b a) a (jZ nd a+jZ nd b)) a (min (pR nd a) (pR nd b))) a (r9 nd b))) (by rw[l4];exact hb)];exact lG.set J
 rw[QC (by rw[l4];exact hb)]at aid Ig
 have la5:=la4.trans lt5
 have dr5:=oC dr4.1 awT dr4.2 awU
 refine aa<|SR<|aG awC<|V (af O)<|V (fA gJ 3 O bp O)<|lI bt Ig 0 O O rfl<|V (fK O O J)<|V (af O)<|V (fA gJ 3 O bp O)<|bk Ig (i:=0) O (bM O O (v:=I _) O O O (Ig.blk (i:=0) O) aA)<|fun aLJ aie=>aa<|SR<|va (v:=B true) rfl<|aa<|aj<|have hE:=aie;?_
 rw[afD ha hb hab]at hE aid la5
 refine ja O (v:=B true) O (.inr ⟨rfl,a,b,hP,v154,aDA,aDB,aDC,t1,an7,_,aid,awR,la5,dr5.1,J,dr5.2,?_⟩)
 rw[show(ts++[(ul.length:Int)]).length=ts.length+1 by simp,show(ts++[(ul.length:Int)]).map I=ts.map I++[I ((ul.map Prod.fst).length:Int)]by simp];simp only[dg];exact hE
set_option maxHeartbeats 1000000 in
theorem BY{nA nB nC nD nE nF nG nH nI nJ nK nL:Value}(W0:World)(F:Nat)(vW vU vT:Value)(cnt:Int)(cW cU:Option (Nat×Array Value))(W:List (BitVec 64))(ul:List (Value×jh))(tn:List Nat)(cs:List (List Nat))(L:List a8)(m:Int)(M7:ul.length<=1000000)(htn:tn.length<=100000)(hs:Hs W (ul.map Prod.snd) tn cs)(hok:Ln W.length (ul.map Prod.snd))(hI:∀x∈ul,oA (⟨134,243,193,3,35,8⟩:UT) F L x)(Uz:cnt=(leads (cs.headD []):Nat))(w:World)(xO:cO cW vW (W.map U))(Ib:cO cU vU (ul.map Prod.fst))(hH:Hp W0 w (.blk F (.cells #[nA,nB,nC,nD,nE,nF,nG,nH,vW,vU,vT,I (cnt),nI,nJ,nK,nL] 111 (0,0))::cE cW vW 35 (W.map U)::cE cU vU 1 (ul.map Prod.fst):: .row vT 3 1 tn.length ((Iw tn).map I)::L)):Calls Tryz.prog 49 #[.pointer (some ⟨F,8,none⟩),I m] w (jF fun u w'=>(u=B false/\(tn.length:Int)<m/\Hp W0 w' (.blk F (.cells #[nA,nB,nC,nD,nE,nF,nG,nH,vW,vU,vT,I (cnt),nI,nJ,nK,nL] 111 (0,0))::cE cW vW 35 (W.map U)::cE cU vU 1 (ul.map Prod.fst):: .row vT 3 1 tn.length ((Iw tn).map I)::L))\/(u=B true/\m<=tn.length/\∃(v1:Value) (c1:Option (Nat×Array Value)) (u1:Value) (c2:Option (Nat×Array Value)) (t1:Value) (W1:List (BitVec 64)) (lB:List (Value×jh)) (HY:List Nat) (D4:List (List Nat)),E2 ul lB tn HY cs D4 W1/\(HY.length:Int)=max 0 m/\cO c1 v1 (W1.map U)/\cO c2 u1 (lB.map Prod.fst)/\Hp W0 w' (.blk F (.cells #[nA,nB,nC,nD,nE,nF,nG,nH,v1,u1,t1,I ((leads (D4.headD []):Nat)),nI,nJ,nK,nL] 111 (0,0))::cE c1 v1 35 (W1.map U)::cE c2 u1 1 (lB.map Prod.fst):: .row t1 3 1 HY.length ((Iw HY).map I)::L))):=by
 refine en func49 rfl rfl<|SR<|va (v:=B false) rfl<|aa<|ah<|SR<|aG (v:=Pn _ _) rfl<|V (jB JM O O)<|mB rfl<|cD O rfl<|mI rfl<|aG (v:=Pn _ _) rfl<|V (af O)<|V (fA gJ 2 O df O)<|lV bq hH 0 O O rfl<|V (aD (hH.sl (i:=3) O) O bq O)<|V (dx O O)<|mB rfl<|aa<|aF O (fun h2=> ?_) (fun h2=> ?_)
 .refine SR<|va (v:=B false) rfl<|aa<|aj<|ja O (v:=B false) O (.inl ⟨rfl,J,hH⟩)
 refine ak<|ah<|SR<|aG (v:=Pn _ _) rfl<|V (af O)<|V (fA gJ 2 O df O)<|lV bq hH 0 O O rfl<|V (aD (hH.sl (i:=3) O) O bq O)<|V (fK O O J)<|aI rfl<|aa<|aC<| ?_
 rw[Uz]at hH
 refine bj (G:=(List (BitVec 64))×(List (Value×jh))×(List Nat)×(List (List Nat))×(Option (Nat×Array Value))×Value×(Option (Nat×Array Value))×Value×Value) (fun⟨W1,lB,HY,D4,c1,v1,c2,u1,t1⟩ s' w'=>(Fr (5::6::(rg 24 47 [])) _ s')/\(Hp W0 w' (.blk F (.cells #[nA,nB,nC,nD,nE,nF,nG,nH,v1,u1,t1,I ((leads (D4.headD []):Nat)),nI,nJ,nK,nL] 111 (0,0))::cE c1 v1 35 (W1.map U)::cE c2 u1 1 (lB.map Prod.fst):: .row t1 3 1 HY.length ((Iw HY).map I)::_))/\(s' 5=I ((HY.length:Int)-1))/\(E2 ul lB tn HY cs D4 W1)/\(cO c1 v1 (W1.map U))/\(cO c2 u1 (lB.map Prod.fst))/\(max 0 m<=(HY.length:Int))) (fun⟨W1,lB,HY,D4,c1,v1,c2,u1,t1⟩=>HY.length) ((W,ul,tn,cs,cW,vW,cU,vU,vT)) ⟨Fr.refl _ _,hH,rfl,(E2.start hs hok),xO,Ib,J⟩ ?_
 rintro⟨W1,lB,HY,D4,c1,v1,c2,u1,t1⟩ sg3 w3 ⟨fr3,tK,IJ,hb,HN,Cp,Ht⟩
 obtain⟨Ag,arx⟩:=fr3.w2 0 1
 refine ah<|SR<|aG IJ<|aG arx<|V (Ey O O)<|V (di O O)<|aa<|aF O (fun h5=> ?_) (fun h5=> ?_)
 .refine ak<|ah<|aC<|SR<| ?_
  obtain⟨t,Za,cl,c3,cs2,rfl,rfl⟩:=apZ hb.hs J
  obtain⟨nd1,nd2,e1,f1,e2,f2,hs2⟩:=akJ hb.hs
  subst e1
  have q1:=f1.len
  have q2:=f2.len
  have n1:=hb.hs.Xa
  have n2:=hs2.Xa
  have cn:=hb.hs.cnt
  unfold EW at cn
  have lc:=Lu cl
  have lc3:=Lu c3
  have tl:=hb.tn
  have ule:=hb.le
  have XX:=hb.hs.le
  rw[fx]at XX
  have hkk:((t::Za).length:Int)=Za.length+1:=aA
  have hkn:(((t::Za).length:Int)-1).toNat=Za.length:=J
  have pe:=gO nd1
  have Iz:=gO nd2
  simp only[VM]at tK
  refine aG Ag<|aE O tK (kT _ _ _ _ _ _ J _ (tK.blk (i:=0) O) (tK.xp (i:=1) O HN)) (aq call89 O)<|fun w6 eR=>aI rfl<|aa<|ah<|ia aN eR (sQ (sQ (sQ sR)))<|fun w8 iv=>have MK:=iv.sub (sQ (sQ (sQ sR)));AQ 0 O MK (run_move Ag)<|AQ 1 O MK (af O)<|AQ 2 O MK (fA gJ 0 O tS O)<|AQ 3 O MK (fA x7 0 O yb O)<|AQ 4 O MK (run_move Ag)<|AQ 5 O MK (af O)<|AQ 6 O MK (fA gJ 2 O df O)<|AQ 8 O MK (run_move IJ)<|A1 7<|bW O aH O iv (sQ (sQ (sQ sR))) (az bq O O (iv.cell (i:=0) O O))<|AT 9 O MK (fun w hS=>ag (hS.sl (i:=0) O) bq bp O O J)<|AT 10 O MK (fun w hS=>az bt O O ((hS.sl (i:=0) O).cell _ _ (ap0 J)))<|A1 11<|wF O aH O (Eg _ _ _ _ _ _ _ _ _ _ _ _ J J ⟨J,Int.ofNat_le.2 XX⟩ _ (fun x hx=>(hI x (hb.sub x hx)).mono fun e he=>mT he) hb.ok HN Cp iv) (aK call92 O O) (fun u w' ⟨_,_,_,_,_,_,_,h⟩=>h.sub (sQ (sQ (sQ sR))))<| ?_
  rintro _ Na ⟨rfl,v15,c16,u17,e18,X7,arI,fD⟩
  rw[dW,e2]at X7
  rw[dW]at arI
  rw[dW,e2]at fD
  refine AD<|ah<|SR<|aG Ag<|aE O fD (kT _ _ _ _ _ _ J _ (fD.blk (i:=0) O) (fD.xp (i:=1) O X7)) (aq call89 O)<|fun Ug eU=>mI rfl<|V (aL O O)<|aa<|aF O (fun Hl=> ?_) (fun Hl=> ?_)
  .refine au<|aG Ag<|V (af O)<|V (fA gJ 3 O bp O)<|lI bt eU 0 O O rfl<|have arJ:((leads c3:Nat):Int)=(leads cl:Int)-1:=J;V (fK O O J)<|V (af O)<|V (fA gJ 3 O bp O)<|bk eU (i:=0) O (bM O O (v:=I _) O O O (eU.blk (i:=0) O) aA)<|fun Uj dw=>aa<|au<|aG Ag<|aG Ag<|V (af O)<|V (fA gJ 2 O df O)<|lV bq dw 0 O O rfl<|aG IJ<|V (Cb (dw.sl (i:=3) O) bq bp O O J)<|have jC:=dw.akK (i:=3) O (m:=Za.length) aA;?_
   rw[Tp]at jC
   refine V (af O)<|V (fA gJ 2 O df O)<|bk jC (i:=0) O (bM O O (aJ (uW t1) hkn) (a6 (jC.get (i:=3) O)).1 (a6 (jC.get (i:=3) O)).2 (jC.blk (i:=0) O) aA)<|fun w29 iN=>aa<|au<|aG IJ<|V (fK O O J)<|aI rfl<|aa<| ?_
   refine⟨((bx nd2),(lB.take t),Za,(c3::cs2),c16,v15,e18,u17,(uW t1 Za.length)),?_,fr3.u4.u4.u4.u4.u4.u4.u4.u4.u4.u4.u1.u1,(Hp.conv iN (by(simp only[VM];rw[arJ];rfl))),(aJ I J),?_,?_,?_,J⟩
   ·(simp only[eE];omega)
   .exact hb.next e2
   .exact X7
   exact arI
  refine au<|aG Ag<|V (af O)<|V (fA gJ 3 O bp O)<|lI bt eU 0 O O rfl<|have arJ:((leads c3:Nat):Int)=(leads cl:Int)+1:=J;V (ax O O J)<|V (af O)<|V (fA gJ 3 O bp O)<|bk eU (i:=0) O (bM O O (v:=I _) O O O (eU.blk (i:=0) O) aA)<|fun w31 iM=>aa<|au<|aG Ag<|aG Ag<|V (af O)<|V (fA gJ 2 O df O)<|lV bq iM 0 O O rfl<|aG IJ<|V (Cb (iM.sl (i:=3) O) bq bp O O J)<|have jE:=iM.akK (i:=3) O (m:=Za.length) aA;?_
  rw[Tp]at jE
  refine V (af O)<|V (fA gJ 2 O df O)<|bk jE (i:=0) O (bM O O (aJ (uW t1) hkn) (a6 (jE.get (i:=3) O)).1 (a6 (jE.get (i:=3) O)).2 (jE.blk (i:=0) O) aA)<|fun w34 xH=>aa<|au<|aG IJ<|V (fK O O J)<|aI rfl<|aa<| ?_
  refine⟨((bx nd2),(lB.take t),Za,(c3::cs2),c16,v15,e18,u17,(uW t1 Za.length)),?_,fr3.u4.u4.u4.u4.u4.u4.u4.u4.u4.u4.u1.u1,(Hp.conv xH (by(simp only[VM];rw[arJ];rfl))),(aJ I J),?_,?_,?_,J⟩
  ·(simp only[eE];omega)
  .exact hb.next e2
  .exact X7
  exact arI
 refine aY (id:=0) rfl<|SR<|va (v:=B true) rfl<|aa<|aj<|ja O (v:=B true) O (.inr ⟨rfl,J,v1,c1,u1,c2,t1,W1,lB,HY,D4,hb,J,HN,Cp,tK⟩)
section
variable{w0 w:World}{L:List a8}{F m:Nat}{cs:List (List Nat)}{vW vU vT:Value}{cW cU:Option (Nat×Array Value)}{W:List (BitVec 64)}{ul:List (Value×jh)}{ts:List Int}{cn:Int}{nA nB nC nD nE nF nG nH nI nJ nK nL:Value}
theorem aab(h:vK FX F m cs vW vU cW cU W ul ts cn L)(hm:m<=100000)(hb:w.heap[F]?=some (.cells #[nA,nB,nC,nD,nE,nF,nG,nH,vW,vU,vT,I cn,nI,nJ,nK,nL] 111 (0,0)))(hW:Sl w vW 1 W.length (W.map U)):Calls Tryz.prog 123 #[.pointer (some ⟨F,8,none⟩)] w (Pure (I (leads (bg cs):Nat)) w):=by
 have Uz:=h.cn
 subst Uz
 exact Aq F vW vU vT _ _ w hb hW
end
section
variable{w0 w:World}{L:List a8}{F m:Nat}{cs:List (List Nat)}{vW vU vT:Value}{cW cU:Option (Nat×Array Value)}{W:List (BitVec 64)}{ul:List (Value×jh)}{ts:List Int}{cn:Int}{nA nB nC nD nE nF nG nH nI nJ nK nL:Value}
theorem Eh(i:Int)(h:vK FX F m cs vW vU cW cU W ul ts cn L)(hm:m<=100000)(hb:w.heap[F]?=some (.cells #[nA,nB,nC,nD,nE,nF,nG,nH,vW,vU,vT,I cn,nI,nJ,nK,nL] 111 (0,0)))(hW:Sl w vW 1 W.length (W.map U)):Calls Tryz.prog 128 #[.pointer (some ⟨F,8,none⟩),I i] w (Pure (I (eW (bg cs) i)) w):=by
 obtain⟨nd,cl,zx,rfl,rfl,h2,h3,h4,h5,h6⟩:=h.now
 exact BV F vW vU vT _ nd cl i J h2 w hb hW
end
section
variable{w0 w:World}{L:List a8}{F m:Nat}{cs:List (List Nat)}{vW vU vT:Value}{cW cU:Option (Nat×Array Value)}{W:List (BitVec 64)}{ul:List (Value×jh)}{ts:List Int}{cn:Int}{nA nB nC nD nE nF nG nH nI nJ nK nL:Value}
theorem aac(i:Int)(h:vK FX F m cs vW vU cW cU W ul ts cn L)(hm:m<=100000)(hb:w.heap[F]?=some (.cells #[nA,nB,nC,nD,nE,nF,nG,nH,vW,vU,vT,I cn,nI,nJ,nK,nL] 111 (0,0)))(hW:Sl w vW 1 W.length (W.map U)):Calls Tryz.prog 129 #[.pointer (some ⟨F,8,none⟩),I i] w (rM 3 1 (bG (bg cs) i).length ((bG (bg cs) i).map I) w):=by
 obtain⟨nd,cl,zx,rfl,rfl,h2,h3,h4,h5,h6⟩:=h.now
 exact Ar F vW vU vT _ nd cl i J h2 w hb hW
end
section
variable{w0 w:World}{L:List a8}{F m:Nat}{cs:List (List Nat)}{vW vU vT:Value}{cW cU:Option (Nat×Array Value)}{W:List (BitVec 64)}{ul:List (Value×jh)}{ts:List Int}{cn:Int}{nA nB nC nD nE nF nG nH nI nJ nK nL:Value}
theorem aif(h:vK FX F m cs vW vU cW cU W ul ts cn L)(hm:m<=100000)(hb:w.heap[F]?=some (.cells #[nA,nB,nC,nD,nE,nF,nG,nH,vW,vU,vT,I cn,nI,nJ,nK,nL] 111 (0,0)))(hW:Sl w vW 1 W.length (W.map U))(hT:Sl w vT 1 ts.length (ts.map I)):Calls Tryz.prog 46 #[.pointer (some ⟨F,8,none⟩)] w (Pure (I ((cs.length:Int)-1)) w):=by
 obtain⟨nd,cl,zx,rfl,rfl,h2,h3,h4,h5,h6⟩:=h.now
 have:=BU F vW vU vT _ _ ts w hb hW hT
 rwa[show((ts.length:Nat):Int)=((cl::zx).length:Int)-1 by omega]at this
end
section
variable{w0 w:World}{L:List a8}{F m:Nat}{cs:List (List Nat)}{vW vU vT:Value}{cW cU:Option (Nat×Array Value)}{W:List (BitVec 64)}{ul:List (Value×jh)}{ts:List Int}{cn:Int}{nA nB nC nD nE nF nG nH nI nJ nK nL:Value}
theorem awV(h:vK FX F m cs vW vU cW cU W ul ts cn L)(hm:m<=100000){R:List a8}(hH:Hp w0 w (.blk F (.cells #[nA,nB,nC,nD,nE,nF,nG,nH,vW,vU,vT,I (cn),nI,nJ,nK,nL] 111 (0,0))::cE cW vW 35 ((W).map U)::cE cU vU 1 ((ul).map Prod.fst):: .row vT 3 1 (ts).length ((ts).map I)::(R++L))):Calls Tryz.prog 47 #[.pointer (some ⟨F,8,none⟩)] w (jF fun u w'=>u=I (bg cs).length/\∃(ML MM U4:Value) (O9 Pa:Option (Nat×Array Value)) (W':List (BitVec 64)) (xK:List (Value×jh)) (ts':List Int) (Pb:Int) (Lb:List a8),vK FX F (m+1) (QG cs) ML MM O9 Pa W' xK ts' Pb (Lb++L)/\Hp w0 w' (.blk F (.cells #[nA,nB,nC,nD,nE,nF,nG,nH,ML,MM,U4,I (Pb),nI,nJ,nK,nL] 111 (0,0))::cE O9 ML 35 ((W').map U)::cE Pa MM 1 ((xK).map Prod.fst):: .row U4 3 1 (ts').length ((ts').map I)::(Lb++(R++L)))):=by
 obtain⟨tn,rfl,i⟩:=h.fo
 have Uz:=h.cn
 subst Uz
 obtain⟨nd,cl,zx,rfl,rfl,h2,h3,h4,h5,h6⟩:=i.now
 have l1:=i.lu;have l2:=i.lt
 refine(CM w0 F vW vU vT _ cW cU nd ul (Iw tn) (R++L) J J (by rw[vJ];omega) adp w i.hW i.hU hH).mono fun e w' hr=>jF.mono ?_ hr
 rintro u w' ⟨rfl,v1,c1,u1,c2,t1,lB,IK,k1,k2,k3,k4,k5,hh⟩
 have e5:(leads (bg (QG (cl::zx))):Nat)=leads cl+1:=by rw[<-Ot h2,h3];rfl
 have e6:((leads (bg (cl::zx)):Nat):Int)+1=((leads (bg (QG (cl::zx))):Nat):Int):=by rw[e5];rfl
 have e7:(Iw tn++[(ul.length:Int)])=Iw (ul.length::tn):=(E1 ..).symm
 rw[e6,e7]at hh
 refine⟨by rw[h3];rfl,v1,u1,t1,c1,c2,bx (nd++[qy nd.length]),lB,Iw (ul.length::tn),_,IK,⟨⟨ul.length::tn,rfl,k1,k2,?_,?_,?_,?_,?_⟩,rfl⟩,hh⟩
 .have e1:=akq (W:=bx nd) (us:=ul.map Prod.snd) (a:=BitVec.ofNat 64 nd.length) (b:=BitVec.ofNat 64 1) (c:=BitVec.ofNat 64 nd.length) (d:=BitVec.ofNat 64 nd.length)
  have e2:bx (nd++[qy nd.length])=bx nd++[BitVec.ofNat 64 nd.length]++[BitVec.ofNat 64 1]++[BitVec.ofNat 64 nd.length]++[BitVec.ofNat 64 nd.length]:=by rw[pu];simp[Eo,qy]
  rw[<-e2]at e1
  have h:=Hs.more (ji:=cl++[nd.length]) i.hs O h2.add (.inl ⟨aA,Ot h2⟩) e1.1 e1.2.1 e1.2.2
  rw[fx]at h
  rw[k3]
  show Hs _ _ _ ((cl++[cl.length])::cl::zx)
  rw[<-h3];exact h
 .have e2:bx (nd++[qy nd.length])=bx nd++[BitVec.ofNat 64 nd.length]++[BitVec.ofNat 64 1]++[BitVec.ofNat 64 nd.length]++[BitVec.ofNat 64 nd.length]:=by rw[pu];simp[Eo,qy]
  rw[k3,e2];exact akr i.ok
 .intro x hx
  rw[<-FQ ul.length lB,k4]at hx
  rcases eF.1 hx with q|q
  .exact(i.un x q).mono fun e he=>bB _ he
  exact(k5 x q).mono fun e he=>dy _ he
 .have:=aJ List.length k3;simp[Nh]at this;omega
 simp;omega
end
section
variable{w0 w:World}{L:List a8}{F m:Nat}{cs:List (List Nat)}{vW vU vT:Value}{cW cU:Option (Nat×Array Value)}{W:List (BitVec 64)}{ul:List (Value×jh)}{ts:List Int}{cn:Int}{nA nB nC nD nE nF nG nH nI nJ nK nL:Value}
theorem al0(i j:Int)(h:vK FX F m cs vW vU cW cU W ul ts cn L)(hm:m<=100000){R:List a8}(hH:Hp w0 w (.blk F (.cells #[nA,nB,nC,nD,nE,nF,nG,nH,vW,vU,vT,I (cn),nI,nJ,nK,nL] 111 (0,0))::cE cW vW 35 ((W).map U)::cE cU vU 1 ((ul).map Prod.fst):: .row vT 3 1 (ts).length ((ts).map I)::(R++L))):Calls Tryz.prog 156 #[.pointer (some ⟨F,8,none⟩),I i,I j] w (jF fun u w'=>u=B (iK cs i j).2/\∃(ML MM U4:Value) (O9 Pa:Option (Nat×Array Value)) (W':List (BitVec 64)) (xK:List (Value×jh)) (ts':List Int) (Pb:Int) (Lb:List a8),vK FX F (m+(if(iK cs i j).2 then 1 else 0)) ((iK cs i j).1) ML MM O9 Pa W' xK ts' Pb (Lb++L)/\Hp w0 w' (.blk F (.cells #[nA,nB,nC,nD,nE,nF,nG,nH,ML,MM,U4,I (Pb),nI,nJ,nK,nL] 111 (0,0))::cE O9 ML 35 ((W').map U)::cE Pa MM 1 ((xK).map Prod.fst):: .row U4 3 1 (ts').length ((ts').map I)::(Lb++(R++L)))):=by
 obtain⟨tn,rfl,k⟩:=h.fo
 have Uz:=h.cn
 subst Uz
 obtain⟨nd,cl,zx,rfl,rfl,h2,h3,h4,h5,h6⟩:=k.now
 have l1:=k.lu;have l2:=k.lt
 refine(Au w0 F vW vU vT _ cW cU nd ul (Iw tn) (R++L) cl i j J J (by rw[vJ];omega) adp h2 w k.hW k.hU hH).mono fun e w' hr=>jF.mono ?_ hr
 rintro u w' (⟨rfl,no,hh⟩|⟨rfl,a,b,p,v1,c1,u1,c2,t1,lB,IK,k1,k2,la,k4,k6,k5,hh⟩)
 .rw[Lv (cs:=cl::zx) (by show¬G3 cl.length cl i j;rw[<-h3];exact no)]
  exact⟨rfl,vW,vU,vT,cW,cU,bx nd,ul,Iw tn,_,[],h,hh⟩
 rw[G5 (cs:=cl::zx) (by have:=p.ok;show G3 cl.length cl i j;rw[<-h3];exact this)]
 obtain⟨f1,f2⟩:=auE h2 p
 have e5:((leads (bg (cl::zx)):Nat):Int)-1=((leads (bg (gT cl (bV cl i.toNat) (bV cl j.toNat)::cl::zx)):Nat):Int):=by
  have e1:leads (bg (cl::zx))=leads cl:=rfl
  have e2:leads (bg (gT cl (bV cl i.toNat) (bV cl j.toNat)::cl::zx))=leads (gT cl (bV cl i.toNat) (bV cl j.toNat)):=rfl
  omega
 have e7:(Iw tn++[(ul.length:Int)])=Iw (ul.length::tn):=(E1 ..).symm
 rw[e5,e7]at hh
 refine⟨rfl,v1,u1,t1,c1,c2,bx (oz nd a b),lB,Iw (ul.length::tn),_,IK,⟨⟨ul.length::tn,rfl,k1,k2,?_,la.ok k.ok,?_,?_,?_⟩,rfl⟩,hh⟩
 .have h:=Hs.more (ji:=gT cl (bV cl i.toNat) (bV cl j.toNat)) k.hs O f1 (.inr ⟨G4,f2⟩) la.back.1 la.back.2 la.le
  rw[fx]at h;exact h
 .intro x hx
  rw[<-FQ ul.length lB,k4]at hx
  rcases eF.1 hx with q|q
  .exact(k.un x q).mono fun e he=>bB _ he
  exact(k5 x q).mono fun e he=>dy _ he
 .show lB.length<=5*(m+1);omega
 show(ul.length::tn).length<=m+1;simp;omega
end
section
variable{w0 w:World}{L:List a8}{F m:Nat}{cs:List (List Nat)}{vW vU vT:Value}{cW cU:Option (Nat×Array Value)}{W:List (BitVec 64)}{ul:List (Value×jh)}{ts:List Int}{cn:Int}{nA nB nC nD nE nF nG nH nI nJ nK nL:Value}
theorem arK(i:Int)(h:vK FX F m cs vW vU cW cU W ul ts cn L)(hm:m<=100000){R:List a8}(hH:Hp w0 w (.blk F (.cells #[nA,nB,nC,nD,nE,nF,nG,nH,vW,vU,vT,I (cn),nI,nJ,nK,nL] 111 (0,0))::cE cW vW 35 ((W).map U)::cE cU vU 1 ((ul).map Prod.fst):: .row vT 3 1 (ts).length ((ts).map I)::(R++L))):Calls Tryz.prog 49 #[.pointer (some ⟨F,8,none⟩),I i] w (jF fun u w'=>u=B (Bl cs i).2/\∃(ML MM U4:Value) (O9 Pa:Option (Nat×Array Value)) (W':List (BitVec 64)) (xK:List (Value×jh)) (ts':List Int) (Pb:Int) (Lb:List a8),vK FX F (m) ((Bl cs i).1) ML MM O9 Pa W' xK ts' Pb (Lb++L)/\Hp w0 w' (.blk F (.cells #[nA,nB,nC,nD,nE,nF,nG,nH,ML,MM,U4,I (Pb),nI,nJ,nK,nL] 111 (0,0))::cE O9 ML 35 ((W').map U)::cE Pa MM 1 ((xK).map Prod.fst):: .row U4 3 1 (ts').length ((ts').map I)::(Lb++(R++L)))):=by
 obtain⟨tn,rfl,k⟩:=h.fo
 have Uz:=h.cn
 subst Uz
 obtain⟨nd,cl,zx,rfl,rfl,h2,h3,h4,h5,h6⟩:=k.now
 have l1:=k.lu;have l2:=k.lt
 rw[vJ]at hH
 refine(BY w0 F vW vU vT _ cW cU (bx nd) ul tn (cl::zx) (R++L) i J J k.hs k.ok (fun x hx=>(k.un x hx).mono fun e he=>bB _ he) O w k.hW k.hU hH).mono fun e w' hr=>jF.mono ?_ hr
 rintro u w' (⟨rfl,no,hh⟩|⟨rfl,yes,v1,c1,u1,c2,t1,W1,lB,HY,D4,hb,htn,k1,k2,hh⟩)
 .rw[show Bl (cl::zx) i=(cl::zx,false)from aR J]
  rw[<-vJ]at hh
  exact⟨rfl,vW,vU,vT,cW,cU,bx nd,ul,Iw tn,_,[],h,hh⟩
 rw[show Bl (cl::zx) i=((cl::zx).drop ((cl::zx).length-1-(max 0 i).toNat),true)from aP J]
 have e1:D4=(cl::zx).drop ((cl::zx).length-1-(max 0 i).toNat):=by rw[hb.cs];congr 1;omega
 rw[<-e1]
 have q1:=hb.le;have q2:=hb.tn
 rw[<-vJ]at hh
 exact⟨rfl,v1,u1,t1,c1,c2,W1,lB,Iw HY,_,[],⟨⟨HY,rfl,k1,k2,hb.hs,hb.ok,fun x hx=>k.un x (hb.sub x hx),J,J⟩,rfl⟩,hh⟩
end
end
section
open Go Go.RowKit Go.Proofs.YtlhjdflgjbkpmaaGreatDoor.E Go.Proofs.YtlhjdflgjbkpmaaGreatDoor.M
set_option maxRecDepth 100000
open Go.Proofs.Tryz
theorem Rr(a:Int):Tryz.prog.built 233 [(0,I a)]=some (E4 ⟨a,0⟩).toArray:=rfl
theorem acr{a b c d e:Value}(h1:a.cells=#[a])(h2:b.cells=#[b])(h3:c.cells=#[c])(h4:d.cells=#[d])(h5:e.cells=#[e]):Tryz.prog.built 222 [(0,a),(1,b),(2,c),(3,d),(7,e)]=some #[a,b,c,d,.slice none 0 0,.slice none 0 0,I 0,e]:=
 (show Tryz.prog.built 222 [(0,a),(1,b),(2,c),(3,d),(7,e)]=Instr.fill (#[(0,1),(1,1),(2,1),(3,1),(4,1),(5,1),(6,1),(7,1)][·]?) #[.slice none 0 0,.slice none 0 0,.slice none 0 0,.slice none 0 0,.slice none 0 0,.slice none 0 0,I 0,.slice none 0 0] [(0,a),(1,b),(2,c),(3,d),(7,e)]from O).trans (by simp only[Instr.fill,h1,h2,h3,h4,h5];rfl)
abbrev nE(n:Nat)(wr:Value)(vL:Value)(vt:Value)(vv:Value)(vy:Value)(vu:Value)(vq:Value)(sn:Int)(vW:Value)(vU:Value)(vT:Value)(cn:Int)(sk:Bool)(wy:BitVec 64)(vd:Value)(vm:Value)(cW:Option (Nat×Array Value))(cU:Option (Nat×Array Value))(W:List (BitVec 64))(ul:List (Value×jh))(ts:List Int)(an:List oP)(aS:List Int)(ai:List El)(aX:List (BitVec 64))(us:List jx)(qs:List de)(lg:List (Value×lK))(tm:List Int)(L:List a8):List a8:= .blk n (.cells #[wr,vL,vt,vv,vy,vu,vq,I sn,vW,vU,vT,I cn,B sk,U wy,vd,vm] 111 (0,0))::cE cW vW 35 (W.map U)::cE cU vU 1 (ul.map Prod.fst)::jf I vT 3 ts::uD U0 13 vL 119 an::jf I vt 3 aS::uD sC 8 vv 37 ai::jf U vy 35 aX::jf jx.v vu 99 us::uD o7 13 vq 128 qs::jf Prod.fst vd 1 lg::jf I vm 3 tm::L
abbrev wE(b:Nat)(ql qi:Value)(cq:Option (Nat×Array Value))(wl:List Int)(wi:List Bool)(L:List a8):List a8:= .blk b (.cells #[ql,qi] 156 (0,0))::qE cq ql 3 (wl.map I)::jf B qi 4 wi::L
abbrev NX:NTy:=⟨54,48,58,193,157,88,45,31,3,37,35,128⟩
theorem NB(b k c:Nat):Tryz.prog.built 156 [(1,.slice (some ⟨b,0,none⟩) k c)]=some #[.slice none 0 0,.slice (some ⟨b,0,none⟩) k c]:=rfl
abbrev NZ(n:Nat)(F:NF)(s:NP)(lg:List (Value×lK))(tm:List Int)(L:List a8):List a8:=(nE n (s.wr) (F.vL) (F.vt) (F.vv) (F.vy) (F.vu) (F.vq) (s.sn) (F.vW) (F.vU) (F.vT) (F.cn) (s.sk) (s.wy) (F.vd) (F.vm) (F.cW) (F.cU) (F.W) (F.ul) (F.ts) (s.an) (s.aS) (s.ai) (s.aX) (F.us) (s.qs) lg tm L)
structure awW(n m:Nat)(F:NF)(s:NP)(L:List a8):Prop where
 fo:vK FX n m s.cs F.vW F.vU F.cW F.cU F.W F.ul F.ts F.cn L
 us:o5 F.us=s.us
def uR(n m:Nat)(s:NP)(lg:List (Value×lK))(tm:List Int)(R L0 Z:List a8):Prop:=∃F L,awW n m F s L/\(∀b o,a8.blk b o∈L0->a8.blk b o∈L)/\Z=NZ n F s lg tm (F.us.map (dB 3)++(R++L))
def al1(W0:World)(n m:Nat)(R L0:List a8)(x:Value×lK)(s:NP):Prop:=∀lg tm Z w,uR n m s lg tm R L0 Z->Hp W0 w Z->yN Tryz.prog x.1 [] w (jF fun u w'=>u= .tuple #[]/\∃Z',uR n m (uG x.2 s) lg tm R L0 Z'/\Hp W0 w' Z')
theorem acs{x:Value}(h:x.cells=#[x]):Tryz.prog.built 111 [(0,x)]=some #[x,.slice none 0 0,.slice none 0 0,.slice none 0 0,.slice none 0 0,.slice none 0 0,.slice none 0 0,I 0,.slice none 0 0,.slice none 0 0,.slice none 0 0,I 0,B false,U 0,.slice none 0 0,.slice none 0 0]:=
 (show Tryz.prog.built 111 [(0,x)]=Instr.fill (#[(0,1),(1,1),(2,1),(3,1),(4,1),(5,1),(6,1),(7,1),(8,4),(12,1),(13,1),(14,1),(15,1)][·]?) #[.nilFunc,.slice none 0 0,.slice none 0 0,.slice none 0 0,.slice none 0 0,.slice none 0 0,.slice none 0 0,I 0,.slice none 0 0,.slice none 0 0,.slice none 0 0,I 0,B false,U 0,.slice none 0 0,.slice none 0 0] [(0,x)]from O).trans PY
theorem wV(p:kL)(e l j:Value)(d:Wr)(low:El):Tryz.prog.built 119 [(0,.agg (rp p)),(1,.agg #[e,l,j]),(2,.agg (iU low))]=some (U0 ⟨p,e,l,j,d,low⟩).toArray:=by
 rw[gR];kernel_rfl
def WrF(x:Value)(ids:List Nat):Prop:=x= .nilFunc\/∃(m:Nat) (f:FuncId) (cs:List Value),x=iW f cs.toArray/\m∈ids/\(∀args w,(callFunc f args).run Tryz.prog w= .ok (.enter f args) w)/\∀(K:Vu) (d:Wr) (e l j:Value) (w:World),Le K (Kw w)->z8 TX K d e l j->Calls Tryz.prog f ([Value.agg #[e,l,j]]++cs).toArray w (KP K (fun K' u=>∃f1 f2 f3 a1 a2 a3,u= .agg #[iW f1 a1,iW f2 a2,iW f3 a3]/\z8 TX K' (.wrap m d) (iW f1 a1) (iW f2 a2) (iW f3 a3)) w)
theorem WrF.fn{x:Value}{ids:List Nat}(h:WrF x ids):x= .nilFunc\/∃f c,x=iW f c:=by
 rcases h with h|⟨m,f,cs,h,_⟩
 .exact .inl h
 exact .inr ⟨_,_,h⟩
theorem WrF.yes{x:Value}{ids:List Nat}(h:WrF x ids)(hx:agA x=true):∃(m:Nat) (f:FuncId) (cs:List Value),x=iW f cs.toArray/\m∈ids/\(∀args w,(callFunc f args).run Tryz.prog w= .ok (.enter f args) w)/\∀(K:Vu) (d:Wr) (e l j:Value) (w:World),Le K (Kw w)->z8 TX K d e l j->Calls Tryz.prog f ([Value.agg #[e,l,j]]++cs).toArray w (KP K (fun K' u=>∃f1 f2 f3 a1 a2 a3,u= .agg #[iW f1 a1,iW f2 a2,iW f3 a3]/\z8 TX K' (.wrap m d) (iW f1 a1) (iW f2 a2) (iW f3 a3)) w):=by
 rcases h with rfl|h
 .cases hx
 exact h
def WrD(x:Value)(d:Wr):Prop:=(agA x=false->d.dep=0)/\d.dep<=1
theorem zv{v u:Value}(k:Int)(l:List dI)(t:gZ)(y:BitVec 64)(m:List Int)(h:v.cells=#[v])(h2:u.cells=#[u]):Tryz.prog.built 128 [(0,I k),(1,v),(2,.agg (iS t).toArray),(3,U y),(4,u)]=some (o7 ⟨k,v,l,t,y,u,m⟩).toArray:=
 (show Tryz.prog.built 128 [(0,I k),(1,v),(2,.agg (iS t).toArray),(3,U y),(4,u)]=Instr.fill (#[(0,1),(1,1),(2,9),(11,1),(12,1)][·]?) #[I 0,.slice none 0 0,I 0,U 0,U 0,U 0,U 0,U 0,U 0,U 0,U 0,U 0,.slice none 0 0] [(0,I k),(1,v),(2,.agg (iS t).toArray),(3,U y),(4,u)]from O).trans (by simp only[Instr.fill,h,h2];kernel_rfl)
def kP(fr:List a8)(W0:World)(n:Nat)(s:NP)(lg:List (Value×lK))(tm:List Int)(ids:List Nat)(f:Ct)(tl:List (Nat×Rl))(b c:Nat)(Z:List a8):Prop:=∃m L0 Zf,(m<=c+200*b/\lg.length<=c+4300000000*b/\tm.length<=c+b/\D3 (20000000*b) f)/\j5 (Ae fr) ids f tl Zf/\TH TX (Kz (Kw W0) L0) ids tl s.an/\Xg (Kz (Kw W0) L0) s.qs/\(∀x∈lg,l9 NX n L0 x)/\uR n m s lg tm Zf L0 Z
theorem Jo{α:Type}{l m:List α}(h:∀f:List α->Nat,(∀a b,f (a++b)=f a+f b)->f l=f m):l.Perm m:=by
 haveI:DecidableEq α:=fun a b=>Classical.propDecidable (a=b)
 rw[List.perm_iff_count]
 exact fun a=>h (List.count a) fun x y=>VD
theorem Ei{n:Nat}{F:NF}{s:NP}{lg:List (Value×lK)}{tm:List Int}(X:List a8):NZ n F s lg tm X=NZ n F s lg tm []++X:=rfl
theorem kP.awY{fr A R Z:List a8}{W0 w:World}{n:Nat}{s:NP}{lg:List (Value×lK)}{tm:List Int}{ids:List Nat}{f:Ct}{tl:List (Nat×Rl)}{b c:Nat}(h:kP fr W0 n s lg tm ids f tl b c Z)(hH:Hp W0 w (A++(Z++R))):∃Z2,kP (A++(R++fr)) W0 n s lg tm ids f tl b c Z2/\Hp W0 w Z2:=by
 obtain⟨m,L0,Zf,hb,⟨Zt,ht,rfl⟩,h1,h2,h3,F,L,hI,hL,rfl⟩:=h
 refine⟨_,⟨m,L0,_,hb,⟨Zt,ht,rfl⟩,h1,h2,h3,F,L,hI,hL,rfl⟩,hH.perm (Jo fun g hg=> ?_)⟩
 rw[Ei,Ei (X:=F.us.map (dB 3)++((_++(A++(R++fr))++Zt)++L)),show ids.map (fun m=>rD (Ae (A++(R++fr))) m (f m))=ids.map fun m=>rD (Ae fr) m (f m)from O]
 simp only[hg]
 omega
theorem kP.out{fr A R Z:List a8}{W0 w:World}{n:Nat}{s:NP}{lg:List (Value×lK)}{tm:List Int}{ids:List Nat}{f:Ct}{tl:List (Nat×Rl)}{b c:Nat}(h:kP (A++(R++fr)) W0 n s lg tm ids f tl b c Z)(hH:Hp W0 w Z):∃Z2,kP fr W0 n s lg tm ids f tl b c Z2/\Hp W0 w (A++(Z2++R)):=by
 obtain⟨m,L0,Zf,hb,⟨Zt,ht,rfl⟩,h1,h2,h3,F,L,hI,hL,rfl⟩:=h
 refine⟨_,⟨m,L0,_,hb,⟨Zt,ht,rfl⟩,h1,h2,h3,F,L,hI,hL,rfl⟩,hH.perm (Jo fun g hg=> ?_)⟩
 rw[Ei,Ei (X:=F.us.map (dB 3)++((_++fr++Zt)++L)),show ids.map (fun m=>rD (Ae (A++(R++fr))) m (f m))=ids.map fun m=>rD (Ae fr) m (f m)from O]
 simp only[hg]
 omega
theorem kP.awZ{fr A X Z:List a8}{W0 w:World}{n:Nat}{s:NP}{lg:List (Value×lK)}{tm:List Int}{ids:List Nat}{f:Ct}{tl:List (Nat×Rl)}{b c:Nat}(h:kP fr W0 n s lg tm ids f tl b c Z)(hH:Hp W0 w (A++(Z++X))):∃m L0 Zf Z2,(m<=c+200*b/\lg.length<=c+4300000000*b/\tm.length<=c+b/\D3 (20000000*b) f)/\j5 (Ae (A++([]++fr))) ids f tl Zf/\TH TX (Kz (Kw W0) L0) ids tl s.an/\Xg (Kz (Kw W0) L0) s.qs/\(∀x∈lg,l9 NX n L0 x)/\uR n m s lg tm Zf L0 Z2/\Hp W0 w Z2/\∀b o,a8.blk b o∈X->a8.blk b o∈L0:=by
 obtain⟨m,L0,Zf,hb,⟨Zt,ht,rfl⟩,h1,h2,h3,F,L,hI,hL,rfl⟩:=h
 have hm:∀b o,a8.blk b o∈L0->a8.blk b o∈X++L0:=fun b o hb=>bB _ hb
 refine⟨m,X++L0,_,_,hb,⟨Zt,ht,rfl⟩,h1.mono (Le.zb hm),h2.mono (Le.zb hm),fun x hx=>(h3 x hx).C3 hm,⟨F,X++L,⟨hI.fo.mono fun e he=>bB _ he,hI.us⟩,fun b o hb=> ?_,rfl⟩,hH.perm (Jo fun g hg=> ?_),fun b o hb=>dy _ hb⟩
 .rcases eF.1 hb with q|q
  .exact dy _ q
  exact bB _ (hL b o q)
 rw[Ei,Ei (X:=F.us.map (dB 3)++((_++(A++([]++fr))++Zt)++(X++L))),show ids.map (fun m=>rD (Ae (A++([]++fr))) m (f m))=ids.map fun m=>rD (Ae fr) m (f m)from O]
 simp only[hg,dZ]
 omega
theorem WrF.cells{x:Value}{ids:List Nat}(h:WrF x ids):x.cells=#[x]:=by
 rcases h with rfl|⟨m,f,cs,rfl,_⟩<;>rfl
theorem WrF.one{x:Value}{ids:List Nat}(h:WrF x ids):x.oneCell'=true:=by
 rcases h with rfl|⟨m,f,cs,rfl,_⟩<;>rfl
theorem kP.new{fr A Zn Zf:List a8}{W0 w:World}{n:Nat}{x:Value}{ids:List Nat}{f:Ct}(hn:uR n 0 (NP.mk [] [] [] [] [] [] 0 [[]] false 0 x) [] [] [] [] Zn)(hz:j5 (Ae fr) ids f [] Zf)(hf:D3 0 f)(hH:Hp W0 w (Zn++(A++Zf))):∃Z,kP fr W0 n (npL [] x) [] [] ids f [] 0 0 Z/\Hp W0 w (A++(Z++[])):=by
 obtain⟨F,L,hI,hL,rfl⟩:=hn
 refine⟨_,⟨0,[],Zf,⟨J,aA,aA,hf⟩,hz,(fun x hx=>by cases hx),(fun x hx=>by cases hx),(fun x hx=>by cases hx),F,L,hI,(fun b o h=>n4),rfl⟩,hH.perm (Jo fun g hg=> ?_)⟩
 have e:∀X,NZ n F (npL [] x) [] [] X=NZ n F (NP.mk [] [] [] [] [] [] 0 [[]] false 0 x) [] [] []++X:=fun X=>rfl
 rw[Ei,e]
 simp only[hg]
 omega
theorem kP.more{fr Z:List a8}{W0:World}{n:Nat}{s:NP}{lg:List (Value×lK)}{tm:List Int}{ids:List Nat}{f:Ct}{tl:List (Nat×Rl)}{b c b' c':Nat}(h:kP fr W0 n s lg tm ids f tl b c Z)(hb:b<=b')(hc:c<=c'):kP fr W0 n s lg tm ids f tl b' c' Z:=by
 obtain⟨m,L0,Zf,⟨h1,h2,h3,h4⟩,h5⟩:=h
 exact⟨m,L0,Zf,⟨J,J,J,h4.mono J⟩,h5⟩
theorem Yb(k:Int)(e:El):Tryz.prog.built 90 [(0,I k),(2,.agg (iU e))]=some (jW ⟨k,0,e⟩).toArray:=by
 rw[gR];kernel_rfl
theorem MO(k v:Int):Tryz.prog.built 90 [(0,I k),(1,I v)]=some (jW ⟨k,v,dh⟩).toArray:=aN
theorem BZ(v:Int):Tryz.prog.built 39 [(0,I v)]=some (iS ⟨v,dh⟩).toArray:=aN
theorem Yc(s:kx){v:Value}(l:List fU)(h:v.cells=#[v]):Tryz.prog.built 28 [(0,.agg (GM s)),(1,v)]=some (CY ⟨s,v,l⟩).toArray:=
 (show Tryz.prog.built 28 [(0,.agg (GM s)),(1,v)]=Instr.fill (#[(0,2),(2,1)][·]?) #[.slice none 0 0,.slice none 0 0,.slice none 0 0] [(0,.agg (GM s)),(1,v)]from O).trans PY
theorem UC{v:Value}(l:List fU)(h:v.cells=#[v]):Tryz.prog.built 28 [(1,v)]=some (CY ⟨scN,v,l⟩).toArray:=
 (show Tryz.prog.built 28 [(1,v)]=Instr.fill (#[(0,2),(2,1)][·]?) #[.slice none 0 0,.slice none 0 0,.slice none 0 0] [(1,v)]from O).trans PY
theorem aih:∀w,(zeroValue 25).run Tryz.prog w= .ok (.agg #[.slice none 0 0,.slice none 0 0]) w:=fun w=>Tryz.zeroValue25 w
variable{fr:List a8}
variable{W0 w:World}{n m:Nat}{cs:List (List Nat)}{wr:Value}{vL:Value}{vt:Value}{vv:Value}{vy:Value}{vu:Value}{vq:Value}{sn:Int}{vW:Value}{vU:Value}{vT:Value}{cn:Int}{sk:Bool}{wy:BitVec 64}{vd:Value}{vm:Value}{cW:Option (Nat×Array Value)}{cU:Option (Nat×Array Value)}{W:List (BitVec 64)}{ul:List (Value×jh)}{ts:List Int}{an:List oP}{aS:List Int}{ai:List El}{aX:List (BitVec 64)}{us:List jx}{qs:List de}{lg:List (Value×lK)}{tm:List Int}{L:List a8}
theorem vX(W0:World)(b:Nat)(vg vo vl vn vs vf vq:Value)(cs:Option (Nat×Array Value))(od lo:List Int)(on:List Bool)(sk:List Int)(fr:List CB)(tm:Int)(kq:List Int)(L:List a8)(i:Int)(hl1:lo.length=od.length)(hl2:on.length=od.length)(hl3:kq.length=od.length)(hi:0<=i/\i<od.length)(ht:0<=tm/\tm<=1000000)(hsl:sk.length<=1000000)(hfl:fr.length<=1000000)(w:World)(hks:cO cs vs (sk.map I))(hH:Hp W0 w (.blk b (.cells #[vg,vo,vl,vn,vs,vf,I (tm),vq] 222 (0,0))::jf I vo 3 (od)::jf I vl 3 (lo)::jf B vn 4 (on)::cE cs vs 3 ((sk).map I)::uD E4 2 vf 233 (fr)::jf I vq 3 (kq)::L)):Calls Tryz.prog 187 #[.pointer (some ⟨b,0,none⟩),I i] w (jF fun u w'=>u= .tuple #[]/\∃vs' vf':Value,Hp W0 w' (.blk b (.cells #[vg,vo,vl,vn,vs',vf',I (tm+1),vq] 222 (0,0))::jf I vo 3 (od.set i.toNat (tm+1))::jf I vl 3 (lo.set i.toNat (tm+1))::jf B vn 4 (on.set i.toNat true)::cE none vs' 3 ((sk++[i]).map I)::uD E4 2 vf' 233 (fr++[⟨i,0⟩])::jf I vq 3 (kq)::L)):=by
 refine en func187 rfl rfl<|SR<|aG (v:=Pn _ _) rfl<|V (af O)<|V (fA eZ 6 O bp O)<|lI bt hH 0 O O rfl<|V (ax O O J)<|V (af O)<|V (fA eZ 6 O bp O)<|bk hH (i:=0) O (bM O O (v:=I _) O O O (hH.blk (i:=0) O) aA)<|fun w1 a7=> ?_
 simp only[ij,kf,mA,gA,Nat.reduceAdd]at a7
 refine aa<|ah<|fC (z:=⟨none,_,_,_,_,none⟩) aN O aN a7 (sP (sQ (sQ sR)))<|fun w3 gL=>have Dl:=gL.sub (sP (sQ (sQ sR)));AQ 0 O Dl (mV (Pn _ _) O)<|AQ 1 O Dl (af O)<|AQ 2 O Dl (fA eZ 1 O df O)<|tV 3 O Dl bq 0 O O rfl<|AQ 4 O Dl (mV (I _) O)<|AQ 5 O Dl (mV (Pn _ _) O)<|AQ 6 O Dl (af O)<|AQ 7 O Dl (fA eZ 2 O df O)<|tV 8 O Dl bq 0 O O rfl<|AQ 9 O Dl (mV (I _) O)<|AQ 10 O Dl (mV (Pn _ _) O)<|AQ 11 O Dl (af O)<|AQ 12 O Dl (fA eZ 3 O F5 O)<|tV 13 O Dl pW 0 O O rfl<|AQ 14 O Dl (mV (I _) O)<|AQ 15 O Dl (mV (Pn _ _) O)<|AQ 16 O Dl (af O)<|AQ 17 O Dl (fA eZ 6 O bp O)<|tI 18 O Dl bt 0 O O rfl<|AQ 19 O Dl (mV (Pn _ _) O)<|AQ 20 O Dl (af O)<|AQ 21 O Dl (fA eZ 6 O bp O)<|tI 22 O Dl bt 0 O O rfl<|A1 23<|bW O aH O gL (sP (sQ (sQ sR))) (ag (gL.sl (i:=1) O) bq bp O O J)<|A1 24<|Xb O aH gL (i:=1) O (fun _=>(sP (sQ (sQ sR)))) J O O O O rfl<|fun w9 bS=>A1 25<|bW O aH O bS (sP (sQ (sQ sR))) (ag (bS.sl (i:=2) O) bq bp O O J)<|A1 26<|Xb O aH bS (i:=2) O (fun _=>(sP (sQ (sQ sR)))) J O O O O rfl<|fun XD cF=>AT 27 O (cF.sub (sP (sQ (sQ sR)))) (fun w hS=>ag (hS.sl (i:=1) O) pW mN O O J)<|AD<|qe (a:=true) cF (i:=3) O J O O O O rfl<|fun OY dH=>aa<|SR<|aG (v:=Pn _ _) rfl<|aG (v:=Pn _ _) rfl<|V (af O)<|V (fA eZ 4 O df O)<|lV bq dH 0 O O rfl<|mI rfl<|vP 1 1 dH (bZ bq O O (sz:=1) (vs:=[I _]) O O ay ay O O)<|fun b21 Ub cJ=> ?_
 (try simp only[ot]at cJ)
 refine ap3 O cJ (i:=5) O hks (cJ.dQ (i:=0) (n:=1) (sz:=1) O O ay) O O bq O O (bytes:=8) O O O O J ay<|fun v22 w23 qB=>V (af O)<|V (fA eZ 4 O df O)<|bk qB (i:=1) O (bM O O (v:=v22) O (gG (qB.z7 (i:=5) O trivial)).2 (gG (qB.z7 (i:=5) O trivial)).1 (qB.blk (i:=1) O) aA)<|fun w25 j6=> ?_
 simp only[ij,kf,mA,gA,Nat.reduceAdd]at j6
 refine aa<|au<|aG (v:=Pn _ _) rfl<|aG (v:=Pn _ _) rfl<|V (af O)<|V (fA eZ 5 O oT O)<|lV lW j6 1 O O rfl<|mI rfl<|V (dD (vs:=[(0,I _)]) O (Rr _))<|vP 1 1 j6 (kI l8 lW O O O (l:=[_]) O ay ay O)<|fun b29 w27 jC=>ap2 l8 ay O jC (i:=7) O (Hp.mv l8 jC (i:=0) (l:=[_]) O jL) O O lW O O (bytes:=16) O O O agb J ay<|fun v30 w31 iM=>V (af O)<|V (fA eZ 5 O oT O)<|bk iM (i:=2) O (bM O O (v:=v30) O (a6 (iM.get (i:=7) O)).1 (a6 (iM.get (i:=7) O)).2 (iM.blk (i:=2) O) aA)<|fun w33 mG=> ?_
 simp only[ij,kf,mA,gA,Nat.reduceAdd]at mG
 refine aa<|p5 O ⟨rfl,v22,v30,(mG.sub (sQ (sQ sR)))⟩
theorem FE(W0:World)(b:Nat)(vg vo vl vn vs vf vq:Value)(cs:Option (Nat×Array Value))(od lo:List Int)(on:List Bool)(s1 s2:List Int)(a:Int)(fr:List CB)(tm:Int)(kq:List Int)(L:List a8)(hl1:lo.length=od.length)(hl2:on.length=od.length)(hl3:kq.length=od.length)(hsl:s1.length+s2.length<=1000000)(hna:a∉s2)(hin:∀x∈((a:Int)::s2),0<=x/\x<od.length)(w:World)(hks:cO cs vs ((s1++((a:Int)::s2)).map I))(hH:Hp W0 w (.blk b (.cells #[vg,vo,vl,vn,vs,vf,I (tm),vq] 222 (0,0))::jf I vo 3 (od)::jf I vl 3 (lo)::jf B vn 4 (on)::cE cs vs 3 (((s1++((a:Int)::s2))).map I)::uD E4 2 vf 233 (fr)::jf I vq 3 (kq)::L)):Calls Tryz.prog 188 #[.pointer (some ⟨b,0,none⟩),I a] w (jF fun u w'=>u= .tuple #[]/\∃cs':Option (Nat×Array Value),cO cs' (r8 vs s1.length) (s1.map I)/\Hp W0 w' (.blk b (.cells #[vg,vo,vl,vn,(r8 vs s1.length),vf,I (tm),vq] 222 (0,0))::jf I vo 3 (od)::jf I vl 3 (lo)::jf B vn 4 (fX on ((a:Int)::s2) false)::cE cs' (r8 vs s1.length) 3 ((s1).map I)::uD E4 2 vf 233 (fr)::jf I vq 3 (fX kq ((a:Int)::s2) (Bo a ((a:Int)::s2)))::L)):=by
 have aLO:((a:Int)::s2).length=s2.length+1:=rfl
 refine en func188 rfl rfl<|SR<|aG (v:=Pn _ _) rfl<|V (af O)<|V (fA eZ 4 O df O)<|lV bq hH 0 O O rfl<|V (aD (hH.z7 (i:=4) O hks) O bq O)<|V (fK O O hG)<|aI rfl<|aa<|ah<|aC<|bj (G:=Int) (fun k s' w'=>(Fr (4::(rg 17 11 [])) _ s')/\(Hp W0 w' _)/\(s' 4=I k)/\((s1.length:Int)<=k)/\(k<=s1.length+s2.length)) (fun k=>(k-s1.length).toNat) (((s1++((a:Int)::s2)).length:Int)-1) ⟨Fr.refl _ _,hH,(aJ I aA),hG,hG⟩<| ?_
 rintro k sg1 w1 ⟨tg,iA,yU,k0,k1⟩
 obtain⟨lD,yW⟩:=tg.w2 0 1
 refine ah<|SR<|aG lD<|V (af O)<|V (fA eZ 4 O df O)<|lV bq iA 0 O O rfl<|aG yU<|V (ag (iA.z7 (i:=4) O hks) bq bp O O hG)<|V (az bt O O ((iA.z7 (i:=4) O hks).cell _ _ (ew hG)))<|aG yW<|V (kQ O O)<|aa<|aF O (fun h3=> ?_) (fun h3=> ?_)
 .refine ak<|aC<|au<|aG yU<|V (fK O O J)<|aI rfl<|aa<| ?_
  refine⟨k-1,?_,tg.u4.u4.u4,iA,(aJ I aM),?_,J⟩
  ·(have:=af2 ‹_≠a› k0;omega)
  (have:=af2 ‹_≠a› k0;omega)
 refine aY (id:=0) rfl<|SR<|aG lD<|V (af O)<|V (fA eZ 4 O df O)<|lV bq iA 0 O O rfl<|aG yU<|have ek:=ap4 hna (Pr.1 ‹¬_≠a›) k0 k1;V (fT (iA.z7 (i:=4) O hks) bq bp O O hG)<| ?_
 refine V (run_assign bC) ?_
 refine aa<|SR<|aG yW<|aI rfl<|aa<|ah<|SR<| ?_
 refine V (run_move bC) ?_
 refine V (aD (Cs (s1:=s1) (a:=a) (s2:=s2) J (iA.z7 (i:=4) O hks)) O bq O)<|aG (v:=I 0) rfl<|aa<|aC<|bj (G:=Int) (fun q s' w'=>(Fr (6::(8::(rg 37 8 []))) _ s')/\(Hp W0 w' _)/\(s' 6=I (Bo a (((a:Int)::s2).take q.toNat)))/\(s' 37=I q)/\(0<=q)/\(q<=((a:Int)::s2).length)) (fun q=>(((a:Int)::s2).length-q).toNat) (0) ⟨Fr.refl _ _,iA,rfl,rfl,J,J⟩<| ?_
 rintro q sg4 w4 ⟨BE,gL,Ed,aii,q0,q1⟩
 obtain⟨Fj,aw1,aw2⟩:=BE.w3 5 35 36
 obtain⟨ab5,T7⟩:=BE.t2 0 lD 4 yU
 refine SR<|V (aL aii aw2)<|aa<|ah<|aF O (fun h6=> ?_) (fun h6=> ?_)
 .refine ak<|ah<|aC<|SR<|V (ag (Cs (s1:=s1) (a:=a) (s2:=s2) J (gL.z7 (i:=4) O hks)) bq bp aw1 aii J)<|V (az bt O O ((Cs (s1:=s1) (a:=a) (s2:=s2) J (gL.z7 (i:=4) O hks)).cell _ _ (ew J)))<|aI rfl<|aa<|au<|aG Ed<|mI rfl<|V (tZ O O)<|aI rfl<|aa<|au<|V (ax aii O J)<|mI rfl<|aa<| ?_
  refine⟨q+1,aW,BE.u4.u4.u1.u1,gL,(aJ I (abG q0 J).symm),(aJ I aM),J,J⟩
 refine aY (id:=2) rfl<|ah<|SR<|aG Fj<|V (aD (Cs (s1:=s1) (a:=a) (s2:=s2) J (gL.z7 (i:=4) O hks)) O bq O)<|aG (v:=I 0) rfl<|aa<|aC<|have hq:((a:Int)::s2).take q.toNat=((a:Int)::s2):=iD J;bj (G:=Int×(List Bool)×(List Int)) (fun⟨q2,Ih,Ii⟩ s' w'=>(Fr (10::(rg 47 18 [])) _ s')/\(Hp W0 w' (_::_::_::jf B vn 4 Ih::_::_::jf I vq 3 Ii::_))/\(s' 47=I q2)/\(0<=q2)/\(q2<=((a:Int)::s2).length)/\(Ih=fX on (((a:Int)::s2).take q2.toNat) false)/\(Ii=fX kq (((a:Int)::s2).take q2.toNat) (Bo a ((a:Int)::s2)))) (fun⟨q2,Ih,Ii⟩=>(((a:Int)::s2).length-q2).toNat) ((0,on,kq)) ⟨Fr.refl _ _,gL,rfl,J,J,rfl,rfl⟩<| ?_
 rintro⟨q2,Ih,Ii⟩ sg7 w7 ⟨Es,eR,aij,r0,r1,hon,hof⟩
 obtain⟨aw3,aw4⟩:=Es.w2 45 46
 obtain⟨Ej,Hq,ahJ⟩:=Es.t3 0 ab5 4 T7 6 Ed
 have l3:Ih.length=od.length:=by rw[hon,iy];exact hl2
 have l4:Ii.length=od.length:=by rw[hof,iy];exact hl3
 refine SR<|V (aL aij aw4)<|aa<|ah<|aF O (fun h9=> ?_) (fun h9=> ?_)
 .refine ak<|ah<|aC<|SR<|V (ag (Cs (s1:=s1) (a:=a) (s2:=s2) J (eR.z7 (i:=4) O hks)) bq bp aw3 aij J)<|V (az bt O O ((Cs (s1:=s1) (a:=a) (s2:=s2) J (eR.z7 (i:=4) O hks)).cell _ _ (ew J)))<|aI rfl<|aa<|have hix:=hin _ (dG (d:=0) r0 ‹q2<_›);fC (z:=⟨none,_,_,_,_,none⟩) aN O aN eR (sP (sP (sP (sP (sP (sP (sQ sR)))))))<|fun Hi dN=>have iY:=dN.sub (sP (sP (sP (sP (sP (sP (sQ sR)))))));AQ 0 O iY (run_move Ej)<|AQ 1 O iY (af O)<|AQ 2 O iY (fA eZ 7 O df O)<|tV 3 O iY bq 0 O O rfl<|AQ 4 O iY (mV (I _) O)<|AQ 5 O iY (run_move Ej)<|AQ 6 O iY (af O)<|AQ 7 O iY (fA eZ 3 O F5 O)<|tV 8 O iY pW 0 O O rfl<|AQ 9 O iY (mV (I _) O)<|AQ 10 O iY (run_move ahJ)<|A1 11<|bW O aH O dN (sP (sP (sP (sP (sP (sP (sQ sR))))))) (ag (dN.sl (i:=6) O) bq bp O O J)<|A1 12<|Xb O aH dN (i:=6) O (fun _=>(sP (sP (sP (sP (sP (sP (sQ sR)))))))) J O O O O rfl<|fun Ml er=>AT 13 O (er.sub (sP (sP (sP (sP (sP (sP (sQ sR)))))))) (fun w hS=>ag (hS.sl (i:=3) O) pW mN O O J)<|AD<|qe (a:=false) er (i:=3) O J O O O O rfl<|fun Uc j7=>aa<|au<|V (ax aij O J)<|mI rfl<|aa<| ?_
  refine⟨(q2+1,_,_),aW,Es.u4.u4.u4.u4.u1.u1.u1,(Hp.conv j7 aM),(aJ I aM),J,J,?_,?_⟩
  .rw[Bn r0 J,<-hon]
  rw[Bn r0 J,<-hof,hq]
 refine aY (id:=4) rfl<|au<|aG Ej<|aG Ej<|V (af O)<|V (fA eZ 4 O df O)<|lV bq eR 0 O O rfl<|aG Hq<|aG Hq<|V (uz (eR.z7 (i:=4) O hks) bq bp O O O hG)<|V (af O)<|V (fA eZ 4 O df O)<|have hs1:=((eR.z7 (i:=4) O hks)).r8 (n:=k.toNat) hG;?_
 obtain⟨c20,arL,c8⟩:=eR.apI (i:=4) O hks (m:=k.toNat) hG
 simp only[ij,kf,<-AI]at c8 arL
 refine bk c8 (i:=0) O (bM O O (v:=r8 vs k.toNat) O (gG hs1).2 (gG hs1).1 (c8.blk (i:=0) O) aA)<|fun w23 qB=> ?_
 simp only[ij,kf,mA,gA,Nat.reduceAdd]at qB
 refine aa<|have ek:k.toNat=s1.length:=J;?_
 rw[ek,tR]at qB arL
 have eq2:((a:Int)::s2).take q2.toNat=((a:Int)::s2):=iD J
 rw[eq2]at hon hof
 rw[hon,hof]at qB
 exact p5 O ⟨rfl,c20,arL,qB⟩
set_option maxHeartbeats 2000000 in
theorem Hx(W0:World)(b:Nat)(vg vo vl vn vs vf vq:Value)(cs:Option (Nat×Array Value))(gr:List jx)(od lo:List Int)(on:List Bool)(tm:Int)(kq:List Int)(nx:Nat->Nat)(K:Vu)(L:List a8)(i:Int)(hgn:gr.length<=100000)(hS:qx (o5 gr) od lo on tm kq [] nx)(hi:0<=i/\i<od.length)(h0:nr od i.toNat=0)(w:World)(hK:Le K (Kw W0))(hg:GrV K vg gr)(hks:cO cs vs (([]:List Int).map I))(hH:Hp W0 w (.blk b (.cells #[vg,vo,vl,vn,vs,vf,I (tm),vq] 222 (0,0))::jf I vo 3 (od)::jf I vl 3 (lo)::jf B vn 4 (on)::cE cs vs 3 ([].map I)::uD E4 2 vf 233 []::jf I vq 3 (kq)::L)):Calls Tryz.prog 155 #[.pointer (some ⟨b,0,none⟩),I i] w (jF fun u w'=>u= .tuple #[]/\∃(LY NC:Value) (D4:Option (Nat×Array Value)) (UD:Nat->Nat) (Av Yd:List Int) (Ih:List Bool) (MP:Int) (Ii:List Int),qx (o5 gr) Av Yd Ih MP Ii [] UD/\cO D4 LY (([]:List Int).map I)/\(nr Av i.toNat≠0/\∀k,nr od k≠0->nr Av k≠0)/\Hp W0 w' (.blk b (.cells #[vg,vo,vl,vn,LY,NC,I (MP),vq] 222 (0,0))::jf I vo 3 (Av)::jf I vl 3 (Yd)::jf B vn 4 (Ih)::cE D4 LY 3 (([]).map I)::uD E4 2 NC 233 ([])::jf I vq 3 (Ii)::L)):=by
 have hr0:=hS.room
 rw[fQ]at hr0
 refine en func155 rfl rfl<|WZ<|SR<|aG (v:=Pn _ _) rfl<|mI rfl<|ct O (vX _ _ _ _ _ _ _ _ _ _ _ _ _ _ _ _ _ _ _ (by have:=hS.llo;have:=hS.RO;omega) (by have:=hS.lon;have:=hS.RO;omega) (by have:=hS.lof;have:=hS.RO;omega) hi J (by simp[eT,NI]) (by simp[oD]) _ hks hH) (aK call187 O O)<| ?_
 rintro _ w3 ⟨rfl,v5,v6,gL⟩
 have hS1:=hS.first (a:=i.toNat) (by rw[<-hS.RO];omega) h0
 rw[show i=((i.toNat:Nat):Int)by omega,show([]:List Int)++[((i.toNat:Nat):Int)]=NI (eT [(i.toNat,[])]).reverse from agc (F:=[]),show([]:List CB)++[⟨((i.toNat:Nat):Int),0⟩]=oD [(i.toNat,[])] nx from agd (F:=[]) (hS.nx0 _ h0)]at gL
 simp only[dW]at gL
 refine aa<|ah<|W3<|aC<| ?_
 refine bj (G:=RN×(Nat->Nat)×Value×Value×(Option (Nat×Array Value))×(List Int)×(List Int)×(List Bool)×Int×(List Int)) (fun⟨F,UD,LY,NC,D4,Av,Yd,Ih,MP,Ii⟩ s' w'=>(Fr (rg 4 5 (rg 12 173 [])) _ s')/\(Hp W0 w' (.blk b (.cells #[vg,vo,vl,vn,LY,NC,I (MP),vq] 222 (0,0))::jf I vo 3 (Av)::jf I vl 3 (Yd)::jf B vn 4 (Ih)::cE D4 LY 3 ((NI (eT F).reverse).map I)::uD E4 2 NC 233 (oD F UD)::jf I vq 3 (Ii)::_))/\(qx (o5 gr) Av Yd Ih MP Ii F UD)/\(cO D4 LY ((NI (eT F).reverse).map I))/\(nr Av i.toNat≠0/\∀k,nr od k≠0->nr Av k≠0)) (fun⟨F,UD,LY,NC,D4,Av,Yd,Ih,MP,Ii⟩=>2*Av.count 0+F.length) (([(i.toNat,[])],nx,v5,v6,none,od.set i.toNat (tm+1),lo.set i.toNat (tm+1),on.set i.toNat true,tm+1,kq)) ⟨Fr.refl _ _,gL,hS1,trivial,⟨by rw[yQ J];unfold m4;rw[aR O];omega,fun k hk=>by rw[yQ J];unfold m4;split<;>omega⟩⟩ ?_
 rintro⟨F,UD,LY,NC,D4,Av,Yd,Ih,MP,Ii⟩ sg7 w7 ⟨Es,eR,hS,Ye,hdn⟩
 have Ej:=Es.w1 0
 refine ah<|SR<|aG Ej<|V (af O)<|V (fA eZ 5 O oT O)<|lV lW eR 0 O O rfl<|V (aD (eR.sl (i:=5) O) O lW O)<|V (dx O O)<|aa<|aF O (fun h9=> ?_) (fun h9=> ?_)
 .refine ak<|aC<|ah<| ?_
  obtain⟨a,sg,F0,rfl⟩:=aqa (F:=F) (nx:=UD) J
  have han:=hS.DP
  rw[fQ]at han
  have q0:=hS.RO;rw[fQ]at q0
  have q1:=hS.llo;rw[fQ]at q1
  have q2:=hS.lon;rw[fQ]at q2
  have q3:=hS.lof;rw[fQ]at q3
  have hrm:=hS.room
  rw[fQ]at hrm
  have hst:=Zl hS
  rw[fQ]at hst
  have hfs:=akO hS
  simp only[eE]at hfs
  have hlen:((oD ((a,sg)::F0) UD).length:Int)-1=F0.length:=by rw[nh];simp
  have hfa:(oD ((a,sg)::F0) UD).getD (F0.length:Int).toNat Ix=⟨a,UD a⟩:=QL
  refine eu aN eR<|fun Hi dN=>have iY:=dN;AQ 0 O iY (run_move Ej)<|AQ 1 O iY (af O)<|AQ 2 O iY (fA eZ 5 O oT O)<|tV 3 O iY lW 0 O O rfl<|AQ 4 O iY (run_move Ej)<|AQ 5 O iY (af O)<|AQ 6 O iY (fA eZ 5 O oT O)<|tV 7 O iY lW 0 O O rfl<|AT 8 O iY (fun w hS=>aD (hS.sl (i:=5) O) O lW O)<|AQ 9 O iY (fK O O J)<|AT 10 O iY (fun w hS=>ag (hS.sl (i:=5) O) lW JV O (aJ I hlen) J)<|AQ 11 O iY (aV (Pn _ _) O)<|AD<|SR<|aG (v:=Pn _ _) rfl<|V (af O)<|V (fA DA 0 O bp O)<|V (gf (dv:=Ix) (off:=0) l8 (dN.sl (i:=5) O) bt O O J O)<|V (run_assign (show _=I (a:Int)from aJ (fun x:CB=>I x.node) hfa))<|aa<|ah<|aC<|bj (G:=(Nat->Nat)×(List Int)) (fun⟨uS,Jp⟩ s' w'=>(Fr (6::(rg 33 83 [])) _ s')/\(Hp W0 w' (_::_::jf I vl 3 Jp::_::_::uD E4 2 NC 233 (oD ((a,sg)::F0) uS)::_))/\(qx (o5 gr) Av Jp Ih MP Ii ((a,sg)::F0) uS)) (fun⟨uS,Jp⟩=>(gr.getD (a:Int).toNat cP).l.length-uS a) ((UD,Yd)) ⟨Fr.refl _ _,dN,hS⟩<| ?_
  rintro⟨uS,Jp⟩ ahA Cx ⟨o9,cQ,hS⟩
  obtain⟨My,nV⟩:=o9.w2 4 5
  have kM:=o9.t1 0 Ej
  have hlen:((oD ((a,sg)::F0) uS).length:Int)-1=F0.length:=by rw[nh];simp
  have hfa:(oD ((a,sg)::F0) uS).getD (F0.length:Int).toNat Ix=⟨a,uS a⟩:=QL
  have q1:=hS.llo;rw[fQ]at q1
  have hml:=(hg.row (k:=(a:Int)) J J).small
  unfold maxLen at hml
  refine ah<|ah<|eu aN cQ<|fun C8 cw=>have wS:=cw;AQ 0 O wS (run_move My)<|AQ 1 O wS (af O)<|AQ 2 O wS (fA DA 1 O bp O)<|AT 3 O wS (fun w hS=>gf (dv:=Ix) (off:=1) l8 (hS.sl (i:=5) O) bt O O J O)<|AQ 4 O wS (run_move kM)<|AQ 5 O wS (af O)<|AQ 6 O wS (fA eZ 0 O yc O)<|tV 7 O wS ov 0 O O rfl<|AQ 8 O wS (run_move nV)<|AT 9 O wS (fun w hS=>ag (hg.1.mono (Le.trans hK hS.kw)).sl ov df O O J)<|AT 10 O wS (fun w hS=>az bq O O ((hg.1.mono (Le.trans hK hS.kw)).sl.cell _ _ (hg.at J)))<|AT 11 O wS (fun w hS=>aD ((hg.row (k:=(a:Int)) J J).mono (Le.trans hK hS.kw)).sl O bq O)<|AQ 12 O wS (aL (show _=I (uS a:Int)from aJ (fun x:CB=>I x.next) hfa) O)<|AD<|aF O (fun xF=> ?_) (fun xF=> ?_)
  .refine ak<|aC<|ah<|eu aN cw<|fun OY dH=>have pN:=dH;AQ 0 O pN (run_move kM)<|AQ 1 O pN (af O)<|AQ 2 O pN (fA eZ 0 O yc O)<|tV 3 O pN ov 0 O O rfl<|AQ 4 O pN (run_move nV)<|AT 5 O pN (fun w hS=>ag (hg.1.mono (Le.trans hK hS.kw)).sl ov df O O J)<|AT 6 O pN (fun w hS=>az bq O O ((hg.1.mono (Le.trans hK hS.kw)).sl.cell _ _ (hg.at J)))<|AQ 7 O pN (run_move My)<|AQ 8 O pN (af O)<|AQ 9 O pN (fA DA 1 O bp O)<|AT 10 O pN (fun w hS=>gf (dv:=Ix) (off:=1) l8 (hS.sl (i:=5) O) bt O O J O)<|AT 11 O pN (fun w hS=>ag ((hg.row (k:=(a:Int)) J J).mono (Le.trans hK hS.kw)).sl bq bp O (show _=I (uS a:Int)from aJ (fun x:CB=>I x.next) hfa) J)<|AT 12 O pN (fun w hS=>az bt O O (((hg.row (k:=(a:Int)) J J).mono (Le.trans hK hS.kw)).sl.cell _ _ (ew J)))<|AQ 13 O pN (aV (I _) O)<|AD<|SR<|aG My<|V (af O)<|V (fA DA 1 O bp O)<|V (gf (dv:=Ix) (off:=1) l8 (dH.sl (i:=5) O) bt O O J O)<|V (ax (show _=I (uS a:Int)from aJ (fun x:CB=>I x.next) hfa) O J)<|V (af O)<|V (fA DA 1 O bp O)<|af1 (a:=Ix) (u:=I ((uS a:Int)+1)) (b:=⟨((oD ((a,sg)::F0) uS).getD (F0.length:Int).toNat Ix).node,(uS a:Int)+1⟩) l8 dH (i:=5) O Gc O O O O O ay rfl<|fun Ub cJ=> ?_
   rw[hfa,dW,aga hS]at cJ
   refine aa<|ah<|SR<|mI rfl<|V (aL O O)<|mB rfl<|bI 68 O (fun h22=> ?_) (fun h22=> ?_)
   .refine aG (v:=B true) rfl<|aa<|cr rfl<|aY (id:=3) rfl<| ?_
    refine⟨(pJ uS a,Jp),?_,o9.u4.u4.u4.u4.u4.u4.u4.u4.u4.u4.u4.u1,(Hp.conv cJ aM),?_⟩
    ·(show(gr.getD (a:Int).toNat cP).l.length-pJ uS a a<(gr.getD (a:Int).toNat cP).l.length-uS a;unfold pJ;rw[aR O];omega)
    exact hS.skip fun⟨j,h1,h2⟩=>by rw[D5]at h2;rw[fQ]at h1;have e:((gr.getD (a:Int).toNat cP).l.getD (uS a:Int).toNat 0)=j:=h2;omega
   refine mI rfl<|aG kM<|V (af O)<|V (fA eZ 0 O yc O)<|lV ov cJ 0 O O rfl<|V (aD (hg.1.mono (Le.trans hK cJ.kw)).sl O ov O)<|V (di O O)<|mB rfl<|aa<|aF O (fun zL=> ?_) (fun zL=> ?_)
   .refine aY (id:=3) O ?_
    refine⟨(pJ uS a,Jp),?_,o9.u4.u4.u4.u4.u4.u4.u4.u4.u4.u4.u4.u1,(Hp.conv cJ aM),?_⟩
    ·(show(gr.getD (a:Int).toNat cP).l.length-pJ uS a a<(gr.getD (a:Int).toNat cP).l.length-uS a;unfold pJ;rw[aR O];omega)
    exact hS.skip fun⟨j,h1,h2⟩=>by rw[D5]at h2;rw[fQ]at h1;have e:((gr.getD (a:Int).toNat cP).l.getD (uS a:Int).toNat 0)=j:=h2;omega
   refine ak<|ah<|SR<| ?_
   obtain⟨j,hj⟩:∃j:Nat,((gr.getD (a:Int).toNat cP).l.getD (uS a:Int).toNat 0)=(j:Int):=⟨_,(fF J).symm⟩
   have hjn:((o5 gr).getD a []).getD (uS a) 0=(j:Int):=by rw[D5];exact hj
   have hjr:j<(o5 gr).length:=by rw[fQ];omega
   have hlt:uS a<((o5 gr).getD a []).length:=by rw[D5];show uS a<(gr.getD (a:Int).toNat cP).l.length;omega
   refine aG kM<|V (af O)<|V (fA eZ 1 O df O)<|lV bq cJ 0 O O rfl<|mI rfl<|V (ag (cJ.sl (i:=1) O) bq bp O (aJ I hj) J)<|V (az bt O O ((cJ.sl (i:=1) O).cell _ _ (ew J)))<|V (bO O O)<|aa<|aF O (fun h26=> ?_) (fun h26=> ?_)
   .refine SR<|have h0j:nr Av j=0:=‹Av.getD (j:Int).toNat 0=0›;aG kM<|mI rfl<|ct O (vX _ _ _ _ _ _ _ _ _ _ _ _ _ _ _ _ _ _ _ J J J J J (by simp only[NI,fx,List.length_reverse];omega) Gc _ Ye cJ) (aK call187 O (aJ I hj))<| ?_
    rintro _ w29 ⟨rfl,v31,v32,iN⟩
    have hS1:=hS.enter (a:=j) hlt hjn J h0j
    rw[agc,agd (QK hS j h0j)]at iN
    simp only[dW]at iN
    refine aa<|aY (id:=1) rfl<| ?_
    refine⟨(((j,[])::(a,sg)::F0),pJ uS a,v31,v32,none,Av.set j (MP+1),Jp.set j (MP+1),Ih.set j true,MP+1,Ii),?_,(((Es.u4.u4.u4.u4.u4.u1.u1.u1).t o9 O)).u4.u4.u4.u4.u4.u4.u4.u4.u4.u4.u4.u4.u4.u4,(Hp.conv iN aM),?_,?_,?_⟩
    ·(have c1:=hS.cnt;have c2:=hS1.cnt;simp only[eE];omega)
    .exact hS1
    .exact trivial
    (refine⟨?_,fun k hk=> ?_⟩<;>(rw[yQ J];unfold m4;split<;>first|omega|exact hdn.2 k hk))
   refine ak<|SR<|aG kM<|V (af O)<|V (fA eZ 3 O F5 O)<|lV pW cJ 0 O O rfl<|mI rfl<|V (ag (cJ.sl (i:=3) O) pW mN O (aJ I hj) J)<|V (az sI O O ((cJ.sl (i:=3) O).cell _ _ (kR (dv:=false) J)))<|aa<|bQ O (fun h34=> ?_) (fun h34=> ?_)
   .refine fC (z:=⟨none,_,_,_,_,none⟩) aN O aN cJ sR<|fun w35 m6=>have rL:=m6;AQ 0 O rL (run_move kM)<|AQ 1 O rL (af O)<|AQ 2 O rL (fA eZ 2 O df O)<|tV 3 O rL bq 0 O O rfl<|AQ 4 O rL (run_move nV)<|AQ 5 O rL (run_move kM)<|AQ 6 O rL (af O)<|AQ 7 O rL (fA eZ 2 O df O)<|tV 8 O rL bq 0 O O rfl<|AQ 9 O rL (run_move nV)<|AT 10 O rL (fun w hS=>ag (hS.sl (i:=2) O) bq bp O O J)<|AT 11 O rL (fun w hS=>az bt O O ((hS.sl (i:=2) O).cell _ _ (ew J)))<|AQ 12 O rL (run_move kM)<|AQ 13 O rL (af O)<|AQ 14 O rL (fA eZ 1 O df O)<|tV 15 O rL bq 0 O O rfl<|AQ 16 O rL (mV (I _) O)<|AT 17 O rL (fun w hS=>ag (hS.sl (i:=1) O) bq bp O (aJ I hj) J)<|AT 18 O rL (fun w hS=>az bt O O ((hS.sl (i:=1) O).cell _ _ (ew J)))<|AQ 19 O rL (tZ O O)<|AT 20 O rL (fun w hS=>ag (hS.sl (i:=2) O) bq bp O O J)<|AD<|qe m6 (i:=2) O J O O O O rfl<|fun w37 zn=>aa<| ?_
    refine⟨(pJ uS a,Jp.set a (min (nr Jp a) (nr Av j))),?_,o9.u4.u4.u4.u4.u4.u4.u4.u4.u4.u4.u4.u4.u4.u4.u4.u4.u4.u4.u4.u4.u1,(Hp.conv zn aM),?_⟩
    ·(show(gr.getD (a:Int).toNat cP).l.length-pJ uS a a<(gr.getD (a:Int).toNat cP).l.length-uS a;unfold pJ;rw[aR O];omega)
    exact hS.arc hlt hjr hjn ‹_=true›
   refine ak ?_
   refine⟨(pJ uS a,Jp),?_,o9.u4.u4.u4.u4.u4.u4.u4.u4.u4.u4.u4.u4.u4.u4.u4,(Hp.conv cJ aM),?_⟩
   ·(show(gr.getD (a:Int).toNat cP).l.length-pJ uS a a<(gr.getD (a:Int).toNat cP).l.length-uS a;unfold pJ;rw[aR O];omega)
   exact hS.shut hlt hjr hjn ‹¬Av.getD (j:Int).toNat 0=0› jM
  refine aY (id:=2) rfl<|ah<|ah<|have hnd:¬uS a<((o5 gr).getD a []).length:=(by rw[D5];show¬uS a<(gr.getD (a:Int).toNat cP).l.length;omega);eu aN cw<|fun w39 nM=>have uQ:=nM;AQ 0 O uQ (run_move kM)<|AQ 1 O uQ (af O)<|AQ 2 O uQ (fA eZ 2 O df O)<|tV 3 O uQ bq 0 O O rfl<|AQ 4 O uQ (run_move nV)<|AT 5 O uQ (fun w hS=>ag (hS.sl (i:=2) O) bq bp O O J)<|AT 6 O uQ (fun w hS=>az bt O O ((hS.sl (i:=2) O).cell _ _ (ew J)))<|AQ 7 O uQ (run_move kM)<|AQ 8 O uQ (af O)<|AQ 9 O uQ (fA eZ 1 O df O)<|tV 10 O uQ bq 0 O O rfl<|AQ 11 O uQ (run_move nV)<|AT 12 O uQ (fun w hS=>ag (hS.sl (i:=1) O) bq bp O O J)<|AT 13 O uQ (fun w hS=>az bt O O ((hS.sl (i:=1) O).cell _ _ (ew J)))<|AQ 14 O uQ (bO O O)<|AD<|aF O (fun h42=> ?_) (fun h42=> ?_)
  .refine au<|aG kM<|aG nV<|have n8:nr Jp a=nr Av a:=‹Jp.getD (a:Int).toNat 0=Av.getD (a:Int).toNat 0›;have aw7:=Ye;have me:=nM;?_
   rw[Zk]at aw7 me
   refine ct O (FE _ _ _ _ _ _ _ _ _ _ _ _ _ _ _ _ _ _ _ _ J J J (by have:=Zl hS;have e:=aJ List.length (gh (a:=a) (sg:=sg) (F:=F0));simp only[cV,eE]at e;simp only[NI,fx,List.length_reverse];omega) hS.apE (fun x hx=>by obtain⟨k,hk,rfl⟩:=Zj (l:=a::sg.reverse) hx;have:=(hS.lt k (by rw[gh];simp at hk⊢;exact hk.elim (fun q=> .inr (.inl q)) .inl)).1;rw[fQ]at this;omega) _ aw7 me) (aK call188 O O) ?_
   rintro _ w46 ⟨rfl,c48,aw8,nO⟩
   have hS2:=hS.auP (ks:=(a:Int)::NI sg.reverse) hnd n8 O
   refine aa<|ah<|fC (z:=⟨none,_,_,_,_,none⟩) aN O aN nO sR<|fun w50 u7=>have Ap:=u7;AQ 0 O Ap (run_move kM)<|AQ 1 O Ap (run_move kM)<|AQ 2 O Ap (af O)<|AQ 3 O Ap (fA eZ 5 O oT O)<|tV 4 O Ap lW 0 O O rfl<|AQ 5 O Ap (run_move kM)<|AQ 6 O Ap (af O)<|AQ 7 O Ap (fA eZ 5 O oT O)<|tV 8 O Ap lW 0 O O rfl<|AT 9 O Ap (fun w hS=>aD (hS.sl (i:=5) O) O lW O)<|AQ 10 O Ap (fK O O J)<|A1 11<|bW O aH O u7 sR (Cb (u7.sl (i:=5) O) lW JV O (aJ I hlen) (by(simp only[nh,eE];omega)))<|AQ 12 O Ap (af O)<|AQ 13 O Ap (fA eZ 5 O oT O)<|AD<|have oo:=Hp.auG l8 u7 (i:=5) O (m:=F0.length) (by(simp only[nh,eE];omega));bk oo (i:=0) O (bM O O (v:=(uW NC (F0.length))) O (a6 (oo.get (i:=5) O)).1 (a6 (oo.get (i:=5) O)).2 (oo.blk (i:=0) O) aA)<|fun w54 iB=> ?_
   simp only[ij,kf,mA,gA,Nat.reduceAdd]at iB
   rw[Tv]at iB
   refine aa<|SR<|aG kM<|V (af O)<|V (fA eZ 5 O oT O)<|lV lW iB 0 O O rfl<|V (aD (iB.sl (i:=5) O) O lW O)<|V (run_assign (aJ I (show((oD F0 uS).length:Int)=F0.length from by rw[nh])))<|aa<|SR<|mI rfl<|V (dx O O)<|aa<|aF O (fun h58=> ?_) (fun h58=> ?_)
   .refine SR ?_
    obtain⟨p,sp,F1,rfl⟩:=auQ (F:=F0) J
    have hpn:=(hS.lt p (iL (x:=(p,sp)) aA)).1
    rw[fQ]at hpn
    refine aG kM<|V (af O)<|V (fA eZ 5 O oT O)<|lV lW iB 0 O O rfl<|mI rfl<|V (fK O O J)<|V (ag (iB.sl (i:=5) O) lW JV O (aJ I (show(((p,sp)::F1).length:Int)-1=F1.length from by simp)) Gc)<|V (fA DA 0 O bp O)<|V (gf (dv:=Ix) (off:=0) l8 (iB.sl (i:=5) O) bt O O Gc O)<|V (run_assign (show _=I (p:Int)from aJ (fun x:CB=>I x.node) (show(oD ((p,sp)::F1) uS).getD (F1.length:Int).toNat Ix=⟨p,uS p⟩from QL)))<|aa<|fC (z:=⟨none,_,_,_,_,none⟩) aN O aN iB sR<|fun w59 BW=>have wW:=BW;AQ 0 O wW (run_move kM)<|AQ 1 O wW (af O)<|AQ 2 O wW (fA eZ 2 O df O)<|tV 3 O wW bq 0 O O rfl<|AQ 4 O wW (mV (I _) O)<|AQ 5 O wW (run_move kM)<|AQ 6 O wW (af O)<|AQ 7 O wW (fA eZ 2 O df O)<|tV 8 O wW bq 0 O O rfl<|AQ 9 O wW (mV (I _) O)<|AT 10 O wW (fun w hS=>ag (hS.sl (i:=2) O) bq bp O O J)<|AT 11 O wW (fun w hS=>az bt O O ((hS.sl (i:=2) O).cell _ _ (ew J)))<|AQ 12 O wW (run_move kM)<|AQ 13 O wW (af O)<|AQ 14 O wW (fA eZ 2 O df O)<|tV 15 O wW bq 0 O O rfl<|AQ 16 O wW (run_move nV)<|AT 17 O wW (fun w hS=>ag (hS.sl (i:=2) O) bq bp O O J)<|AT 18 O wW (fun w hS=>az bt O O ((hS.sl (i:=2) O).cell _ _ (ew J)))<|AQ 19 O wW (tZ O O)<|AT 20 O wW (fun w hS=>ag (hS.sl (i:=2) O) bq bp O O J)<|AD<|qe BW (i:=2) O J O O O O rfl<|fun w61 pO=>aa<| ?_
    refine⟨(((p,sp)::F1),uS,(r8 LY (NI (eT ((p,sp)::F1)).reverse).length),(uW NC (((p,sp)::F1).length)),c48,Av,Jp.set p (min (nr Jp p) (nr Jp a)),fX Ih ((a:Int)::NI sg.reverse) false,MP,fX Ii ((a:Int)::NI sg.reverse) (Bo a ((a:Int)::NI sg.reverse))),?_,(((Es.u4.u4.u4.u4.u4.u1.u1.u1).t o9 O)).u4.u4.u4.u4.u4.u4.u4.u4.u4.u4.u4.u4.u4.u4.u4.u4.u4.u4.u4.u4.u4,(Hp.conv pO aM),?_,?_,?_⟩
    ·(simp only[eE,FY];omega)
    ·(rw[hS.keep n8];exact hS2)
    .exact aw8
    exact hdn
   refine ak<|have e0:F0=[]:=Et J;?_
   subst e0
   refine⟨([],uS,(r8 LY (NI (eT ([]:RN)).reverse).length),(uW NC (([]:RN).length)),c48,Av,Jp,fX Ih ((a:Int)::NI sg.reverse) false,MP,fX Ii ((a:Int)::NI sg.reverse) (Bo a ((a:Int)::NI sg.reverse))),?_,(((Es.u4.u4.u4.u4.u4.u1.u1.u1).t o9 O)).u4.u4.u4.u4.u4.u4.u4.u4.u4.u4.u4.u4.u4.u1,(Hp.conv iB aM),?_,?_,?_⟩
   ·(simp only[eE,FY];omega)
   .exact hS2
   .exact aw8
   exact hdn
  refine ak<|ah<|have n8:nr Jp a≠nr Av a:=‹¬Jp.getD (a:Int).toNat 0=Av.getD (a:Int).toNat 0›;fC (z:=⟨none,_,_,_,_,none⟩) aN O aN nM sR<|fun w63 BN=>have Hy:=BN;AQ 0 O Hy (run_move kM)<|AQ 1 O Hy (run_move kM)<|AQ 2 O Hy (af O)<|AQ 3 O Hy (fA eZ 5 O oT O)<|tV 4 O Hy lW 0 O O rfl<|AQ 5 O Hy (run_move kM)<|AQ 6 O Hy (af O)<|AQ 7 O Hy (fA eZ 5 O oT O)<|tV 8 O Hy lW 0 O O rfl<|AT 9 O Hy (fun w hS=>aD (hS.sl (i:=5) O) O lW O)<|AQ 10 O Hy (fK O O J)<|A1 11<|bW O aH O BN sR (Cb (BN.sl (i:=5) O) lW JV O (aJ I hlen) (by(simp only[nh,eE];omega)))<|AQ 12 O Hy (af O)<|AQ 13 O Hy (fA eZ 5 O oT O)<|AD<|have NA:=Hp.auG l8 BN (i:=5) O (m:=F0.length) (by(simp only[nh,eE];omega));bk NA (i:=0) O (bM O O (v:=(uW NC (F0.length))) O (a6 (NA.get (i:=5) O)).1 (a6 (NA.get (i:=5) O)).2 (NA.blk (i:=0) O) aA)<|fun w67 kD=> ?_
  simp only[ij,kf,mA,gA,Nat.reduceAdd]at kD
  rw[Tv]at kD
  refine aa<|SR<|aG kM<|V (af O)<|V (fA eZ 5 O oT O)<|lV lW kD 0 O O rfl<|V (aD (kD.sl (i:=5) O) O lW O)<|V (run_assign (aJ I (show((oD F0 uS).length:Int)=F0.length from by rw[nh])))<|aa<|SR<|mI rfl<|V (dx O O)<|aa<|aF O (fun h71=> ?_) (fun h71=> ?_)
  .refine SR ?_
   obtain⟨p,sp,F1,rfl⟩:=auQ (F:=F0) J
   have hpn:=(hS.lt p (iL (x:=(p,sp)) aA)).1
   rw[fQ]at hpn
   refine aG kM<|V (af O)<|V (fA eZ 5 O oT O)<|lV lW kD 0 O O rfl<|mI rfl<|V (fK O O J)<|V (ag (kD.sl (i:=5) O) lW JV O (aJ I (show(((p,sp)::F1).length:Int)-1=F1.length from by simp)) Gc)<|V (fA DA 0 O bp O)<|V (gf (dv:=Ix) (off:=0) l8 (kD.sl (i:=5) O) bt O O Gc O)<|V (run_assign (show _=I (p:Int)from aJ (fun x:CB=>I x.node) (show(oD ((p,sp)::F1) uS).getD (F1.length:Int).toNat Ix=⟨p,uS p⟩from QL)))<|aa<|fC (z:=⟨none,_,_,_,_,none⟩) aN O aN kD sR<|fun w72 u9=>have wX:=u9;AQ 0 O wX (run_move kM)<|AQ 1 O wX (af O)<|AQ 2 O wX (fA eZ 2 O df O)<|tV 3 O wX bq 0 O O rfl<|AQ 4 O wX (mV (I _) O)<|AQ 5 O wX (run_move kM)<|AQ 6 O wX (af O)<|AQ 7 O wX (fA eZ 2 O df O)<|tV 8 O wX bq 0 O O rfl<|AQ 9 O wX (mV (I _) O)<|AT 10 O wX (fun w hS=>ag (hS.sl (i:=2) O) bq bp O O J)<|AT 11 O wX (fun w hS=>az bt O O ((hS.sl (i:=2) O).cell _ _ (ew J)))<|AQ 12 O wX (run_move kM)<|AQ 13 O wX (af O)<|AQ 14 O wX (fA eZ 2 O df O)<|tV 15 O wX bq 0 O O rfl<|AQ 16 O wX (run_move nV)<|AT 17 O wX (fun w hS=>ag (hS.sl (i:=2) O) bq bp O O J)<|AT 18 O wX (fun w hS=>az bt O O ((hS.sl (i:=2) O).cell _ _ (ew J)))<|AQ 19 O wX (tZ O O)<|AT 20 O wX (fun w hS=>ag (hS.sl (i:=2) O) bq bp O O J)<|AD<|qe u9 (i:=2) O J O O O O rfl<|fun w74 CG=>aa<|have qF:=CG;have aw9:=Ye;?_
   rw[age]at qF aw9
   rw[agf (sg:=sg) (a:=a)]at qF
   refine⟨(((p,sg++a::sp)::F1),uS,LY,(uW NC (((p,sp)::F1).length)),D4,Av,Jp.set p (min (nr Jp p) (nr Jp a)),Ih,MP,Ii),?_,(((Es.u4.u4.u4.u4.u4.u1.u1.u1).t o9 O)).u4.u4.u4.u4.u4.u4.u4.u4.u4.u4.u4.u4.u4.u4.u4.u4.u4.u4.u4.u4.u1,(Hp.conv qF aM),?_,?_,?_⟩
   ·(simp only[eE,FY];omega)
   .exact hS.Tu hnd n8
   .exact aw9
   exact hdn
  refine ak<|have e0:F0=[]:=Et J;?_
  subst e0
  refine⟨([],uS,LY,(uW NC (([]:RN).length)),D4,Av,Jp,Ih,MP,Ii),?_,(((Es.u4.u4.u4.u4.u4.u1.u1.u1).t o9 O)).u4.u4.u4.u4.u4.u4.u4.u4.u4.u4.u4.u4.u1.u1,(Hp.conv kD (by exact absurd hS.root n8)),?_,?_,?_⟩
  ·(simp only[eE,FY];omega)
  .exact absurd hS.root n8
  .exact absurd hS.root n8
  exact hdn
 refine aY (id:=0) rfl<|have e0:F=[]:=(by cases F with|nil=>rfl|cons x F0=>(exfalso;simp only[nh,eE]at*;omega));?_
 subst e0
 exact p5 O ⟨rfl,LY,NC,D4,UD,Av,Yd,Ih,MP,Ii,hS,Ye,hdn,eR⟩
theorem acu(v:Value)(gr:List jx)(hgn:gr.length<=100000)(w:World)(hg0:GrV (Kw w) v gr):Calls Tryz.prog 124 #[v] w (rM 3 1 gr.length ((oe (o5 gr)).map I) w):=by
 have hg:=hg0.1
 have hgl:=fQ (g:=gr)
 refine eH func124 rfl rfl fun hH=>SR<|va (v:= .slice none 0 0) rfl<|aa<|SR<| ?_
 refine V (run_move bC) ?_
 refine V (aD (hg.mono hH.kw).sl O ov O)<|aI rfl<|aa<|ah<|eu aN hH<|fun w1 a7=>have j8:=a7;?_
 refine AQ 0 O j8 (run_move bC) ?_
 refine AQ 1 O j8 (mV (I _) O)<|AQ 3 O j8 (mV (I _) O)<|AQ 5 O j8 (mV (I _) O)<|AQ 7 O j8 (mV (I _) O)<|auK [10,12,14,16] [2,4,6,8] [⟨2,10,_,_,_,_,fun b=> .slice (some ⟨b,0,none⟩) (gr.length) (gr.length),.cells ((List.replicate (gr.length) ((0:Int))).map I).toArray 3 (0,0)⟩,⟨4,12,_,_,_,_,fun b=> .slice (some ⟨b,0,none⟩) (gr.length) (gr.length),.cells ((List.replicate (gr.length) ((0:Int))).map I).toArray 3 (0,0)⟩,⟨6,14,_,_,_,_,fun b=> .slice (some ⟨b,0,none⟩) (gr.length) (gr.length),.cells ((List.replicate (gr.length) (false)).map B).toArray 4 (0,0)⟩,⟨8,16,_,_,_,_,fun b=> .slice (some ⟨b,0,none⟩) (gr.length) (gr.length),.cells ((List.replicate (gr.length) ((0:Int))).map I).toArray 3 (0,0)⟩] O O ⟨⟨rfl,rfl⟩,⟨rfl,rfl⟩,⟨rfl,rfl⟩,⟨rfl,rfl⟩,trivial⟩ ⟨fun σ' w h=>yP bq O O O O ((h 9 O).trans (show _=Value.int .i64 ((gr.length:Nat):Int)from O)) ((h 9 O).trans (show _=Value.int .i64 ((gr.length:Nat):Int)from O)) ay J,fun σ' w h=>yP bq O O O O ((h 11 O).trans (show _=Value.int .i64 ((gr.length:Nat):Int)from O)) ((h 11 O).trans (show _=Value.int .i64 ((gr.length:Nat):Int)from O)) ay J,fun σ' w h=>yP pW O O O O ((h 13 O).trans (show _=Value.int .i64 ((gr.length:Nat):Int)from O)) ((h 13 O).trans (show _=Value.int .i64 ((gr.length:Nat):Int)from O)) ay J,fun σ' w h=>yP bq O O O O ((h 15 O).trans (show _=Value.int .i64 ((gr.length:Nat):Int)from O)) ((h 15 O).trans (show _=Value.int .i64 ((gr.length:Nat):Int)from O)) ay J,trivial⟩ ay ay aN a7 sR<|fun Pc w4 bP=> ?_
 simp only[kV,AL,fH,dZ,Tr]at bP
 have jg:=bP.Iu (i:=0) (n:=gr.length) (l:=List.replicate (gr.length) ((0:Int))) (f:=I) O aA J
 have eR:=jg.Iu (i:=1) (n:=gr.length) (l:=List.replicate (gr.length) ((0:Int))) (f:=I) O aA J
 have eX:=eR.Iu (i:=2) (n:=gr.length) (l:=List.replicate (gr.length) (false)) (f:=B) O aA J
 have iv:=eX.Iu (i:=3) (n:=gr.length) (l:=List.replicate (gr.length) ((0:Int))) (f:=I) O aA J
 refine A1 9<|bW O aH O iv (sQ (sQ (sQ (sQ sR)))) (dD (vs:=[(0,v),(1,(.slice (some ⟨Pc 10,0,none⟩) (gr.length) (gr.length))),(2,(.slice (some ⟨Pc 12,0,none⟩) (gr.length) (gr.length))),(3,(.slice (some ⟨Pc 14,0,none⟩) (gr.length) (gr.length))),(7,(.slice (some ⟨Pc 16,0,none⟩) (gr.length) (gr.length)))]) O (acr (Qo hg).2 (a6 (iv.get (i:=0) O)).1 (a6 (iv.get (i:=1) O)).1 (a6 (iv.get (i:=2) O)).1 (a6 (iv.get (i:=3) O)).1))<|A1 10<|cN O aH O iv (sQ (sQ (sQ (sQ sR)))) (f:=fun b=> .pointer (some ⟨b,0,none⟩)) (IT (v:= .agg _) O)<|fun b14 Cx bY=>AQ 11 O (bY.sub (sQ (sQ (sQ (sQ (sQ sR)))))) (aV (Pn _ _) O)<|have iu:=bY.fl 3 1;have cF:=iu.fl 233 2;have er:Hp w Cx (.blk b14 (.cells #[v,(.slice (some ⟨Pc 10,0,none⟩) (gr.length) (gr.length)),(.slice (some ⟨Pc 12,0,none⟩) (gr.length) (gr.length)),(.slice (some ⟨Pc 14,0,none⟩) (gr.length) (gr.length)),(.slice none 0 0),(.slice none 0 0),I (0),(.slice (some ⟨Pc 16,0,none⟩) (gr.length) (gr.length))] 222 (0,0))::jf I (.slice (some ⟨Pc 10,0,none⟩) (gr.length) (gr.length)) 3 (List.replicate gr.length (0:Int))::jf I (.slice (some ⟨Pc 12,0,none⟩) (gr.length) (gr.length)) 3 (List.replicate gr.length (0:Int))::jf B (.slice (some ⟨Pc 14,0,none⟩) (gr.length) (gr.length)) 4 (List.replicate gr.length false)::cE none (.slice none 0 0) 3 ((([]:List Int)).map I)::uD E4 2 (.slice none 0 0) 233 (([]:List CB))::jf I (.slice (some ⟨Pc 16,0,none⟩) (gr.length) (gr.length)) 3 (List.replicate gr.length (0:Int))::[]):=cF.pj [2,2,2,2,1];AD<|ah<|SR<|mI rfl<|aG (v:=I 0) rfl<|aa<|aC<|bj (G:=Int×(Nat->Nat)×Value×Value×(Option (Nat×Array Value))×(List Int)×(List Int)×(List Bool)×Int×(List Int)) (fun⟨k,UD,LY,NC,D4,Av,Yd,Ih,MP,Ii⟩ s' w'=>(Fr (5::(rg 20 15 [])) _ s')/\(Hp w w' (.blk b14 (.cells #[v,(.slice (some ⟨Pc 10,0,none⟩) (gr.length) (gr.length)),(.slice (some ⟨Pc 12,0,none⟩) (gr.length) (gr.length)),(.slice (some ⟨Pc 14,0,none⟩) (gr.length) (gr.length)),LY,NC,I (MP),(.slice (some ⟨Pc 16,0,none⟩) (gr.length) (gr.length))] 222 (0,0))::jf I (.slice (some ⟨Pc 10,0,none⟩) (gr.length) (gr.length)) 3 (Av)::jf I (.slice (some ⟨Pc 12,0,none⟩) (gr.length) (gr.length)) 3 (Yd)::jf B (.slice (some ⟨Pc 14,0,none⟩) (gr.length) (gr.length)) 4 (Ih)::cE D4 LY 3 ((([]:List Int)).map I)::uD E4 2 NC 233 (([]:List CB))::jf I (.slice (some ⟨Pc 16,0,none⟩) (gr.length) (gr.length)) 3 (Ii)::_))/\(s' 20=I k)/\(0<=k)/\(k<=gr.length)/\(qx (o5 gr) Av Yd Ih MP Ii [] UD)/\(cO D4 LY (([]:List Int).map I))/\(∀q:Nat,q<k.toNat->nr Av q≠0)) (fun⟨k,UD,LY,NC,D4,Av,Yd,Ih,MP,Ii⟩=>(gr.length-k).toNat) ((0,fun _=>0,.slice none 0 0,.slice none 0 0,none,List.replicate gr.length 0,List.replicate gr.length 0,List.replicate gr.length false,0,List.replicate gr.length 0)) ⟨Fr.refl _ _,er,rfl,J,J,qx.start hgl,trivial,fun q hq=>absurd hq J⟩<| ?_
 rintro⟨k,UD,LY,NC,D4,Av,Yd,Ih,MP,Ii⟩ aqG Uc ⟨wL,dH,Rs,k0,k1,hS,Ye,hdn⟩
 obtain⟨L9,arM⟩:=wL.w2 4 19
 have q0:=hS.RO
 rw[fQ]at q0
 refine SR<|V (aL Rs arM)<|aa<|ah<|aF O (fun Jm=> ?_) (fun Jm=> ?_)
 .refine ak<|ah<|aC<|SR<|aG Rs<|aI rfl<|aa<|SR<|aG L9<|V (af O)<|V (fA eZ 1 O df O)<|lV bq dH 0 O O rfl<|mI rfl<|V (ag (dH.sl (i:=1) O) bq bp O O J)<|V (az bt O O ((dH.sl (i:=1) O).cell _ _ (ew J)))<|V (bO O O)<|aa<|aF O (fun h22=> ?_) (fun h22=> ?_)
  .refine au<|aG L9<|mI rfl<|have h0k:nr Av k.toNat=0:=‹Av.getD k.toNat 0=0›;ct O (Hx _ _ _ _ _ _ _ _ _ _ _ _ _ _ _ _ _ _ _ _ hgn hS J h0k _ (Le.refl _) hg0 Ye dH) (aK call155 O O)<| ?_
   rintro _ w25 ⟨rfl,vs2,vf2,cs2,uS,od2,Jp,on2,tm2,of2,hS2,Cp,hd2,j6⟩
   refine aa<|au<|V (ax Rs O J)<|mI rfl<|aa<| ?_
   refine⟨(k+1,uS,vs2,vf2,cs2,od2,Jp,on2,tm2,of2),aW,wL.u4.u4.u4.u4,(Hp.conv j6 aM),(aJ I aM),J,J,?_,?_,?_⟩
   .exact hS2
   .exact Cp
   exact ap5 k0 (fun q hq=>hd2.2 q (hdn q hq)) hd2.1
  refine ak<|au<|V (ax Rs O J)<|mI rfl<|aa<| ?_
  refine⟨(k+1,UD,LY,NC,D4,Av,Yd,Ih,MP,Ii),aW,wL.u4.u4.u4.u1,(Hp.conv dH aM),(aJ I aM),J,J,?_,?_,?_⟩
  .exact hS
  .exact Ye
  exact ap5 k0 hdn ‹¬Av.getD k.toNat 0=0›
 refine aY (id:=0) rfl<|SR<|aG L9<|V (af O)<|V (fA eZ 7 O df O)<|lV bq dH 0 O O rfl<| ?_
 refine V (run_assign bC) ?_
 refine aa<|aj<|Nc O O dH (i:=6) O ((by have:=hS.lof;rw[fQ]at this;exact this)) ((by rw[hS.done fun q hq=>hdn q (by rw[fQ]at hq;omega)]))
theorem gV(fd:FuncId)(fc:Array Value)(c:lK)(hlg:lg.length<=600000000000)(w:World)(hH:Hp W0 w (nE n wr vL vt vv vy vu vq sn vW vU vT cn sk wy vd vm cW cU W ul ts an aS ai aX us qs lg tm L)):Calls Tryz.prog 44 #[pt n,iW fd fc] w (jF fun u w'=>u= .tuple #[]/\∃vd':Value,Hp W0 w' (nE n wr vL vt vv vy vu vq sn vW vU vT cn sk wy (vd') vm cW cU W ul ts an aS ai aX us qs (lg++[(iW fd fc,c)]) tm L)):=by
 simp only[nE]at hH
 refine en func44 rfl rfl<|au<|aG (v:=Pn _ _) rfl<|aG (v:=Pn _ _) rfl<|V (af O)<|V (fA bU 14 O jH O)<|lV gz hH 0 O O rfl<|aG (v:= .func _ _ _) rfl<|vP 1 1 hH (bZ gz rfl rfl (sz:=1) (vs:=[.func _ _ _]) rfl rfl ay ay rfl rfl)<|fun b3 w1 a7=> ?_
 (try simp only[ot]at a7)
 refine ap1 (a:=(iW fd fc,c)) O a7 (i:=11) O (a7.dQ (i:=0) (n:=1) (sz:=1) O O ay) O O gz O O (bytes:=8) O O O O J ay<|fun v4 w5 jg=>V (af O)<|V (fA bU 14 O jH O)<|bk jg (i:=1) O (bM O O (v:=v4) O (a6 (jg.get (i:=11) O)).1 (a6 (jg.get (i:=11) O)).2 (jg.blk (i:=1) O) aA)<|fun w7 eX=> ?_
 simp only[ij,kf,mA,gA,Nat.reduceAdd]at eX
 refine aa<|p5 O ⟨rfl,v4,(eX.sub (sQ sR))⟩
theorem oQ(htm:tm.length<=100000000)(w:World)(hH:Hp W0 w (nE n wr vL vt vv vy vu vq sn vW vU vT cn sk wy vd vm cW cU W ul ts an aS ai aX us qs lg tm L)):Calls Tryz.prog 41 #[pt n] w (jF fun u w'=>u= .tuple #[]/\∃vm':Value,Hp W0 w' (nE n wr vL vt vv vy vu vq sn vW vU vT cn sk wy vd (vm') cW cU W ul ts an aS ai aX us qs lg (tm++[(lg.length:Int)]) L)):=by
 simp only[nE]at hH
 refine en func41 rfl rfl<|fC (z:=⟨none,_,_,_,_,none⟩) aN O aN hH (sP (sP (sP (sP (sP (sP (sP (sP (sP (sP (sP (sQ sR))))))))))))<|fun w1 a7=>have j8:=a7.sub (sP (sP (sP (sP (sP (sP (sP (sP (sP (sP (sP (sQ sR))))))))))));AQ 0 O j8 (mV (Pn _ _) O)<|AQ 1 O j8 (mV (Pn _ _) O)<|AQ 2 O j8 (af O)<|AQ 3 O j8 (fA bU 15 O df O)<|tV 4 O j8 bq 0 O O rfl<|AQ 5 O j8 (mV (Pn _ _) O)<|AQ 6 O j8 (af O)<|AQ 7 O j8 (fA bU 14 O jH O)<|tV 8 O j8 gz 0 O O rfl<|AT 9 O j8 (fun w hS=>aD (hS.sl (i:=10) O) O gz O)<|A1 10<|cN O aH O a7 (sP (sP (sP (sP (sP (sP (sP (sP (sP (sP (sP (sQ sR)))))))))))) (f:=fun b=> .slice (some ⟨b,0,none⟩) 1 1) (bZ bq O O (sz:=1) (vs:=[I _]) O O ay ay O O)<|fun b5 w3 gL=> ?_
 (try simp only[ot]at gL)
 refine A1 11<|QH O aH O gL (i:=12) O (fun _=>(sQ (sP (sP (sP (sP (sP (sP (sP (sP (sP (sP (sP (sQ sR)))))))))))))) (gL.dQ (i:=0) (n:=1) (sz:=1) O O ay) O O bq O O (bytes:=8) O O O O J ay<|fun v8 w9 bS=>AQ 12 O (bS.sub (sQ (sP (sP (sP (sP (sP (sP (sP (sP (sP (sP (sP (sQ sR)))))))))))))) (af O)<|AQ 13 O (bS.sub (sQ (sP (sP (sP (sP (sP (sP (sP (sP (sP (sP (sP (sQ sR)))))))))))))) (fA bU 15 O df O)<|AD<|bk bS (i:=1) O (bM O O (v:=v8) O (a6 (bS.get (i:=12) O)).1 (a6 (bS.get (i:=12) O)).2 (bS.blk (i:=1) O) aA)<|fun H9 cQ=> ?_
 simp only[ij,kf,mA,gA,Nat.reduceAdd]at cQ
 refine aa<|p5 O ⟨rfl,v8,(cQ.sub (sQ sR))⟩
theorem nQ(w:World)(hb:w.heap[n]?=some (.cells #[wr,vL,vt,vv,vy,vu,vq,I sn,vW,vU,vT,I cn,B sk,U wy,vd,vm] 111 (0,0))):Calls Tryz.prog 40 #[pt n] w (Pure (B (!sk)) w):=by
 refine eH func40 rfl rfl fun hH=>SR<|va (v:=B false) rfl<|aa<|SR<|aG (v:=Pn _ _) rfl<|V (abA cS O O)<|mB rfl<|cD O rfl<|aG (v:=Pn _ _) rfl<|V (af O)<|V (fA bU 12 O mN O)<|V (az sI O O (hH.dY hb (v:=B _) O))<|V (bK O)<|mB rfl<|aB rfl<|aa<|aj<|oB O ?_ hH
 rfl
theorem Dm(v x:Int)(w:World)(hb:w.heap[n]?=some (.cells #[wr,vL,vt,vv,vy,vu,vq,I sn,vW,vU,vT,I cn,B sk,U wy,vd,vm] 111 (0,0)))(ht:Sl w vt 1 aS.length (aS.map I)):Calls Tryz.prog 104 #[pt n,I v,I x] w (Pure (B (decide (0<=v/\v<aS.length/\aS.getD v.toNat 0=x))) w):=by
 refine eH func104 rfl rfl fun hH=>SR<|va (v:=B false) rfl<|aa<|SR<|mI rfl<|V (di O O)<|mB rfl<|bI 9 O (fun h2=> ?_) (fun h2=> ?_)
 .refine mI rfl<|aG (v:=Pn _ _) rfl<|V (af O)<|V (fA bU 2 O df O)<|V (az bq O O (hH.dY hb O))<|V (aD (ht.hp hH) O bq O)<|V (aL O O)<|mB rfl<|mB rfl<|bI 18 O (fun h4=> ?_) (fun h4=> ?_)
  .refine aG (v:=Pn _ _) rfl<|V (af O)<|V (fA bU 2 O df O)<|V (az bq O O (hH.dY hb O))<|mI rfl<|V (ag (ht.hp hH) bq bp O O J)<|V (az bt O O ((ht.hp hH).cell _ _ (ew J)))<|mI rfl<|V (bO O O)<|mB rfl<|aB rfl<|aa<|aj<|oB O ?_ hH
   exact PC.2 ⟨fun h=>⟨J,J,h⟩,fun h=>h.2.2⟩
  refine aG (v:=B false) rfl<|aB rfl<|aa<|aj<|oB O ?_ hH
  (rw[gm J];done)
 refine aG (v:=B false) rfl<|mB rfl<|cD O rfl<|aG (v:=B false) rfl<|aB rfl<|aa<|aj<|oB O ?_ hH
 (rw[gm J];done)
theorem mF(q:de)(w:World)(hq:CC (Kw w) q):Calls Tryz.prog 131 #[.agg (o7 q).toArray] w (Pure (B (DH q)) w):=by
 refine eH func131 rfl rfl fun hH=>SR<|gX hH (v:= .agg _) rfl<|fun b3 w1 a7=>va (v:=B false) rfl<|aa<|SR<|V (fA iE 1 O AS O)<|V (cB (hq.code.sl.hp a7) ir O O (a7.cell (i:=0) O O))<|V (aD (hq.code.sl.hp a7) O ir O)<|V (bO O O)<|mB rfl<|bI 7 O (fun h5=> ?_) (fun h5=> ?_)
 .refine V (fA iE 1 O AS O)<|V (cB (hq.code.sl.hp a7) ir O O (a7.cell (i:=0) O O))<|V (ag (hq.code.sl.hp a7) ir oW O O J)<|V (fA eG 0 O bp O)<|V (gf (dv:=cg) (off:=0) gE (hq.code.sl.hp a7) bt O O J O)<|V (bO O O)<|mB rfl<|mB rfl<|bI 15 O (fun h7=> ?_) (fun h7=> ?_)
  .refine V (fA iE 2 O oX O)<|V (fA mL 0 O bp O)<|lI bt a7 0 O O rfl<|V (di O O)<|mB rfl<|aB rfl<|aa<|aj<|oB O ?_ a7
   (unfold DH;((rw[gq (show q.code.length=1 by omega),gq (show(q.code.getD 0 cg).op=1 from aQ)];rfl)))
  refine aG (v:=B false) rfl<|aB rfl<|aa<|aj<|oB O ?_ a7
  (unfold DH;((rw[gq (show q.code.length=1 by omega),gm (show¬(q.code.getD 0 cg).op=1 from aQ)];rfl)))
 refine aG (v:=B false) rfl<|mB rfl<|cD O rfl<|aG (v:=B false) rfl<|aB rfl<|aa<|aj<|oB O ?_ a7
 (unfold DH;((rw[gm (show¬q.code.length=1 by omega)];rfl)))
theorem vY(q:de)(hv:∀v∈q.vars,0<=v/\v<aX.length)(w:World)(hb:w.heap[n]?=some (.cells #[wr,vL,vt,vv,vy,vu,vq,I sn,vW,vU,vT,I cn,B sk,U wy,vd,vm] 111 (0,0)))(hy:Sl w vy 1 aX.length (aX.map U))(xR:CC (Kw w) q):Calls Tryz.prog 132 #[pt n,.agg (o7 q).toArray] w (Pure (U (orW q.why aX q.vars)) w):=by
 have hvs:=xR.vars.small
 unfold maxLen at hvs
 refine eH func132 rfl rfl fun hH=>SR<|gX hH (v:= .agg _) rfl<|fun b3 w1 a7=>va (v:=U 0#64) rfl<|aa<|SR<|V (fA iE 11 O cX O)<|V (az dU O O (a7.cell (i:=0) O (v:=U _) O))<|aU rfl<|aa<|ah<|SR<|V (fA iE 12 O df O)<|V (cB (xR.vars.sl.hp a7) bq O O (a7.cell (i:=0) O O))<|V (aD (xR.vars.sl.hp a7) O bq O)<|aG (v:=I 0) rfl<|aa<|aC<|bj (G:=Int) (fun k s' w'=>(Fr (5::(7::(rg 13 14 []))) _ s')/\(Hp w w' _)/\(s' 5=U (orW q.why aX (q.vars.take k.toNat)))/\(s' 13=I k)/\(0<=k)/\(k<=q.vars.length)) (fun k=>(q.vars.length-k).toNat) (0) ⟨Fr.refl _ _,a7,rfl,rfl,J,J⟩<| ?_
 rintro k sg4 w4 ⟨BE,gL,Fj,ail,h0,hk⟩
 obtain⟨ab5,axa,axb⟩:=BE.w3 0 11 12
 refine SR<|V (aL ail axb)<|aa<|ah<|aF O (fun h6=> ?_) (fun h6=> ?_)
 .refine ak<|ah<|aC<|SR<|have hvk:=hv _ (dG (d:=0) h0 ‹k<_›);V (ag (xR.vars.sl.hp gL) bq bp axa ail J)<|V (az bt O O ((xR.vars.sl.hp gL).cell _ _ (ew J)))<|aI rfl<|aa<|au<|aG Fj<|aG ab5<|V (af O)<|V (fA bU 4 O iO O)<|V (az cR O O (gL.dY hb O))<|mI rfl<|V (ag (hy.hp gL) cR cX O O J)<|V (az dU O O ((hy.hp gL).cell _ _ (kR (dv:=0#64) J)))<|V (jj O O)<|aU rfl<|aa<|au<|V (ax ail O J)<|mI rfl<|aa<| ?_
  refine⟨k+1,aW,BE.u4.u4.u4.u4,gL,(aJ U (ago h0 ‹k<_›).symm),(aJ I aM),J,J⟩
 refine aY (id:=0) rfl<|SR<|aG Fj<|aU rfl<|aa<|aj<|oU O ?_ gL
 rw[iD J]
theorem Hz(UZ:0<=sn/\sn<=qs.length)(w:World)(hb:w.heap[n]?=some (.cells #[wr,vL,vt,vv,vy,vu,vq,I sn,vW,vU,vT,I cn,B sk,U wy,vd,vm] 111 (0,0)))(hq:Sl w vq 13 qs.length (qs.flatMap o7))(HA:Xg (Kw w) qs):Calls Tryz.prog 122 #[pt n] w (Pure (B ((qs.drop sn.toNat).any DH)) w):=by
 have hqD:Xg (Kw w) (qs.drop sn.toNat):=fun q hq=>HA q (xa hq)
 have hml:=hq.small
 unfold maxLen at hml
 have hdl:(qs.drop sn.toNat).length<=qs.length:=aA
 refine eH func122 rfl rfl fun hH=>SR<|va (v:=B false) rfl<|aa<|ah<|ah<|eu aN hH<|fun w1 a7=>have j8:=a7;AQ 0 O j8 (mV (Pn _ _) O)<|AQ 1 O j8 (af O)<|AQ 2 O j8 (fA bU 6 O wv O)<|AT 3 O j8 (fun w hS=>az mK O O (hS.dY hb O))<|AQ 4 O j8 (mV (Pn _ _) O)<|AQ 5 O j8 (af O)<|AQ 6 O j8 (fA bU 7 O bp O)<|AT 7 O j8 (fun w hS=>az bt O O (hS.dY hb (v:=I _) O))<|AQ 10 O j8 (mV (I 0) O)<|A1 8<|bW O aH O a7 sR (fT (hq.hp a7) mK JW O O J)<|AT 9 O j8 (fun w hS=>aD ((Sl.frE oE hq sn.toNat J).hp hS) O mK O)<|AD<|aC<|bj (G:=Int) (fun k s' w'=>(Fr (2::(4::(rg 15 7 []))) _ s')/\(Hp w w' _)/\(s' 15=I k)/\(0<=k)/\(k<=(qs.drop sn.toNat).length)/\(∀j:Nat,j<k.toNat->DH ((qs.drop sn.toNat).getD j cI)=false)) (fun k=>((qs.drop sn.toNat).length-k).toNat) (0) ⟨Fr.refl _ _,a7,rfl,J,J,fun j h=>absurd h J⟩<| ?_
 rintro k sg5 w5 ⟨fr5,bP,aim,h0,hk,hno⟩
 obtain⟨axc,axd⟩:=fr5.w2 13 14
 refine SR<|V (aL aim axd)<|aa<|ah<|aF O (fun h7=> ?_) (fun h7=> ?_)
 .refine ak<|ah<|aC<|SR<|V (ag ((Sl.frE oE hq sn.toNat J).hp bP) mK JW axc aim J)<|V (fg (dv:=cI) oE ((Sl.frE oE hq sn.toNat J).hp bP) iE O O O J)<|ou bP (aZ Tryz.zeroValue128)<|fun b10 w8 iv=>bk iv (i:=0) O (dX (c':=(o7 _).toArray) O O O (sw (hqD.at J J)) (iv.blk (i:=0) O) O)<|fun C8 cw=>aa<|SR<|V (cG (cs:=o7 _) iE O O O (bf (cw.blk (i:=0) O)))<|aE O cw (mF _ _ ((hqD.at J J).mono cw.kw)) (aq call131 O)<|fun XD cF=>aa<|bQ O (fun pL=> ?_) (fun pL=> ?_)
  .refine SR<|va (v:=B true) rfl<|aa<|aj<|oB O ?_ cF
   exact(agm (d:=cI) h0 ‹k<_› ‹_=true›).symm
  refine ak<|au<|V (ax aim O J)<|mI rfl<|aa<| ?_
  refine⟨k+1,aW,fr5.u4.u4,(cF.sub (sQ sR)),(aJ I aM),J,J,?_⟩
  exact ap5 h0 hno jM
 refine aY (id:=0) rfl<|SR<|va (v:=B false) rfl<|aa<|aj<|oB O ?_ bP
 exact(akS (d:=cI) fun j hj=>hno j J).symm
theorem HB(K:Vu)(ON:ai.length<=1000)(hqn:qs.length<=1000)(hpl:TA ai.length qs)(w:World)(hb:w.heap[n]?=some (.cells #[wr,vL,vt,vv,vy,vu,vq,I sn,vW,vU,vT,I cn,B sk,U wy,vd,vm] 111 (0,0)))(hv:Sl w vv 8 ai.length (ai.flatMap sC))(hq:Sl w vq 13 qs.length (qs.flatMap o7))(HA:Xg (Kw w) qs):Calls Tryz.prog 125 #[pt n] w (KP K (fun K' u=>∃gr,o5 gr=bX ai.length qs/\GrV K' u gr) w):=by
 refine eH func125 rfl rfl fun hH=>SR<|va (v:= .slice none 0 0) rfl<|aa<|SR<|aG (v:=Pn _ _) rfl<|V (af O)<|V (fA bU 3 O mq O)<|V (az dL O O (hH.dY hb O))<|V (aD (hv.hp hH) O dL O)<|vP ai.length ai.length hH (yP (f:=jx.v) (z0:=cP) ov O O O O (show _=Value.int .i64 ((ai.length:Nat):Int)from O) (show _=Value.int .i64 ((ai.length:Nat):Int)from O) ay J)<|fun b3 w1 a7=>have gL:=a7.Iu (i:=0) (n:=ai.length) (l:=List.replicate ai.length cP) (f:=jx.v) O aA J;?_
 simp only[ij]at gL
 obtain⟨Rz,hRz⟩:∃R:List a8,R=[]:=⟨_,rfl⟩
 have bP:Hp _ _ (_::((List.replicate ai.length cP).map (dB 3)++Rz)):=Hp.nU (A:=[_]) (R:=Rz) (by rw[hRz];simpa using gL.apv 3 ai.length)
 refine V (run_assign bC) ?_
 refine aa<|ah<|SR<|aG (v:=Pn _ _) rfl<|V (af O)<|V (fA bU 6 O wv O)<|V (az mK O O (bP.dY hb O))<|V (aD (hq.hp bP) O mK O)<|aG (v:=I 0) rfl<|aa<|aC<|bj (G:=Int×(List jx)×(List a8)) (fun⟨k,gs,Z1⟩ s' w'=>(Fr (5::(rg 17 25 [])) _ s')/\(Hp w w' (jf jx.v (.slice (some ⟨b3,0,none⟩) ai.length ai.length) 99 gs::Z1))/\(s' 17=I k)/\(0<=k)/\(k<=qs.length)/\(Z1=gs.map (dB 3)++Rz)/\(o5 gs=bX ai.length (qs.take k.toNat))/\(∀x∈gs,x.l.length<=k.toNat)) (fun⟨k,gs,Z1⟩=>(qs.length-k).toNat) ((0,List.replicate ai.length cP,(((List.replicate ai.length cP).map (dB 3))++Rz))) ⟨Fr.refl _ _,bP,rfl,J,J,rfl,(by simp[o5,bX,cP]),(fun x hx=>by rw[(List.mem_replicate.1 hx).2];simp[cP])⟩<| ?_
 rintro⟨k,gs,Z1⟩ sg6 w6 ⟨OW,jg,aad,h0,hk,hz,hgs,hgb⟩
 obtain⟨XU,axe,axf⟩:=OW.w3 3 15 16
 subst hz
 have hgn:gs.length=ai.length:=by have:=aJ List.length hgs;rwa[fQ,D8]at this
 refine SR<|V (aL aad axf)<|aa<|ah<|aF O (fun h8=> ?_) (fun h8=> ?_)
 .refine ak<|ah<|aC<|SR<|V (ag (hq.hp jg) mK JW axe aad J)<|V (fg (dv:=cI) oE (hq.hp jg) iE O O O J)<|ou jg (aZ Tryz.zeroValue128)<|fun b11 w9 bS=>bk bS (i:=0) O (dX (c':=(o7 _).toArray) O O O (sw (HA.at J J)) (bS.blk (i:=0) O) O)<|fun Na iu=>aa<|SR<|V (cG (cs:=o7 _) iE O O O (bf (iu.blk (i:=0) O)))<|aE O iu (mF _ _ ((HA.at J J).mono iu.kw)) (aq call131 O)<|fun Ml er=>aa<|bQ O (fun Mf=> ?_) (fun Mf=> ?_)
  .have U3:=hpl.at h0 ‹k<_› ‹DH _=true›
   have aL5:=hgb _ (dG (d:=cP) (l:=gs) (k:=(wY (qs.getD k.toNat cI))) J J)
   refine fC (z:=⟨none,_,_,_,_,none⟩) aN O aN er (sP (sP (sA sR)))<|fun w20 fD=>have m9:=fD.sub (sP (sP (sA sR)));AQ 0 O m9 (run_move XU)<|AQ 1 O m9 (fA iE 12 O df O)<|AT 2 O m9 (fun w hS=>cB ((HA.at J J).vars.sl.hp hS) bq O O (hS.cell (i:=0) O O))<|AT 3 O m9 (fun w hS=>ag ((HA.at J J).vars.sl.hp hS) bq bp O O J)<|AT 4 O m9 (fun w hS=>az bt O O (((HA.at J J).vars.sl.hp hS).cell _ _ (ew J)))<|AQ 5 O m9 (run_move XU)<|AQ 6 O m9 (fA iE 12 O df O)<|AT 7 O m9 (fun w hS=>cB ((HA.at J J).vars.sl.hp hS) bq O O (hS.cell (i:=0) O O))<|AT 8 O m9 (fun w hS=>ag ((HA.at J J).vars.sl.hp hS) bq bp O O J)<|AT 9 O m9 (fun w hS=>az bt O O (((HA.at J J).vars.sl.hp hS).cell _ _ (ew J)))<|AT 10 O m9 (fun w hS=>ag (hS.sl (i:=1) O) ov df O (show _=I (wY (qs.getD k.toNat cI))from O) J)<|AT 11 O m9 (fun w hS=>az bq O O ((hS.sl (i:=1) O).cell _ _ (kR (dv:=cP) J)))<|AQ 12 O m9 (fA iE 2 O oX O)<|AQ 13 O m9 (fA mL 0 O bp O)<|tI 14 O m9 bt 0 O O rfl<|A1 15<|cN O aH O fD (sP (sP (sA sR))) (f:=fun b=> .slice (some ⟨b,0,none⟩) 1 1) (bZ bq O O (sz:=1) (vs:=[I _]) O O ay ay O O)<|fun b24 Ug eU=> ?_
   (try simp only[ot]at eU)
   refine A1 16<|af4 (A:=[_,_,_]) (gs:=gs) (q:=(wY (qs.getD k.toNat cI))) (a:=(qs.getD k.toNat cI).to.var) (R:=Rz) O aH O eU (fun _=>(sQ (sP (sP (sA (sA sR)))))) J (eU.dQ (i:=0) (n:=1) (sz:=1) O O ay) O O bq O O (bytes:=8) O O O J ay<|fun v27 w28 gj=> ?_
   simp only[fH,dZ]at gj
   refine AT 17 O (gj.sub (sQ (sP (sP (sA sR))))) (fun w hS=>ag (hS.sl (i:=1) O) ov df O (show _=I (wY (qs.getD k.toNat cI))from O) J)<|AD<|have arN:=Hp.auI (A:=[_,_,_]) (gs:=gs) (q:=(wY (qs.getD k.toNat cI))) (R:=Rz) gj J;qe (f:=jx.v) (a:=⟨v27,(gs.getD ((wY (qs.getD k.toNat cI))).toNat cP).l++[(qs.getD k.toNat cI).to.var]⟩) gj (i:=2) O J O O arN.1 arN.2 rfl<|fun w30 lQ=>aa<|au<|V (ax aad O J)<|mI rfl<|aa<| ?_
   refine⟨(k+1,(gs.set ((wY (qs.getD k.toNat cI))).toNat ⟨v27,(gs.getD ((wY (qs.getD k.toNat cI))).toNat cP).l++[(qs.getD k.toNat cI).to.var]⟩),(((gs.set ((wY (qs.getD k.toNat cI))).toNat ⟨v27,(gs.getD ((wY (qs.getD k.toNat cI))).toNat cP).l++[(qs.getD k.toNat cI).to.var]⟩).map (dB 3))++Rz)),aW,OW.u4.u4.u4.u4.u4.u4.u1.u1,(Hp.conv (lQ.sub (sQ (sQ sR))) aM),(aJ I aM),J,J,aM,?_,?_⟩
   ·(rw[LF h0 ‹k<_›,grQ,aR ‹DH _=true›,<-hgs,Zw,D5])
   (rw[show(k+1).toNat=k.toNat+1 by omega];exact agp hgb (by simp only[cV,gI];have:=hgb _ (dG (d:=cP) (l:=gs) (k:=(wY (qs.getD k.toNat cI))) J J);omega))
  refine ak<|au<|V (ax aad O J)<|mI rfl<|aa<| ?_
  refine⟨(k+1,gs,((gs.map (dB 3))++Rz)),aW,OW.u4.u4,(Hp.conv (er.sub (sQ sR)) aM),(aJ I aM),J,J,aM,?_,?_⟩
  ·(rw[LF h0 ‹k<_›,grQ,aP jM,<-hgs])
  exact fun x hx=>by have:=hgb x hx;omega
 refine aY (id:=0) rfl<|SR<|aG XU<| ?_
 refine V (run_assign bC) ?_
 refine aa<|aj<| ?_
 obtain⟨Z33,arO,aDI⟩:=Hp.aBJ (R:=Rz) K jg
 exact ja O O ⟨Z33,arO.sub (ac8 _ _),gs,(by rw[hgs,iD J]),aDI⟩
theorem Ek(hm:m<=100000)(ON:ai.length<=1000)(hqn:qs.length<=1000)(RQ:aX.length=ai.length)(n8:(bg cs).length=ai.length)(hpl:TA ai.length qs)(w:World)(hb:w.heap[n]?=some (.cells #[wr,vL,vt,vv,vy,vu,vq,I sn,vW,vU,vT,I cn,B sk,U wy,vd,vm] 111 (0,0)))(hv:Sl w vv 8 ai.length (ai.flatMap sC))(hy:Sl w vy 1 aX.length (aX.map U))(hq:Sl w vq 13 qs.length (qs.flatMap o7))(hW:Sl w vW 1 W.length (W.map U))(HA:Xg (Kw w) qs)(h:vK FX n m cs vW vU cW cU W ul ts cn L):Calls Tryz.prog 127 #[pt n] w (rM 35 1 ai.length ((Br (bg cs) aX ai.length qs).map U) w):=by
 have hfr:=h.find n8
 refine eH func127 rfl rfl fun hH=>SR<|va (v:= .slice none 0 0) rfl<|aa<|SR<|aG (v:=Pn _ _) rfl<|V (af O)<|V (fA bU 3 O mq O)<|V (az dL O O (hH.dY hb O))<|V (aD (hv.hp hH) O dL O)<|vP (ai.length) (ai.length) hH (yP (f:=U) (z0:=0#64) cR O O O O (show _=Value.int .i64 ((ai.length:Nat):Int)from O) (show _=Value.int .i64 ((ai.length:Nat):Int)from O) ay J)<|fun b3 w1 a7=>have gL:=a7.Iu (i:=0) (n:=ai.length) (l:=List.replicate (ai.length) 0#64) (f:=U) O aA J;?_
 simp only[ij]at gL
 refine V (run_assign bC) ?_
 refine aa<|ah<|SR<|aG (v:=Pn _ _) rfl<|V (af O)<|V (fA bU 3 O mq O)<|V (az dL O O (gL.dY hb O))<|V (aD (hv.hp gL) O dL O)<|aG (v:=I 0) rfl<|aa<|aC<|bj (G:=Int×(List (BitVec 64))) (fun⟨k,o⟩ s' w'=>(Fr (4::(rg 18 21 [])) _ s')/\(Hp w w' (jf U (.slice (some ⟨b3,0,none⟩) (ai.length) (ai.length)) 35 o::_))/\(s' 18=I k)/\(0<=k)/\(k<=ai.length)/\(o=((List.range k.toNat).foldl (LG (bg cs) aX) (List.replicate ai.length 0)))/\(o.length=ai.length)) (fun⟨k,o⟩=>(ai.length-k).toNat) ((0,List.replicate ai.length 0)) ⟨Fr.refl _ _,gL,rfl,J,J,aM,aA⟩<| ?_
 rintro⟨k,o⟩ sg5 w5 ⟨fr5,bP,ain,h0,hk,ho,hol⟩
 obtain⟨XC,aqS,axg,axh⟩:=fr5.w4 0 2 3 17
 have hf1:=hfr k
 refine SR<|V (aL ain axh)<|aa<|ah<|aF O (fun h7=> ?_) (fun h7=> ?_)
 .refine ak<|ah<|aC<|SR<|aG ain<|aI rfl<|aa<|fC (z:=⟨none,_,_,_,_,none⟩) aN O aN bP sR<|fun w8 iv=>have MK:=iv;AQ 0 O MK (run_move axg)<|AQ 1 O MK (run_move XC)<|AQ 2 O MK (af O)<|AQ 3 O MK (fA bU 8 O nY O)<|AQ 4 O MK (mV (I _) O)<|AQ 8 O MK (run_move XC)<|AQ 9 O MK (af O)<|AQ 10 O MK (fA bU 4 O iO O)<|AT 11 O MK (fun w hS=>az cR O O (hS.dY hb O))<|AQ 12 O MK (mV (I _) O)<|AT 13 O MK (fun w hS=>ag (hy.hp hS) cR cX O O J)<|AT 14 O MK (fun w hS=>az dU O O ((hy.hp hS).cell _ _ (kR (dv:=0#64) J)))<|A1 5<|cC O aH O iv sR (Eh _ h J (iv.ext hb) (hW.hp iv)) (aK DG O O)<|fun Hi dN=>have iY:=dN;AT 6 O iY (fun w hS=>ag (hS.sl (i:=0) O) cR cX O O J)<|AT 7 O iY (fun w hS=>az dU O O ((hS.sl (i:=0) O).cell _ _ (kR (dv:=0#64) J)))<|AQ 15 O iY (jj O O)<|AT 16 O iY (fun w hS=>ag (hS.sl (i:=0) O) cR cX O O J)<|AD<|qe dN (i:=0) O J O O O O rfl<|fun Cx bY=>aa<|au<|V (ax ain O J)<|mI rfl<|aa<| ?_
  refine⟨(k+1,_),aW,fr5.u4.u4.u4.u4.u4.u1.u1,(Hp.conv bY aM),(aJ I aM),J,J,?_,?_⟩
  ·(rw[abJ h0,<-ho];unfold LG;rw[fF h0];rfl)
  (rw[mD];exact hol)
 refine aY (id:=0) rfl<|ah<|SR<|aG XC<|V (af O)<|V (fA bU 6 O wv O)<|V (az mK O O (bP.dY hb O))<|V (aD (hq.hp bP) O mK O)<|aG (v:=I 0) rfl<|aa<|aC<|have hoA:o=TB (bg cs) aX ai.length:=(by rw[ho,show k.toNat=ai.length by omega];rfl);bj (G:=Int×(List (BitVec 64))) (fun⟨k,o⟩ s' w'=>(Fr (6::(rg 44 49 [])) _ s')/\(Hp w w' (jf U (.slice (some ⟨b3,0,none⟩) (ai.length) (ai.length)) 35 o::_))/\(s' 44=I k)/\(0<=k)/\(k<=qs.length)/\(o=((qs.take k.toNat).foldl (Iy (bg cs)) (TB (bg cs) aX ai.length)))/\(o.length=ai.length)) (fun⟨k,o⟩=>(qs.length-k).toNat) ((0,o)) ⟨Fr.refl _ _,bP,rfl,J,J,(by rw[hoA];rfl),hol⟩<| ?_
 rintro⟨k,o⟩ XE Na ⟨lO,cw,HC,h0,hk,ho,hol⟩
 obtain⟨arP,arQ⟩:=lO.w2 42 43
 obtain⟨aio,jT⟩:=lO.t2 0 XC 3 axg
 refine SR<|V (aL HC arQ)<|aa<|ah<|aF O (fun xF=> ?_) (fun xF=> ?_)
 .refine ak<|ah<|aC<|SR<|V (ag (hq.hp cw) mK JW arP HC J)<|V (fg (dv:=cI) oE (hq.hp cw) iE O O O J)<|ou cw (aZ Tryz.zeroValue128)<|fun XI OY dH=>bk dH (i:=0) O (dX (c':=(o7 _).toArray) O O O (sw (HA.at J J)) (dH.blk (i:=0) O) O)<|fun Ug eU=>aa<|ah<|eu aN eU<|fun w24 mc=>AT 0 O mc (fun w hS=>cG (cs:=o7 _) iE O O O (bf (hS.blk (i:=0) O)))<|A1 1<|cC O aH O mc sR (mF _ _ ((HA.at J J).mono mc.kw)) (aq call131 O)<|fun Uj dw=>have Ri:=dw;AQ 2 O Ri (mV (B _) O)<|Kh (dj:=50) O (fun qC=> ?_) (fun qC=> ?_)
  .refine BQ 3 O O (bR (c:=true) qC) dw (run_move aio)<|BQ 4 O O (bR (c:=true) qC) dw (af O)<|BQ 5 O O (bR (c:=true) qC) dw (fA bU 8 O nY O)<|BQ 6 O O (bR (c:=true) qC) dw (fA iE 12 O df O)<|AG 7 O O (bR (c:=true) qC) dw (fun w hS=>cB ((HA.at J J).vars.sl.hp hS) bq O O (hS.cell (i:=0) O O))<|AG 8 O O (bR (c:=true) qC) dw (fun w hS=>ag ((HA.at J J).vars.sl.hp hS) bq bp O O PV)<|AG 9 O O (bR (c:=true) qC) dw (fun w hS=>az bt O O (((HA.at J J).vars.sl.hp hS).cell _ _ (ew PV)))<|BQ 11 O O (bR (c:=true) qC) dw (run_move aio)<|BQ 12 O O (bR (c:=true) qC) dw (af O)<|BQ 13 O O (bR (c:=true) qC) dw (fA bU 8 O nY O)<|BQ 14 O O (bR (c:=true) qC) dw (fA iE 2 O oX O)<|BQ 15 O O (bR (c:=true) qC) dw (fA mL 0 O bp O)<|AG 16 O O (bR (c:=true) qC) dw (fun w hS=>az bt O O (hS.cell (i:=0) O (v:=I _) O))<|A1 10<|cC O (A5 O (bR (c:=true) qC)) O dw sR (Eh _ h J (dw.ext hb) (hW.hp dw)) (aK DG O (show _=I (wY (qs.getD k.toNat cI))from O))<|fun w30 lQ=>A1 17<|cC O (A5 O (bR (c:=true) qC)) O lQ sR (Eh _ h J (lQ.ext hb) (hW.hp lQ)) (aK DG O O)<|fun w32 jE=>BQ 18 O O (bR (c:=true) qC) jE (bO O O)<|have MQ:=jE;AQ 19 O MQ (gC (bR (c:=true) qC) (v:=B _) O)<|AQ 20 O MQ (mV (B _) O)<|CQ (dj:=68) O (fun CF=> ?_) (fun CF=> ?_)
   .refine BQ 21 O O (bT CF) jE (fA iE 12 O df O)<|AG 22 O O (bT CF) jE (fun w hS=>cB ((HA.at J J).vars.sl.hp hS) bq O O (hS.cell (i:=0) O O))<|AG 23 O O (bT CF) jE (fun w hS=>ag ((HA.at J J).vars.sl.hp hS) bq bp O O PV)<|AG 24 O O (bT CF) jE (fun w hS=>az bt O O (((HA.at J J).vars.sl.hp hS).cell _ _ (ew PV)))<|BQ 25 O O (bT CF) jE (fA iE 2 O oX O)<|BQ 26 O O (bT CF) jE (fA mL 0 O bp O)<|AG 27 O O (bT CF) jE (fun w hS=>az bt O O (hS.cell (i:=0) O (v:=I _) O))<|BQ 28 O O (bT CF) jE (kQ (show _=I (wY (qs.getD k.toNat cI))from O) O)<|AQ 29 O MQ (gC (bT CF) (v:=B _) O)<|AD<|aF O (fun h37=> ?_) (fun h37=> ?_)
    .have hin:Im (bg cs) (qs.getD k.toNat cI)=true:=by unfold Im;simp_all
     have U3:=hpl.at h0 ‹k<_› ‹DH _=true›
     have hf1:=hfr _ ⟨U3.2.1.1,U3.2.1.2⟩
     have hf2:=hfr (qs.getD k.toNat cI).to.var ⟨by have:=‹eW (bg cs) _=eW (bg cs) _›;by_cases c:0<=(qs.getD k.toNat cI).to.var;exact c;exfalso;rw[GY (i:=(qs.getD k.toNat cI).to.var) (fun q=>c q.1)]at this;omega,U3.2.2⟩
     refine fC (z:=⟨none,_,_,_,_,none⟩) aN O aN jE sR<|fun w38 oK=>have BK:=oK;AQ 0 O BK (run_move jT)<|AQ 1 O BK (run_move aio)<|AQ 2 O BK (af O)<|AQ 3 O BK (fA bU 8 O nY O)<|AQ 4 O BK (fA iE 2 O oX O)<|AQ 5 O BK (fA mL 0 O bp O)<|tI 6 O BK bt 0 O O rfl<|AQ 10 O BK (fA iE 11 O cX O)<|AT 11 O BK (fun w hS=>az dU O O (hS.cell (i:=0) O (v:=U _) O))<|A1 7<|cC O aH O oK sR (Eh _ h J (oK.ext hb) (hW.hp oK)) (aK DG O O)<|fun w40 jD=>have al2:=jD;AT 8 O al2 (fun w hS=>ag (hS.sl (i:=1) O) cR cX O O J)<|AT 9 O al2 (fun w hS=>az dU O O ((hS.sl (i:=1) O).cell _ _ (kR (dv:=0#64) J)))<|AQ 12 O al2 (jj O O)<|AT 13 O al2 (fun w hS=>ag (hS.sl (i:=1) O) cR cX O O J)<|AD<|qe jD (i:=1) O J O O O O rfl<|fun w42 me=>aa<|au<|V (ax HC O J)<|mI rfl<|aa<| ?_
     refine⟨(k+1,_),aW,lO.u4.u4.u4.u4.u4.u4.u4.u4.u4.u4.u4.u4.u1.u1,(Hp.conv (me.sub (sQ sR)) aM),(aJ I aM),J,J,?_,?_⟩
     ·(rw[nu (d:=cI) h0 ‹k<_›,<-ho];unfold Iy;rw[aR hin];rfl)
     (rw[mD];exact hol)
    refine ak<|au<|V (ax HC O J)<|mI rfl<|aa<|have hno:¬Im (bg cs) (qs.getD k.toNat cI)=true:=V4;?_
    refine⟨(k+1,o),aW,lO.u4.u4.u4.u4.u4.u4.u4.u4.u4,(Hp.conv (jE.sub (sQ sR)) aM),(aJ I aM),J,J,?_,?_⟩
    ·(rw[nu (d:=cI) h0 ‹k<_›,<-ho];unfold Iy;rw[aP hno])
    exact hol
   refine AK 21 O O (bF CF) jE<|AK 22 O O (bF CF) jE<|AK 23 O O (bF CF) jE<|AK 24 O O (bF CF) jE<|AK 25 O O (bF CF) jE<|AK 26 O O (bF CF) jE<|AK 27 O O (bF CF) jE<|AK 28 O O (bF CF) jE<|AQ 29 O MQ (dV (bF CF) (v:=B false) O)<|AD<|dm rfl<|ak<|au<|V (ax HC O J)<|mI rfl<|aa<|have hno:¬Im (bg cs) (qs.getD k.toNat cI)=true:=V4;?_
   refine⟨(k+1,o),aW,lO.u4.u4.u4.u4.u4.u4.u4.u4.u4,(Hp.conv (jE.sub (sQ sR)) aM),(aJ I aM),J,J,?_,?_⟩
   ·(rw[nu (d:=cI) h0 ‹k<_›,<-ho];unfold Iy;rw[aP hno])
   exact hol
  refine AK 3 O O (bR (c:=false) qC) dw<|AK 4 O O (bR (c:=false) qC) dw<|AK 5 O O (bR (c:=false) qC) dw<|AK 6 O O (bR (c:=false) qC) dw<|AK 7 O O (bR (c:=false) qC) dw<|AK 8 O O (bR (c:=false) qC) dw<|AK 9 O O (bR (c:=false) qC) dw<|AK 10 O O (bR (c:=false) qC) dw<|AK 11 O O (bR (c:=false) qC) dw<|AK 12 O O (bR (c:=false) qC) dw<|AK 13 O O (bR (c:=false) qC) dw<|AK 14 O O (bR (c:=false) qC) dw<|AK 15 O O (bR (c:=false) qC) dw<|AK 16 O O (bR (c:=false) qC) dw<|AK 17 O O (bR (c:=false) qC) dw<|AK 18 O O (bR (c:=false) qC) dw<|AQ 19 O Ri (dV (bR (c:=false) qC) (v:=B false) O)<|AQ 20 O Ri (mV (B _) O)<|AK 21 O O O dw<|AK 22 O O O dw<|AK 23 O O O dw<|AK 24 O O O dw<|AK 25 O O O dw<|AK 26 O O O dw<|AK 27 O O O dw<|AK 28 O O O dw<|AQ 29 O Ri (dV O (v:=B false) O)<|AD<|dm rfl<|ak<|au<|V (ax HC O J)<|mI rfl<|aa<|have hno:¬Im (bg cs) (qs.getD k.toNat cI)=true:=V4;?_
  refine⟨(k+1,o),aW,lO.u4.u4.u4.u4.u4.u4.u4.u4.u4,(Hp.conv (dw.sub (sQ sR)) aM),(aJ I aM),J,J,?_,?_⟩
  ·(rw[nu (d:=cI) h0 ‹k<_›,<-ho];unfold Iy;rw[aP hno])
  exact hol
 refine aY (id:=2) rfl<|SR<|aG jT<| ?_
 refine V (run_assign bC) ?_
 refine aa<|aj<|have eB:((qs.take k.toNat).foldl (Iy (bg cs)) (TB (bg cs) aX ai.length))=Br (bg cs) aX ai.length qs:=(by rw[iD J];rfl);Nc O O cw (i:=0) O hol (by rw[ho,eB])
theorem pg{W0:World}{b:Nat}{ql qi:Value}{cq:Option (Nat×Array Value)}{wl:List Int}{wi:List Bool}{L:List a8}(i:Int)(hi:0<=i/\i<wi.length)(X0:wl.length<=100000000)(w:World)(hq:qO cq ql (wl.map I))(hH:Hp W0 w (wE b ql qi cq wl wi L)):Calls Tryz.prog 85 #[pt b,I i] w (jF fun u w'=>u= .tuple #[]/\∃(RT:Value) (RU:Option (Nat×Array Value)),qO RU RT (((oh (wl,wi) i).1).map I)/\Hp W0 w' (wE b (RT) qi (RU) ((oh (wl,wi) i).1) ((oh (wl,wi) i).2) L)):=by
 simp only[wE]at hH
 refine en func85 rfl rfl<|SR<|aG (v:=Pn _ _) rfl<|V (af O)<|V (fA x8 1 O F5 O)<|lV pW hH 0 O O rfl<|mI rfl<|V (ag (hH.sl (i:=2) O) pW mN O O J)<|V (az sI O O ((hH.sl (i:=2) O).cell _ _ (kR (dv:=false) J)))<|V (bK O)<|aa<|bQ O (fun h3=> ?_) (fun h3=> ?_)
 .refine SR<|aG (v:=Pn _ _) rfl<|V (af O)<|V (fA x8 1 O F5 O)<|lV pW hH 0 O O rfl<|mI rfl<|V (ag (hH.sl (i:=2) O) pW mN O O J)<|qe (a:=true) hH (i:=2) O J O O O O rfl<|fun w4 bP=>aa<|au<|aG (v:=Pn _ _) rfl<|aG (v:=Pn _ _) rfl<|V (af O)<|V (fA x8 0 O df O)<|lV bq bP 0 O O rfl<|mI rfl<|vP 1 1 bP (bZ bq O O (sz:=1) (vs:=[I _]) O O ay ay O O)<|fun b8 w6 eR=> ?_
  (try simp only[ot]at eR)
  refine aqb O eR (i:=2) O hq (eR.dQ (i:=0) (n:=1) (sz:=1) O O ay) O O bq O O (bytes:=8) O O O O J ay<|fun v9 c12 Hi acp dN=>V (af O)<|V (fA x8 0 O df O)<|bk dN (i:=1) O (bM O O (v:=v9) O (gG (dN.slQ (i:=2) O acp)).2 (gG (dN.slQ (i:=2) O acp)).1 (dN.blk (i:=1) O) aA)<|fun Na iu=> ?_
  simp only[ij,kf,mA,gA,Nat.reduceAdd]at iu
  refine aa<|p5 O ⟨rfl,v9,c12,?_,?_⟩
  .rw[Zx aQ];exact acp
  rw[Zx aQ];exact(iu.sub (sQ sR))
 refine ak<|p5 O ⟨rfl,ql,cq,?_,?_⟩
 .rw[TD aQ];exact hq
 rw[TD aQ];exact(hH)
theorem CN{W0:World}{b:Nat}{ql qi:Value}{cq:Option (Nat×Array Value)}{wl:List Int}{wi:List Bool}{L:List a8}(x:Int)(hx:0<=x/\x<wi.length)(w:World)(hq:qO cq ql ((x::wl).map I))(hH:Hp W0 w (wE b ql qi cq (x::wl) wi L)):Calls Tryz.prog 87 #[pt b] w (jF fun u w'=>u=I x/\∃(RT:Value) (RU:Option (Nat×Array Value)),qO RU RT (wl.map I)/\Hp W0 w' (wE b (RT) qi (RU) wl (wi.set x.toNat false) L)):=by
 simp only[wE]at hH
 refine en func87 rfl rfl<|SR<|va (v:=I 0) rfl<|aa<|SR<|aG (v:=Pn _ _) rfl<|V (af O)<|V (fA x8 0 O df O)<|lV bq hH 0 O O rfl<|V (ag (hH.slQ (i:=1) O hq) bq bp O O (by simp;done))<|V (az bt O O ((hH.slQ (i:=1) O hq).cell _ _ (ew (by simp;done))))<|V (run_assign (show _=I x from O))<|aa<|SR<|aG (v:=Pn _ _) rfl<|aG (v:=Pn _ _) rfl<|V (af O)<|V (fA x8 0 O df O)<|lV bq hH 0 O O rfl<|V (fT (hH.slQ (i:=1) O hq) bq bp O (q:=1) O hG)<|V (af O)<|V (fA x8 0 O df O)<| ?_
 obtain⟨c1,Cp,tK⟩:=hH.auR (i:=1) (x0:=I x) (xs:=wl.map I) O hq
 have hs6:=tK.slQ (i:=1) O Cp
 refine bk tK (i:=0) O (bM O O (v:=nS ql 1 1) O (gG hs6).2 (gG hs6).1 (tK.blk (i:=0) O) aA)<|fun w4 bP=> ?_
 simp only[ij,kf,mA,gA,Nat.reduceAdd]at bP
 refine aa<|SR<|aG (v:=Pn _ _) rfl<|V (af O)<|V (fA x8 1 O F5 O)<|lV pW bP 0 O O rfl<|mI rfl<|V (ag (bP.sl (i:=2) O) pW mN O O J)<|qe (a:=false) bP (i:=2) O J O O O O rfl<|fun w7 eX=>aa<|SR<|mI rfl<|aI rfl<|aa<|aj<|ja O (v:=I x) O ⟨rfl,(nS ql 1 1),c1,Cp,(eX)⟩
theorem Em{bw bh bn bv:Nat}{was:El}{had:BitVec 64}{v:Int}(hv:0<=v/\v<ai.length/\v<aX.length)(w:World)(hbw:a8.blk bw (.cells (iU was) 37 (0,0))∈L)(hbh:a8.blk bh (.cells #[U had] 35 (0,0))∈L)(hbn:a8.blk bn (.cells #[pt n] 31 (0,0))∈L)(hbv:a8.blk bv (.cells #[I v] 3 (0,0))∈L)(hH:Hp W0 w (nE n wr vL vt vv vy vu vq sn vW vU vT cn sk wy vd vm cW cU W ul ts an aS ai aX us qs lg tm L)):Calls Tryz.prog 193 #[.pointer (some ⟨bw,0,none⟩),.pointer (some ⟨bh,0,none⟩),.pointer (some ⟨bn,0,none⟩),.pointer (some ⟨bv,0,none⟩)] w (jF fun u w'=>u= .tuple #[]/\Hp W0 w' (nE n wr vL vt vv vy vu vq sn vW vU vT cn sk wy vd vm cW cU W ul ts an aS (ai.set v.toNat was) (aX.set v.toNat had) us qs lg tm L)):=by
 simp only[nE]at hH
 refine en func193 rfl rfl<|fC (z:=⟨none,_,_,_,_,none⟩) aN O aN hH (sP (sP (sP (sP (sP (sP (sQ sR)))))))<|fun w1 a7=>have j8:=a7.sub (sP (sP (sP (sP (sP (sP (sQ sR)))))));AT 0 O j8 (fun w hS=>az cS O O (hS.oa (mT (mT (mT (mT (mT (mT (mT (mT (mT (mT (mT hbn))))))))))) (v:=Pn _ _) O))<|AQ 1 O j8 (af O)<|AQ 2 O j8 (fA bU 3 O mq O)<|tV 3 O j8 dL 0 O O rfl<|AT 4 O j8 (fun w hS=>az bt O O (hS.oa (mT (mT (mT (mT (mT (mT (mT (mT (mT (mT (mT hbv))))))))))) (v:=I _) O))<|AT 5 O j8 (fun w hS=>az cS O O (hS.oa (mT (mT (mT (mT (mT (mT (mT (mT (mT (mT (mT hbn))))))))))) (v:=Pn _ _) O))<|AQ 6 O j8 (af O)<|AQ 7 O j8 (fA bU 4 O iO O)<|tV 8 O j8 cR 0 O O rfl<|AT 9 O j8 (fun w hS=>az bt O O (hS.oa (mT (mT (mT (mT (mT (mT (mT (mT (mT (mT (mT hbv))))))))))) (v:=I _) O))<|AT 10 O j8 (fun w hS=>dR cA O O O (hS.abq (mT (mT (mT (mT (mT (mT (mT (mT (mT (mT (mT hbw)))))))))))))<|AT 11 O j8 (fun w hS=>az dU O O (hS.oa (mT (mT (mT (mT (mT (mT (mT (mT (mT (mT (mT hbh))))))))))) (v:=U _) O))<|A1 12<|bW O aH O a7 (sP (sP (sP (sP (sP (sP (sQ sR))))))) (ag (a7.sl (i:=6) O) dL gN O O J)<|A1 13<|Xc O aH fw ay a7 (i:=6) O (fun _=>(sP (sP (sP (sP (sP (sP (sQ sR)))))))) J O ((rfl:_=Value.agg (iU _)).trans (by rw[gR])) (fun u hu=>vF _ u pX) rfl<|fun w7 eX=>AT 14 O (eX.sub (sP (sP (sP (sP (sP (sP (sQ sR)))))))) (fun w hS=>ag (hS.sl (i:=6) O) cR cX O O J)<|AD<|qe eX (i:=7) O J O O O O rfl<|fun w9 bS=>aa<|p5 O ⟨rfl,(bS)⟩
theorem HD{b:Nat}{ql qi:Value}{cq:Option (Nat×Array Value)}{wl:List Int}{wi:List Bool}(v:Int)(e:El)(y:BitVec 64)(hv:0<=v/\v<ai.length)(RQ:aX.length=ai.length)(M7:us.length=ai.length)(hlg:lg.length<=600000000000)(X0:wl.length<=10000000)(hun:(us.getD v.toNat cP).l.length<=1000)(hui:∀i∈(us.getD v.toNat cP).l,0<=i/\i<wi.length)(hum:dB 3 (us.getD v.toNat cP)∈L)(w:World)(hq:qO cq ql (wl.map I))(hH:Hp W0 w (nE n wr vL vt vv vy vu vq sn vW vU vT cn sk wy vd vm cW cU W ul ts an aS ai aX us qs lg tm ((wE b ql qi cq wl wi L)))):Calls Tryz.prog 162 #[pt n,pt b,I v,.agg (iU e),U y] w (jF fun u w'=>u= .tuple #[]/\∃(f vd':Value) (RT:Value) (RU:Option (Nat×Array Value)) (Lb:List a8),l9 NX n Lb (f,.raise v (ai.getD v.toNat dh) (aX.getD v.toNat 0))/\qO RU RT ((lm ai us (wl,wi) v e).1.map I)/\Hp W0 w' (nE n wr vL vt vv vy vu vq sn vW vU vT cn sk wy (vd') vm cW cU W ul ts an aS (ai.set v.toNat e) (aX.set v.toNat y) us qs (lg++[(f,.raise v (ai.getD v.toNat dh) (aX.getD v.toNat 0))]) tm ((wE b (RT) qi (RU) ((lm ai us (wl,wi) v e).1) ((lm ai us (wl,wi) v e).2) ((Lb++L)))))):=by
 simp only[wE]at hH
 simp only[nE]at hH
 refine en func162 rfl rfl<|SR<|gX hH (v:=Pn _ _) rfl<|fun b3 w1 a7=>gX a7 (v:=I _) rfl<|fun b6 w4 bP=>gX bP (v:= .agg _) rfl<|fun b9 w7 eX=>aa<|ah<|fC (z:=⟨none,_,_,_,_,none⟩) aN O aN eX sR<|fun Hi dN=>have iY:=dN;tP 0 O iY cS 2 O O rfl<|AQ 1 O iY (af O)<|AQ 2 O iY (fA bU 3 O mq O)<|tV 3 O iY dL 3 O O rfl<|tI 4 O iY bt 1 O O rfl<|AT 5 O iY (fun w hS=>ag (hS.sl (i:=9) O) dL gN O O J)<|AT 6 O iY (fun w hS=>ld (hS.sl (i:=9) O) cA O O O J)<|tP 7 O iY cS 2 O O rfl<|AQ 8 O iY (af O)<|AQ 9 O iY (fA bU 4 O iO O)<|tV 10 O iY cR 3 O O rfl<|tI 11 O iY bt 1 O O rfl<|AT 12 O iY (fun w hS=>ag (hS.sl (i:=10) O) cR cX O O J)<|AT 13 O iY (fun w hS=>az dU O O ((hS.sl (i:=10) O).cell _ _ (kR (dv:=0#64) J)))<|ic 14 15 aN ?_ ?_
 .refine cN O aH O dN sR (f:=fun b=> .pointer (some ⟨b,0,none⟩)) (aZ js)<|fun b14 Cx bY=>A1 15<|cN O aH O bY (sQ sR) (f:=fun b=> .pointer (some ⟨b,0,none⟩)) (aZ Tryz.zeroValue35)<|fun b17 XD cF=>A1 16<|eK O aH cF (j:=1) O (sQ (sQ sR)) (ef O O O (cF.blk (i:=1) O))<|fun Ug eU=>AD<|bk eU (i:=0) O (bM O O (v:=U _) O O O (eU.blk (i:=0) O) ay)<|fun Uj dw=>aa<|ah<|fC (z:=⟨none,_,_,_,_,none⟩) aN O aN dw (sP (sP (sP (sP (sP (sP (sP (sP (sP (sP (sP (sQ sR))))))))))))<|fun w28 gj=>have CH:=gj.sub (sP (sP (sP (sP (sP (sP (sP (sP (sP (sP (sP (sQ sR))))))))))));tP 0 O CH cS 4 O O rfl<|AQ 1 O CH (af O)<|AQ 2 O CH (fA bU 3 O mq O)<|tV 3 O CH dL 5 O O rfl<|tI 4 O CH bt 3 O O rfl<|tP 5 O CH cS 4 O O rfl<|AQ 6 O CH (af O)<|AQ 7 O CH (fA bU 4 O iO O)<|tV 8 O CH cR 5 O O rfl<|tI 9 O CH bt 3 O O rfl<|AT 10 O CH (fun w hS=>dR cA O O O (hS.blk (i:=2) O))<|AQ 11 O CH (mV (U _) O)<|A1 12<|bW O aH O gj (sP (sP (sP (sP (sP (sP (sP (sP (sP (sP (sP (sQ sR)))))))))))) (ag (gj.sl (i:=11) O) dL gN O O J)<|A1 13<|Xc O aH fw ay gj (i:=11) O (fun _=>(sP (sP (sP (sP (sP (sP (sP (sP (sP (sP (sP (sQ sR))))))))))))) J O ((rfl:_=Value.agg (iU _)).trans (by rw[gR])) (fun u hu=>vF _ u pX) rfl<|fun w34 xH=>AT 14 O (xH.sub (sP (sP (sP (sP (sP (sP (sP (sP (sP (sP (sP (sQ sR))))))))))))) (fun w hS=>ag (hS.sl (i:=11) O) cR cX O O J)<|AD<|qe xH (i:=12) O J O O O O rfl<|fun w36 xG=>aa<|SR<|lP cS xG 4 O O rfl<| ?_
  refine V (Tq bC bC bC bC) ?_
  refine ct O (gV _ _ (.raise v (ai.getD v.toNat dh) (aX.getD v.toNat 0)) J _ (xG.pj [5,5,5,5,5,5,5,5,5,5,5,5])) (aK yd O O) ?_
  rintro _ w40 ⟨rfl,v42,jD⟩
  simp only[nE]at jD
  have me:=jD.pk [12,12,12,12,12]
  refine aa<|ah<|SR<|V (dR cA O O O (me.blk (i:=1) O))<|V (dR cA O O O (me.blk (i:=2) O))<|V (GH Fi O O)<|aa<|aF O (fun h45=> ?_) (fun h45=> ?_)
  .refine aj<|p5 O ⟨rfl,(iW 193 #[pt b14,pt b17,pt b3,pt b6]),v42,ql,cq,[a8.blk b14 (.cells (iU (ai.getD v.toNat dh)) 37 (0,0)),a8.blk b17 (.cells #[U (aX.getD v.toNat 0)] 35 (0,0)),a8.blk b3 (.cells #[pt n] 31 (0,0)),a8.blk b6 (.cells #[I v] 3 (0,0))],⟨b14,b17,b3,b6,rfl,aA,aA,aA,aA⟩,?_,?_⟩
   .rw[lm,aR ‹qK _ e›];exact hq
   rw[lm,aR ‹qK _ e›];exact((me.sub (sP (sP (sQ sR)))).pj [4,4,4,4,4,4,4,4,4,4,4,4,4,4,4,1,0,1])
  refine ak<|ah<|eu aN me<|fun w46 nO=>have Rt:=nO;tP 0 O Rt cS 4 O O rfl<|AQ 1 O Rt (af O)<|AQ 2 O Rt (fA bU 5 O yc O)<|tV 3 O Rt ov 5 O O rfl<|tI 4 O Rt bt 3 O O rfl<|AT 5 O Rt (fun w hS=>ag (hS.sl (i:=13) O) ov df O O J)<|AT 6 O Rt (fun w hS=>az bq O O ((hS.sl (i:=13) O).cell _ _ (kR (dv:=cP) J)))<|AT 7 O Rt (fun w hS=>aD (hS.OE (mT (mT (mT (mT (mT (mT (mT (mT (mT (mT (mT (mT (mT (mT (mT (mT (mT (mT (mT (mT hum))))))))))))))))))))) O bq O)<|AQ 8 O Rt (mV (I 0) O)<|AD<|aC<|bj (G:=Int×Value×(Option (Nat×Array Value))×(List Int)×(List Bool)) (fun⟨k,wZ,Ax,pe,lT⟩ s' w'=>(Fr (13::(rg 56 8 [])) _ s')/\(Hp W0 w' (_::_::_::_::_::_::_::_::_::_::_::_::_::_::_::_::_:: .blk b (.cells #[wZ,qi] 156 (0,0))::qE Ax wZ 3 (pe.map I)::jf B qi 4 lT::_))/\(s' 56=I k)/\(0<=k)/\(k<=(us.getD v.toNat cP).l.length)/\(qO Ax wZ (pe.map I))/\((pe,lT)=qA (wl,wi) ((us.getD v.toNat cP).l.take k.toNat))) (fun⟨k,wZ,Ax,pe,lT⟩=>((us.getD v.toNat cP).l.length-k).toNat) ((0,ql,cq,wl,wi)) ⟨Fr.refl _ _,nO,rfl,J,J,hq,rfl⟩<| ?_
  rintro⟨k,wZ,Ax,pe,lT⟩ aMa w48 ⟨axi,mH,Yf,h0,hk,M9,hp⟩
  obtain⟨axj,arR,arS⟩:=axi.w3 1 54 55
  have aDJ:pe.length<=wl.length+1000:=by have:=aJ (fun p=>p.1.length) hp;have h2:=E7 (l:=(us.getD v.toNat cP).l.take k.toNat) (p:=(wl,wi));simp only at this;rw[eD]at h2;simp only at h2;omega
  have aDK:lT.length=wi.length:=by have:=aJ (fun p=>p.2.length) hp;have h2:=xq (l:=(us.getD v.toNat cP).l.take k.toNat) (p:=(wl,wi));simp only at this h2;omega
  refine SR<|V (aL Yf arS)<|aa<|ah<|aF O (fun h50=> ?_) (fun h50=> ?_)
  .refine ak<|ah<|aC<|SR<|V (ag (mH.OE (mT (mT (mT (mT (mT (mT (mT (mT (mT (mT (mT (mT (mT (mT (mT (mT (mT (mT (mT (mT hum))))))))))))))))))))) bq bp arR Yf J)<|V (az bt O O ((mH.OE (mT (mT (mT (mT (mT (mT (mT (mT (mT (mT (mT (mT (mT (mT (mT (mT (mT (mT (mT (mT hum))))))))))))))))))))).cell _ _ (ew J)))<|aI rfl<|aa<|au<|aG axj<|mI rfl<|ct O (pg _ adm J _ M9 (mH.pj [17,17,17])) (aK call85 O O)<| ?_
   rintro _ w53 ⟨rfl,v55,c56,aDL,gk⟩
   simp only[wE]at gk
   have sW:=gk.pk [3,3,3,3,3,3,3,3,3,3,3,3,3,3,3,3,3]
   refine aa<|au<|V (ax Yf O J)<|mI rfl<|aa<| ?_
   refine⟨(k+1,v55,c56,(oh (pe,lT) ((us.getD v.toNat cP).l.getD k.toNat 0)).1,(oh (pe,lT) ((us.getD v.toNat cP).l.getD k.toNat 0)).2),aW,axi.u4.u4.u1,(Hp.conv sW aM),(aJ I aM),J,J,?_,?_⟩
   .exact aDL
   (rw[OK h0 ‹k<_›,<-hp])
  refine aY (id:=0) rfl<|p5 O ⟨rfl,(iW 193 #[pt b14,pt b17,pt b3,pt b6]),v42,wZ,Ax,[a8.blk b14 (.cells (iU (ai.getD v.toNat dh)) 37 (0,0)),a8.blk b17 (.cells #[U (aX.getD v.toNat 0)] 35 (0,0)),a8.blk b3 (.cells #[pt n] 31 (0,0)),a8.blk b6 (.cells #[I v] 3 (0,0))],⟨b14,b17,b3,b6,rfl,aA,aA,aA,aA⟩,?_,?_⟩
  .rw[lm,aP ‹¬qK _ e›];rw[iD J]at hp;rw[<-hp];exact M9
  rw[lm,aP ‹¬qK _ e›];rw[iD J]at hp;rw[<-hp];exact((mH.sub (sP (sP (sQ sR)))).pj [4,4,4,4,4,4,4,4,4,4,4,4,4,4,4,1,0,1])
 refine cN O aH O dN sR (f:=fun b=> .pointer (some ⟨b,0,none⟩)) (aZ Tryz.zeroValue35)<|fun b61 w59 BW=>A1 14<|cN O aH O BW (sQ sR) (f:=fun b=> .pointer (some ⟨b,0,none⟩)) (aZ js)<|fun b64 w62 pc=>A1 16<|eK O aH pc (j:=0) O (sQ (sQ sR)) (ef O O O (pc.blk (i:=0) O))<|fun w69 uN=>AD<|bk uN (i:=1) O (bM O O (v:=U _) O O O (uN.blk (i:=1) O) ay)<|fun w73 wU=>aa<|ah<|fC (z:=⟨none,_,_,_,_,none⟩) aN O aN wU (sP (sP (sP (sP (sP (sP (sP (sP (sP (sP (sP (sQ sR))))))))))))<|fun w75 qF=>have pQ:=qF.sub (sP (sP (sP (sP (sP (sP (sP (sP (sP (sP (sP (sQ sR))))))))))));tP 0 O pQ cS 4 O O rfl<|AQ 1 O pQ (af O)<|AQ 2 O pQ (fA bU 3 O mq O)<|tV 3 O pQ dL 5 O O rfl<|tI 4 O pQ bt 3 O O rfl<|tP 5 O pQ cS 4 O O rfl<|AQ 6 O pQ (af O)<|AQ 7 O pQ (fA bU 4 O iO O)<|tV 8 O pQ cR 5 O O rfl<|tI 9 O pQ bt 3 O O rfl<|AT 10 O pQ (fun w hS=>dR cA O O O (hS.blk (i:=2) O))<|AQ 11 O pQ (mV (U _) O)<|A1 12<|bW O aH O qF (sP (sP (sP (sP (sP (sP (sP (sP (sP (sP (sP (sQ sR)))))))))))) (ag (qF.sl (i:=11) O) dL gN O O J)<|A1 13<|Xc O aH fw ay qF (i:=11) O (fun _=>(sP (sP (sP (sP (sP (sP (sP (sP (sP (sP (sP (sQ sR))))))))))))) J O ((rfl:_=Value.agg (iU _)).trans (by rw[gR])) (fun u hu=>vF _ u pX) rfl<|fun w81 pP=>AT 14 O (pP.sub (sP (sP (sP (sP (sP (sP (sP (sP (sP (sP (sP (sQ sR))))))))))))) (fun w hS=>ag (hS.sl (i:=11) O) cR cX O O J)<|AD<|qe pP (i:=12) O J O O O O rfl<|fun w83 nP=>aa<|SR<|lP cS nP 4 O O rfl<| ?_
 refine V (Tq bC bC bC bC) ?_
 refine ct O (gV _ _ (.raise v (ai.getD v.toNat dh) (aX.getD v.toNat 0)) J _ (nP.pj [5,5,5,5,5,5,5,5,5,5,5,5])) (aK yd O O) ?_
 rintro _ w87 ⟨rfl,v89,Ee⟩
 simp only[nE]at Ee
 have sX:=Ee.pk [12,12,12,12,12]
 refine aa<|ah<|SR<|V (dR cA O O O (sX.blk (i:=0) O))<|V (dR cA O O O (sX.blk (i:=2) O))<|V (GH Fi O O)<|aa<|aF O (fun h92=> ?_) (fun h92=> ?_)
 .refine aj<|p5 O ⟨rfl,(iW 193 #[pt b64,pt b61,pt b3,pt b6]),v89,ql,cq,[a8.blk b64 (.cells (iU (ai.getD v.toNat dh)) 37 (0,0)),a8.blk b61 (.cells #[U (aX.getD v.toNat 0)] 35 (0,0)),a8.blk b3 (.cells #[pt n] 31 (0,0)),a8.blk b6 (.cells #[I v] 3 (0,0))],⟨b64,b61,b3,b6,rfl,aA,aA,aA,aA⟩,?_,?_⟩
  .rw[lm,aR ‹qK _ e›];exact hq
  rw[lm,aR ‹qK _ e›];exact((sX.sub (sP (sP (sQ sR)))).pj [4,4,4,4,4,4,4,4,4,4,4,4,4,4,4,0,0,1])
 refine ak<|ah<|eu aN sX<|fun w93 vc=>have Ru:=vc;tP 0 O Ru cS 4 O O rfl<|AQ 1 O Ru (af O)<|AQ 2 O Ru (fA bU 5 O yc O)<|tV 3 O Ru ov 5 O O rfl<|tI 4 O Ru bt 3 O O rfl<|AT 5 O Ru (fun w hS=>ag (hS.sl (i:=13) O) ov df O O J)<|AT 6 O Ru (fun w hS=>az bq O O ((hS.sl (i:=13) O).cell _ _ (kR (dv:=cP) J)))<|AT 7 O Ru (fun w hS=>aD (hS.OE (mT (mT (mT (mT (mT (mT (mT (mT (mT (mT (mT (mT (mT (mT (mT (mT (mT (mT (mT (mT hum))))))))))))))))))))) O bq O)<|AQ 8 O Ru (mV (I 0) O)<|AD<|aC<|bj (G:=Int×Value×(Option (Nat×Array Value))×(List Int)×(List Bool)) (fun⟨k,wZ,Ax,pe,lT⟩ s' w'=>(Fr (13::(rg 56 8 [])) _ s')/\(Hp W0 w' (_::_::_::_::_::_::_::_::_::_::_::_::_::_::_::_::_:: .blk b (.cells #[wZ,qi] 156 (0,0))::qE Ax wZ 3 (pe.map I)::jf B qi 4 lT::_))/\(s' 56=I k)/\(0<=k)/\(k<=(us.getD v.toNat cP).l.length)/\(qO Ax wZ (pe.map I))/\((pe,lT)=qA (wl,wi) ((us.getD v.toNat cP).l.take k.toNat))) (fun⟨k,wZ,Ax,pe,lT⟩=>((us.getD v.toNat cP).l.length-k).toNat) ((0,ql,cq,wl,wi)) ⟨Fr.refl _ _,vc,rfl,J,J,hq,rfl⟩<| ?_
 rintro⟨k,wZ,Ax,pe,lT⟩ aMd w95 ⟨axk,Rv,Yg,h0,hk,M9,hp⟩
 obtain⟨axl,arT,arU⟩:=axk.w3 1 54 55
 have aDJ:pe.length<=wl.length+1000:=by have:=aJ (fun p=>p.1.length) hp;have h2:=E7 (l:=(us.getD v.toNat cP).l.take k.toNat) (p:=(wl,wi));simp only at this;rw[eD]at h2;simp only at h2;omega
 have aDK:lT.length=wi.length:=by have:=aJ (fun p=>p.2.length) hp;have h2:=xq (l:=(us.getD v.toNat cP).l.take k.toNat) (p:=(wl,wi));simp only at this h2;omega
 refine SR<|V (aL Yg arU)<|aa<|ah<|aF O (fun h97=> ?_) (fun h97=> ?_)
 .refine ak<|ah<|aC<|SR<|V (ag (Rv.OE (mT (mT (mT (mT (mT (mT (mT (mT (mT (mT (mT (mT (mT (mT (mT (mT (mT (mT (mT (mT hum))))))))))))))))))))) bq bp arT Yg J)<|V (az bt O O ((Rv.OE (mT (mT (mT (mT (mT (mT (mT (mT (mT (mT (mT (mT (mT (mT (mT (mT (mT (mT (mT (mT hum))))))))))))))))))))).cell _ _ (ew J)))<|aI rfl<|aa<|au<|aG axl<|mI rfl<|ct O (pg _ adm J _ M9 (Rv.pj [17,17,17])) (aK call85 O O)<| ?_
  rintro _ arE ⟨rfl,aDM,aDN,axm,Dn⟩
  simp only[wE]at Dn
  have Pd:=Dn.pk [3,3,3,3,3,3,3,3,3,3,3,3,3,3,3,3,3]
  refine aa<|au<|V (ax Yg O J)<|mI rfl<|aa<| ?_
  refine⟨(k+1,aDM,aDN,(oh (pe,lT) ((us.getD v.toNat cP).l.getD k.toNat 0)).1,(oh (pe,lT) ((us.getD v.toNat cP).l.getD k.toNat 0)).2),aW,axk.u4.u4.u1,(Hp.conv Pd aM),(aJ I aM),J,J,?_,?_⟩
  .exact axm
  (rw[OK h0 ‹k<_›,<-hp])
 refine aY (id:=0) rfl<|p5 O ⟨rfl,(iW 193 #[pt b64,pt b61,pt b3,pt b6]),v89,wZ,Ax,[a8.blk b64 (.cells (iU (ai.getD v.toNat dh)) 37 (0,0)),a8.blk b61 (.cells #[U (aX.getD v.toNat 0)] 35 (0,0)),a8.blk b3 (.cells #[pt n] 31 (0,0)),a8.blk b6 (.cells #[I v] 3 (0,0))],⟨b64,b61,b3,b6,rfl,aA,aA,aA,aA⟩,?_,?_⟩
 .rw[lm,aP ‹¬qK _ e›];rw[iD J]at hp;rw[<-hp];exact M9
 rw[lm,aP ‹¬qK _ e›];rw[iD J]at hp;rw[<-hp];exact((Rv.sub (sP (sP (sQ sR)))).pj [4,4,4,4,4,4,4,4,4,4,4,4,4,4,4,0,0,1])
theorem zS{b:Nat}{ql qi:Value}{cq:Option (Nat×Array Value)}{wl:List Int}{wi:List Bool}(v:Int)(e:El)(y:BitVec 64)(hm:m<=100000)(RQ:aX.length=ai.length)(M7:us.length=ai.length)(n8:(bg cs).length=ai.length)(ON:ai.length<=1000)(hlg:lg.length<=550000000000)(X0:wl.length<=1000000)(wI:∀k:Nat,k<us.length->dB 3 (us.getD k cP)∈L/\(us.getD k cP).l.length<=1000/\∀i∈(us.getD k cP).l,0<=i/\i<wi.length)(w:World)(h:vK FX n m cs vW vU cW cU W ul ts cn L)(hq:qO cq ql (wl.map I))(hH:Hp W0 w (nE n wr vL vt vv vy vu vq sn vW vU vT cn sk wy vd vm cW cU W ul ts an aS ai aX us qs lg tm ((wE b ql qi cq wl wi L)))):Calls Tryz.prog 130 #[pt n,pt b,I v,.agg (iU e),U y] w (jF fun u w'=>u= .tuple #[]/\∃(vd':Value) (RT:Value) (RU:Option (Nat×Array Value)) (new:List (Value×lK)) (Lb:List a8),(∀x∈new,l9 NX n Lb x/\G7 x.2)/\new.length<=(bG (bg cs) v).length/\iz new (NP.mk an aS ai aX ((o5 us)) qs sn cs sk wy wr) (NP.mk an aS ((wH ai us (wl,wi) (bG (bg cs) v) e).1) (fX aX (bG (bg cs) v) y) ((o5 us)) qs sn cs sk wy wr)/\qO RU RT ((wH ai us (wl,wi) (bG (bg cs) v) e).2.1.map I)/\Hp W0 w' (nE n wr vL vt vv vy vu vq sn vW vU vT cn sk wy (vd') vm cW cU W ul ts an aS ((wH ai us (wl,wi) (bG (bg cs) v) e).1) (fX aX (bG (bg cs) v) y) us qs (lg++new) tm ((wE b (RT) qi (RU) ((wH ai us (wl,wi) (bG (bg cs) v) e).2.1) ((wH ai us (wl,wi) (bG (bg cs) v) e).2.2) ((Lb++L)))))):=by
 simp only[wE]at hH
 simp only[nE]at hH
 refine en func130 rfl rfl<|SR<|gX hH (v:= .agg _) rfl<|fun b3 w1 a7=>aa<|SR<|aG (v:=Pn _ _) rfl<|V (af O)<|V (fA bU 8 O nY O)<|mI rfl<|A3 O a7 (aac _ h J (a7.blk (i:=1) O) (a7.xp (i:=2) O h.hW)) (aK call129 O O)<|fun v6 w4 bP=>V (aD (bP.sl (i:=0) O) O bq O)<|aG (v:=I 0) rfl<|aa<|aC<|have aMf:=uH (cl:=bg cs) (i:=v);bj (G:=Int×Value×Value×(Option (Nat×Array Value))×(List El)×(List (BitVec 64))×(List Int)×(List Bool)×(List (Value×lK))×(List a8)×(List a8)) (fun⟨k,UE,wZ,Ax,cM,eo,pe,lT,new,Lb,Z1⟩ s' w'=>(Fr (11::(rg 18 11 [])) _ s')/\(Hp W0 w' (.row v6 3 1 (bG (bg cs) v).length ((bG (bg cs) v).map I):: .blk b3 (.cells (Value.agg (iU e)).cells 37 (0,0)):: .blk n (.cells #[wr,vL,vt,vv,vy,vu,vq,I sn,vW,vU,vT,I cn,B sk,U wy,UE,vm] 111 (0,0))::cE cW vW 35 (W.map U)::cE cU vU 1 (ul.map Prod.fst)::jf I vT 3 ts::uD U0 13 vL 119 an::jf I vt 3 aS::uD sC 8 vv 37 cM::jf U vy 35 eo::jf jx.v vu 99 us::uD o7 13 vq 128 qs::jf Prod.fst UE 1 (lg++new)::jf I vm 3 tm:: .blk b (.cells #[wZ,qi] 156 (0,0))::qE Ax wZ 3 (pe.map I)::jf B qi 4 lT::Z1))/\(s' 18=I k)/\(0<=k)/\(k<=(bG (bg cs) v).length)/\(qO Ax wZ (pe.map I))/\((cM,(pe,lT))=(wH ai us (wl,wi) ((bG (bg cs) v).take k.toNat) e))/\(eo=fX aX ((bG (bg cs) v).take k.toNat) y)/\(Z1=Lb++L)/\(∀x∈new,l9 NX n Lb x/\G7 x.2)/\(new.length<=k.toNat)/\(iz new (NP.mk an aS ai aX ((o5 us)) qs sn cs sk wy wr) (NP.mk an aS cM eo ((o5 us)) qs sn cs sk wy wr))) (fun⟨k,UE,wZ,Ax,cM,eo,pe,lT,new,Lb,Z1⟩=>((bG (bg cs) v).length-k).toNat) ((0,vd,ql,cq,ai,aX,wl,wi,[],[],L)) ⟨Fr.refl _ _,(by rw[lU];exact bP),rfl,J,J,hq,rfl,rfl,rfl,(fun x hx=>by cases hx),mo _,iz.nil _⟩<| ?_
 rintro⟨k,UE,wZ,Ax,cM,eo,pe,lT,new,Lb,Z1⟩ sg7 w7 ⟨Es,eR,aip,h0,hk,M9,hp,hy2,hz,U5,hnl,hbk⟩
 obtain⟨Ej,acj,Hq,art,axn,axo⟩:=Es.w6 0 1 4 8 16 17
 subst hz
 have e1:cM=fX ai ((bG (bg cs) v).take k.toNat) e:=by have:=aJ Prod.fst hp;rw[xu]at this;exact this
 have lv1:cM.length=ai.length:=by rw[e1,iy]
 have lw1:eo.length=ai.length:=by rw[hy2,iy];exact RQ
 have li1:lT.length=wi.length:=by have:=aJ (fun p=>p.2.2.length) hp;rw[Jj]at this;exact this
 have ll1:pe.length<=wl.length+1000*k.toNat:=by have:=aJ (fun p=>p.2.1.length) hp;have h2:=ags (e:=e) (p:=(wl,wi)) (ai:=ai) (fun k hk=>(wI k hk).2.1) (ks:=(bG (bg cs) v).take k.toNat) (fun q hq=>by have:=lM (AA hq);omega);rw[eD]at h2;simp only at this h2;omega
 refine SR<|V (aL aip axo)<|aa<|ah<|aF O (fun h9=> ?_) (fun h9=> ?_)
 .refine ak<|ah<|aC<|SR<|have hkm:=lM (dG (d:=0) h0 ‹k<_›);V (ag (eR.sl (i:=0) O) bq bp axn aip J)<|V (az bt O O ((eR.sl (i:=0) O).cell _ _ (ew J)))<|aI rfl<|aa<|au<|aG Ej<|aG acj<|mI rfl<|V (dR cA O O art (eR.blk (i:=1) O))<|aG Hq<|ct O (HD _ _ _ J J J DI J (wI _ J).2.1 (fun i hi=>by have:=(wI _ J).2.2 i hi;omega) (by(repeat apply fq);exact bB _ (wI _ J).1) _ M9 (eR.pj [2,2,2,2,2,2,2,2,2,2,2,2,2,2,2])) (q5 call162 O O O O O)<| ?_
  rintro _ Ub ⟨rfl,f12,aDO,q14,c15,axp,aDP,aDQ,Jm⟩
  simp only[nE,wE]at Jm
  have fD:=Hp.lC (A:=[_,_,_,_,_,_,_,_,_,_,_,_,_,_,_]) (R:=[_,_]) Jm
  simp only[fH,dZ]at fD
  have c8:=fD.pk [15,15]
  refine aa<|au<|V (ax aip O J)<|mI rfl<|aa<| ?_
  refine⟨(k+1,aDO,q14,c15,cM.set ((bG (bg cs) v).getD k.toNat 0).toNat e,eo.set ((bG (bg cs) v).getD k.toNat 0).toNat y,(lm cM us (pe,lT) ((bG (bg cs) v).getD k.toNat 0) e).1,(lm cM us (pe,lT) ((bG (bg cs) v).getD k.toNat 0) e).2,new++[(f12,.raise ((bG (bg cs) v).getD k.toNat 0) (cM.getD ((bG (bg cs) v).getD k.toNat 0).toNat dh) (eo.getD ((bG (bg cs) v).getD k.toNat 0).toNat 0))],axp++Lb,(axp++(Lb++L))),aW,Es.u4.u4.u4,(Hp.conv c8 (by simp only[dg];rfl)),(aJ I aM),J,J,?_,?_,?_,?_,?_,?_,?_⟩
  .exact aDQ
  ·(rw[agr h0 ‹k<_›,<-hp];rfl)
  ·(rw[Bn h0 ‹k<_›,<-hy2])
  ·(rw[dg])
  ·(intro x hx;rcases eF.1 hx with q|q;exact⟨(U5 x q).1.mono (fun e he=>bB _ he),(U5 x q).2⟩;rw[fG.1 q];exact⟨aDP.mono fun e he=>dy _ he,trivial⟩)
  ·(rw[cV,gI];omega)
  exact hbk.trans (Xh (s:=(NP.mk an aS cM eo ((o5 us)) qs sn cs sk wy wr)) (by show _/\_<(cM.length:Int);omega) (by show _<(eo.length:Int);omega))
 refine aY (id:=0) O ?_
 rw[iD J]at hp hy2
 have e2:=aJ Prod.fst hp
 have e3:=aJ Prod.snd hp
 have e4:=aJ Prod.fst e3
 have e5:=aJ Prod.snd e3
 simp only at e2 e4 e5
 have eU:=(eR.sub (sQ (sQ sR)))
 rw[e2,hy2,e4,e5]at eU
 rw[e4]at M9
 rw[e2,hy2]at hbk
 exact p5 O ⟨rfl,UE,wZ,Ax,new,Lb,U5,J,hbk,M9,eU⟩
theorem En{bn bm:Nat}{i:Int}{R:List a8}(hm:m<=100000)(w:World)(hbn:a8.blk bn (.cells #[pt n] 31 (0,0))∈(R++L))(hbm:a8.blk bm (.cells #[I i] 3 (0,0))∈(R++L))(h:vK FX n m cs vW vU cW cU W ul ts cn L)(hH:Hp W0 w (nE n wr vL vt vv vy vu vq sn vW vU vT cn sk wy vd vm cW cU W ul ts an aS ai aX us qs lg tm ((R++L)))):Calls Tryz.prog 157 #[.pointer (some ⟨bn,0,none⟩),.pointer (some ⟨bm,0,none⟩)] w (jF fun u w'=>u= .tuple #[]/\∃(ML MM U4:Value) (O9 Pa:Option (Nat×Array Value)) (W':List (BitVec 64)) (xK:List (Value×jh)) (ts':List Int) (Pb:Int) (Lb:List a8),vK FX n (m) ((Bl cs i).1) ML MM O9 Pa W' xK ts' Pb (Lb++L)/\Hp W0 w' (nE n wr vL vt vv vy vu vq sn (ML) (MM) (U4) (Pb) sk wy vd vm (O9) (Pa) (W') (xK) (ts') an aS ai aX us qs lg tm ((R++(Lb++L))))):=by
 simp only[nE]at hH
 refine en func157 rfl rfl<|fC (z:=⟨some _,_,_,_,_,none⟩) aN O aN hH sR<|fun w1 a7=>have j8:=a7;AT 0 O j8 (fun w hS=>az cS O O (hS.oa (mT (mT (mT (mT (mT (mT (mT (mT (mT (mT (mT (mT hbn)))))))))))) (v:=Pn _ _) O))<|AQ 1 O j8 (af O)<|AQ 2 O j8 (fA bU 8 O nY O)<|AT 3 O j8 (fun w hS=>az bt O O (hS.oa (mT (mT (mT (mT (mT (mT (mT (mT (mT (mT (mT (mT hbm)))))))))))) (v:=I _) O))<|AD<|ct O (arK _ h J (R:=([_,_,_,_,_,_,_,_]++R)) a7) (aK call49 O O)<| ?_
 rintro _ Ml ⟨rfl,vW5,vU6,vT7,cW8,cU9,W10,aDR,aDS,aDT,aDU,axq,er⟩
 have j7:=Hp.lC (A:=[_,_,_,_]) (R:=([_,_,_,_,_,_,_,_]++R)) er
 simp only[fH,dZ]at j7
 refine aa<|p5 O ⟨rfl,vW5,vU6,vT7,cW8,cU9,W10,aDR,aDS,aDT,aDU,axq,(j7)⟩
theorem HE{R:List a8}(v k:Int)(hm:m<=100000)(hlg:lg.length<=550000000000)(w:World)(h:vK FX n m cs vW vU cW cU W ul ts cn L)(hH:Hp W0 w (nE n wr vL vt vv vy vu vq sn vW vU vT cn sk wy vd vm cW cU W ul ts an aS ai aX us qs lg tm ((R++L)))):Calls Tryz.prog 126 #[pt n,I v,I k] w (jF fun u w'=>u= .tuple #[]/\∃(ML MM U4:Value) (O9 Pa:Option (Nat×Array Value)) (W':List (BitVec 64)) (xK:List (Value×jh)) (ts':List Int) (Pb:Int) (vd':Value) (new:List (Value×lK)) (Lb:List a8),vK FX n (m+(if(iK cs v k).2 then 1 else 0)) ((iK cs v k).1) ML MM O9 Pa W' xK ts' Pb (Lb++L)/\(∀x∈new,l9 NX n Lb x/\G7 x.2)/\new.length<=1/\iz new (NP.mk an aS ai aX ((o5 us)) qs sn cs sk wy wr) (NP.mk an aS ai aX ((o5 us)) qs sn ((iK cs v k).1) sk wy wr)/\Hp W0 w' (nE n wr vL vt vv vy vu vq sn (ML) (MM) (U4) (Pb) sk wy (vd') vm (O9) (Pa) (W') (xK) (ts') an aS ai aX us qs (lg++new) tm ((R++(Lb++L))))):=by
 simp only[nE]at hH
 refine en func126 rfl rfl<|SR<|gX hH (v:=Pn _ _) rfl<|fun b3 w1 a7=>aa<|SR<|lP cS a7 0 O O rfl<|V (af O)<|V (fA bU 8 O nY O)<|aE O a7 (aif h J (a7.blk (i:=1) O) (a7.xp (i:=2) O h.hW) (a7.sl (i:=4) O)) (aq call46 O)<|fun w4 bP=>ou bP (aZ Tryz.zeroValue3)<|fun b8 w6 eR=>bk eR (i:=0) O (bM O O (v:=I _) O O O (eR.blk (i:=0) O) ay)<|fun H9 cQ=>aa<|SR<|lP cS cQ 1 O O rfl<|V (af O)<|V (fA bU 8 O nY O)<|mI rfl<|mI rfl<|ct O (al0 _ _ h J (R:=([_,_,_,_,_,_,_,_,_,_]++R)) (cQ.pj [2,2,2,2])) (bz call156 O O O)<| ?_
 rintro _ Uj ⟨rfl,axr,axs,axt,axu,axv,W20,axw,axx,axy,axz,aae,dw⟩
 have gj:=Hp.lC (A:=[_,_,_,_]) (R:=([_,_,_,_,_,_,_,_,_,_]++R)) dw
 simp only[fH,dZ]at gj
 have iN:=gj.pk [4,4]
 refine aa<|bQ O (fun Hu=> ?_) (fun Hu=> ?_)
 .refine au<|lP cS iN 1 O O rfl<| ?_
  refine V (rP bC bC) ?_
  refine ct O (gV _ _ (.merge ((cs.length:Int)-1)) J _ (iN.pj [2,2,2,2,2,2,2,2,2,2,2,2])) (aK yd O O) ?_
  rintro _ w35 ⟨rfl,v37,m6⟩
  simp only[nE]at m6
  have zn:=m6.pk [12,12]
  refine aa<|p5 O ⟨rfl,axr,axs,axt,axu,axv,W20,axw,axx,axy,v37,[((iW 157 #[pt b3,pt b8]),.merge ((cs.length:Int)-1))],[a8.blk b3 (.cells #[pt n] 31 (0,0)),a8.blk b8 (.cells #[I ((cs.length:Int)-1)] 3 (0,0))]++axz,aae.mono (fun e he=>by rw[dg];exact bB _ he),(fun x hx=>by rw[fG.1 hx];exact⟨⟨_,_,rfl,aA,aA⟩,trivial⟩),eI _,Xi (s:=(NP.mk an aS ai aX ((o5 us)) qs sn cs sk wy wr)) h.ne ‹_=true›,(Hp.lC (A:=[_,_,_,_,_,_,_,_,_,_,_,_]) (B:=[_,_]) (R:=R) ((zn).pj [2,2,2,2,2,2,2,2,2,2,2,2,1]))⟩
 refine ak<|p5 O ⟨rfl,axr,axs,axt,axu,axv,W20,axw,axx,axy,vd,[],axz,aae,(fun x hx=>by cases hx),mo _,(by rw[abK aQ];exact iz.nil _),by rw[lU];exact(iN.sub (sQ (sQ sR)))⟩
theorem IL{b:Nat}{ql qi:Value}{cq:Option (Nat×Array Value)}{wl:List Int}{wi:List Bool}{ids:List Nat}{tl:List (Nat×Rl)}{f:Ct}{nk:Nat}{Zf R:List a8}(q:de)(hm:m<=100000)(RQ:aX.length=ai.length)(M7:us.length=ai.length)(n8:(bg cs).length=ai.length)(ON:ai.length<=1000)(hlg:lg.length<=500000000000)(X0:wl.length<=1000000)(wI:∀k:Nat,k<us.length->dB 3 (us.getD k cP)∈R/\(us.getD k cP).l.length<=1000/\∀i∈(us.getD k cP).l,0<=i/\i<wi.length)(hf:D3 nk f)(hnk:nk<=100000000000)(hql:0<=q.aS/\q.aS<an.length)(al3:q.code.length<=1000)(hqt:q.to.var<ai.length)(hqp:DH q=true->0<q.vars.length/\0<=wY q/\wY q<ai.length)(hvs:∀v∈q.vars,0<=v/\v<ai.length)(w:World)(hT:oq W0)(hlv:TH TX (Kz (Kw W0) R) ids tl an)(hZ:j5 (Ae fr) ids f tl Zf)(xR:CC (Kz (Kw W0) R) q)(h:vK FX n m cs vW vU cW cU W ul ts cn R)(hq:qO cq ql (wl.map I))(hH:Hp W0 w (nE n wr vL vt vv vy vu vq sn vW vU vT cn sk wy vd vm cW cU W ul ts an aS ai aX us qs lg tm ((wE b ql qi cq wl wi ((Zf++R)))))):Calls Tryz.prog 86 #[pt n,pt b,.agg (o7 q).toArray] w (jF fun u w'=>∃(r:LkO) (vd':Value) (RT:Value) (RU:Option (Nat×Array Value)) (new:List (Value×lK)) (Lb Z':List a8),mE (bg cs) us (an.getD q.aS.toNat oF).p.sh q ai aX wl wi wy=r/\u=B r.ok/\(∀x∈new,l9 NX n Lb x/\G7 x.2)/\new.length<=(bG (bg cs) q.to.var).length/\iz new (NP.mk an aS ai aX ((o5 us)) qs sn cs sk (r.wy) wr) (NP.mk an aS (r.ai) (r.aX) ((o5 us)) qs sn cs sk (r.wy) wr)/\j5 (Ae fr) ids (TI (an.getD q.aS.toNat oF).d r.ks f) tl Z'/\qO RU RT (r.wl.map I)/\Hp W0 w' (nE n wr vL vt vv vy vu vq sn vW vU vT cn sk (r.wy) (vd') vm cW cU W ul ts an aS (r.ai) (r.aX) us qs (lg++new) tm ((wE b (RT) qi (RU) (r.wl) (r.wi) ((Z'++(Lb++R))))))):=by
 have hlc:=hlv.at hql.1 hql.2
 obtain⟨f1,f2,f3,a1,a2,a3,i1,i2,i3⟩:=hlc.ops.one
 have hone:∀u∈[(an.getD q.aS.toNat oF).e,(an.getD q.aS.toNat oF).l,(an.getD q.aS.toNat oF).j].toArray,u.oneCell'=true:=by rw[i1,i2,i3];intro u hu;simp only[JG,cT,FW,AP]at hu;rcases hu with rfl|rfl|rfl<;>rfl
 have hvw:∀v∈q.vars,0<=v/\v<aX.length:=fun v hv=>by have:=hvs v hv;omega
 simp only[wE]at hH
 simp only[nE]at hH
 refine en func86 rfl rfl<|SR<|gX hH (v:= .agg _) rfl<|fun b3 w1 a7=>va (v:=B false) rfl<|aa<|DW (G:=Unit) a7 (6::(rg 11 20 [])) (fun(L:List a8) (_u:Unit)=>L) (fun(_u:Unit) s'=>(skQ (bg cs) q=false)) ?_ ?_
 .refine ah<|eu aN a7<|fun w4 bP=>AT 0 O bP (fun w hS=>cG (cs:=o7 _) iE O O O (bf (hS.blk (i:=0) O)))<|A1 1<|cC O aH O bP sR (mF _ _ (xR.mono (bP.kz (Le.refl _) (fun x hx=>(mT (mT (mT (mT (mT (mT (mT (mT (mT (mT (mT (mT (mT (mT (mT (mT (bB _ hx))))))))))))))))))))) (aq call131 O)<|fun w6 eR=>have zh7:=eR;AQ 2 O zh7 (mV (B _) O)<|Kh (dj:=13) O (fun h9=> ?_) (fun h9=> ?_)
  .refine BQ 3 O O (bR (c:=true) h9) eR (mV (Pn _ _) O)<|BQ 4 O O (bR (c:=true) h9) eR (af O)<|BQ 5 O O (bR (c:=true) h9) eR (fA bU 8 O nY O)<|BQ 6 O O (bR (c:=true) h9) eR (fA iE 12 O df O)<|AG 7 O O (bR (c:=true) h9) eR (fun w hS=>cB (xR.vars.mono (hS.kz (Le.refl _) (fun x hx=>(mT (mT (mT (mT (mT (mT (mT (mT (mT (mT (mT (mT (mT (mT (mT (mT (bB _ hx)))))))))))))))))))).sl bq O O (hS.cell (i:=0) O O))<|AG 8 O O (bR (c:=true) h9) eR (fun w hS=>ag (xR.vars.mono (hS.kz (Le.refl _) (fun x hx=>(mT (mT (mT (mT (mT (mT (mT (mT (mT (mT (mT (mT (mT (mT (mT (mT (bB _ hx)))))))))))))))))))).sl bq bp O O (by have:=hqp ‹DH _=true›;omega))<|AG 9 O O (bR (c:=true) h9) eR (fun w hS=>az bt O O ((xR.vars.mono (hS.kz (Le.refl _) (fun x hx=>(mT (mT (mT (mT (mT (mT (mT (mT (mT (mT (mT (mT (mT (mT (mT (mT (bB _ hx)))))))))))))))))))).sl.cell _ _ (ew (by have:=hqp ‹DH _=true›;omega))))<|BQ 11 O O (bR (c:=true) h9) eR (mV (Pn _ _) O)<|BQ 12 O O (bR (c:=true) h9) eR (af O)<|BQ 13 O O (bR (c:=true) h9) eR (fA bU 8 O nY O)<|BQ 14 O O (bR (c:=true) h9) eR (fA iE 2 O oX O)<|BQ 15 O O (bR (c:=true) h9) eR (fA mL 0 O bp O)<|AG 16 O O (bR (c:=true) h9) eR (fun w hS=>az bt O O (hS.cell (i:=0) O (v:=I _) O))<|A1 10<|cC O (A5 O (bR (c:=true) h9)) O eR sR (Eh _ h J (eR.blk (i:=1) O) (eR.xp (i:=2) O h.hW)) (aK DG O (show _=I (wY q)from O))<|fun Hi dN=>A1 17<|cC O (A5 O (bR (c:=true) h9)) O dN sR (Eh _ h J (dN.blk (i:=1) O) (dN.xp (i:=2) O h.hW)) (aK DG O O)<|fun Cx bY=>BQ 18 O O (bR (c:=true) h9) bY (bO O O)<|AQ 19 O bY (gC (bR (c:=true) h9) (v:=B _) O)<|AD<|aF O (fun Mj=> ?_) (fun Mj=> ?_)
   .refine SR<|va (v:=B true) rfl<|aa<|aj<|ja (v:=B true) O O ⟨⟨true,ai,aX,wl,wi,wy,[]⟩,vd,ql,cq,[],[],Zf,?_,rfl,?_,?_,?_,hZ,?_,(by rw[lU];exact(bY.sub (sQ sR)))⟩
    .exact aR (by simp[skQ, *])
    .exact fun x hx=>by cases hx
    .exact mo _
    .exact iz.nil _
    exact hq
   refine ak ?_
   refine⟨((Fr.refl _ _)).u4.u4.u4.u4.u4,(),bY,?_⟩
   (simp[skQ, *];done)
  refine AK 3 O O (bR (c:=false) h9) eR<|AK 4 O O (bR (c:=false) h9) eR<|AK 5 O O (bR (c:=false) h9) eR<|AK 6 O O (bR (c:=false) h9) eR<|AK 7 O O (bR (c:=false) h9) eR<|AK 8 O O (bR (c:=false) h9) eR<|AK 9 O O (bR (c:=false) h9) eR<|AK 10 O O (bR (c:=false) h9) eR<|AK 11 O O (bR (c:=false) h9) eR<|AK 12 O O (bR (c:=false) h9) eR<|AK 13 O O (bR (c:=false) h9) eR<|AK 14 O O (bR (c:=false) h9) eR<|AK 15 O O (bR (c:=false) h9) eR<|AK 16 O O (bR (c:=false) h9) eR<|AK 17 O O (bR (c:=false) h9) eR<|AK 18 O O (bR (c:=false) h9) eR<|AQ 19 O zh7 (dV (bR (c:=false) h9) (v:=B false) O)<|AD<|dm rfl<|ak<| ?_
  refine⟨((Fr.refl _ _)).u4.u4.u4.u4.u4,(),eR,?_⟩
  (simp[skQ, *];done)
 rintro _u acg Ml oJ cF Eu
 obtain⟨aiq,vR,Dd⟩:=oJ.w3 0 1 5
 refine ah<|fC (z:=⟨none,_,_,_,_,none⟩) aN O aN cF sR<|fun OY dH=>have pN:=dH;AQ 0 O pN (run_move aiq)<|AQ 1 O pN (af O)<|AQ 2 O pN (fA bU 1 O sL O)<|tV 3 O pN nR 1 O O rfl<|AQ 4 O pN (fA iE 0 O bp Dd)<|tI 5 O pN bt 0 O O rfl<|AT 6 O pN (fun w hS=>ag (hS.sl (i:=5) O) nR sizeOf119 O O J)<|AQ 7 O pN (fA AJ 2 O sizeOf117 O)<|AT 8 O pN (fun w hS=>oy (dv:=oF) (off:=2) (cs:=[_,_,_]) qg (hS.sl (i:=5) O) pV O O O J (aeW O))<|A1 9<|cN O aH O dH sR (f:=fun b=> .pointer (some ⟨b,0,none⟩)) (aZ T5)<|fun b21 Ub cJ=>AD<|bk cJ (i:=0) O (dX O O O hone (cJ.blk (i:=0) O) O)<|fun Ug eU=>aa<|DW (G:=(Nat)×(List a8)) eU (8::9::(rg 40 12 [])) (fun(L:List a8) (⟨q8,Z1⟩:(Nat)×(List a8))=> .blk q8 (.cells (Value.agg (iU (lkE (an.getD q.aS.toNat oF).p.sh q ai))).cells 37 (0,0))::(L.take 17++(Z1++R))) (fun(⟨q8,Z1⟩:(Nat)×(List a8)) s'=>(s' 8= .pointer (some ⟨q8,0,none⟩))/\(j5 (Ae fr) ids (Wr.tick .e (an.getD q.aS.toNat oF).d f) tl Z1)) ?_ ?_
 .refine ia aN eU (sP (sP (sP (sP (sP (sP (sP (sP (sP (sP (sP (sP (sP (sP (sP (sP (sP (sA sR))))))))))))))))))<|fun w24 mc=>have UF:=mc.sub (sP (sP (sP (sP (sP (sP (sP (sP (sP (sP (sP (sP (sP (sP (sP (sP (sP (sA sR))))))))))))))))));AQ 0 O UF (fA pV 0 O sizeOf114 O)<|tV 1 O UF PJ 0 O O rfl<|AQ 2 O UF (fA iE 1 O AS Dd)<|AT 3 O UF (fun w hS=>cB (xR.code.mono (hS.kz (Le.refl _) (fun x hx=>(mT (mT (mT (mT (mT (mT (mT (mT (mT (mT (mT (mT (mT (mT (mT (mT (mT hx)))))))))))))))))))).sl ir O O (hS.cell (i:=1) O O))<|AQ 4 O UF (run_move aiq)<|AQ 5 O UF (af O)<|AQ 6 O UF (fA bU 3 O mq O)<|tV 7 O UF dL 2 O O rfl<|ic 8 12 aN ?_ ?_
  .obtain⟨aMp,aDW,aDX,axA,axB⟩:=ah0 W0 ids tl hT _ _ _ _ al3 _ _ f Zf ([_,_,_,_,_,_,_,_,_,_,_,_,_,_,_,_,_]++R) _ _ _ _ (hlc.ops.mono (Le.zz (fun x hx=>bB _ hx))) hlc.DP hZ hf Gh (fun Z' w' h0=>by have h':Hp W0 w' (_::_::_::_::_::_::_::_::_::_::_::_::_::_::_::_::_::(Z'++R)):=Hp.nU (A:=[_,_,_,_,_,_,_,_,_,_,_,_,_,_,_,_,_]) h0;exact(xR.code.mono (h'.kz (Le.refl _) (fun x hx=>(mT (mT (mT (mT (mT (mT (mT (mT (mT (mT (mT (mT (mT (mT (mT (mT (mT (bB _ hx))))))))))))))))))))).sl) (fun Z' w' h0=>by have h':Hp W0 w' (_::_::_::_::_::_::_::_::_::_::_::_::_::_::_::_::_::(Z'++R)):=Hp.nU (A:=[_,_,_,_,_,_,_,_,_,_,_,_,_,_,_,_,_]) h0;exact(h'.sl (i:=8) O)) (Hp.rC (A:=[_,_,_,_,_,_,_,_,_,_,_,_,_,_,_,_,_]) (Zf:=Zf) (R:=R) mc)
   refine wF O aH O axB (iw axA (cs:=aDW) aDX O O) (fun u w' ⟨_,Z',_,h⟩=>Hp.sub (L:=_::_::_::_::_::_::_::_::_::_::_::_::_::_::_::_::_::(Z'++R)) (Hp.nU (A:=[_,_,_,_,_,_,_,_,_,_,_,_,_,_,_,_,_]) h) (sP (sP (sP (sP (sP (sP (sP (sP (sP (sP (sP (sP (sP (sP (sP (sP (sP (sA sR))))))))))))))))))) ?_
   rintro x38 w33 ⟨axC,Z36,aDY,h34⟩
   have xH:Hp _ w33 (_::_::_::_::_::_::_::_::_::_::_::_::_::_::_::_::_::(Z36++R)):=Hp.nU (A:=[_,_,_,_,_,_,_,_,_,_,_,_,_,_,_,_,_]) h34
   rw[hlc.sh]at axC
   subst axC
   have arV:=xH.sub (sP (sP (sP (sP (sP (sP (sP (sP (sP (sP (sP (sP (sP (sP (sP (sP (sP (sA sR))))))))))))))))))
   refine AQ 9 O arV (run_move bC) ?_
   refine AQ 10 O arV (bD O (v:= .agg _) O)<|AQ 11 O arV (bD O (v:=B _) O)<|A1 12<|cN O aH O xH (sP (sP (sP (sP (sP (sP (sP (sP (sP (sP (sP (sP (sP (sP (sP (sP (sP (sA sR)))))))))))))))))) (f:=fun b=> .pointer (some ⟨b,0,none⟩)) (aZ js)<|fun b44 w42 me=>A1 13<|eK O aH me (j:=0) O (sQ (sP (sP (sP (sP (sP (sP (sP (sP (sP (sP (sP (sP (sP (sP (sP (sP (sP (sA sR))))))))))))))))))) (ef O O O (me.blk (i:=0) O))<|fun w49 ey=>AQ 14 O (ey.sub (sQ (sP (sP (sP (sP (sP (sP (sP (sP (sP (sP (sP (sP (sP (sP (sP (sP (sP (sA sR)))))))))))))))))))) (aV (B _) O)<|AD<| ?_
   refine⟨((Fr.refl _ _)).u4.u4.u4.u1.u1,(b44,Z36),(Hp.conv ey aM),rfl,?_⟩
   exact aDY
  refine cN O aH O mc (sP (sP (sP (sP (sP (sP (sP (sP (sP (sP (sP (sP (sP (sP (sP (sP (sP (sA sR)))))))))))))))))) (f:=fun b=> .pointer (some ⟨b,0,none⟩)) (aZ js)<|fun b53 w51 air=>A1 8<| ?_
  obtain⟨aMs,aDZ,aD0,axD,axE⟩:=ah0 W0 ids tl hT _ _ _ _ al3 _ _ f Zf ([_,_,_,_,_,_,_,_,_,_,_,_,_,_,_,_,_,_]++R) _ _ _ _ (hlc.ops.mono (Le.zz (fun x hx=>bB _ hx))) hlc.DP hZ hf Gh (fun Z' w' h0=>by have h':Hp W0 w' (_::_::_::_::_::_::_::_::_::_::_::_::_::_::_::_::_::_::(Z'++R)):=Hp.nU (A:=[_,_,_,_,_,_,_,_,_,_,_,_,_,_,_,_,_,_]) h0;exact(xR.code.mono (h'.kz (Le.refl _) (fun x hx=>(mT (mT (mT (mT (mT (mT (mT (mT (mT (mT (mT (mT (mT (mT (mT (mT (mT (mT (bB _ hx)))))))))))))))))))))).sl) (fun Z' w' h0=>by have h':Hp W0 w' (_::_::_::_::_::_::_::_::_::_::_::_::_::_::_::_::_::_::(Z'++R)):=Hp.nU (A:=[_,_,_,_,_,_,_,_,_,_,_,_,_,_,_,_,_,_]) h0;exact(h'.sl (i:=9) O)) (Hp.rC (A:=[_,_,_,_,_,_,_,_,_,_,_,_,_,_,_,_,_,_]) (Zf:=Zf) (R:=R) air)
  refine wF O aH O axE (iw axD (cs:=aDZ) aD0 O O) (fun u w' ⟨_,Z',_,h⟩=>Hp.sub (L:=_::_::_::_::_::_::_::_::_::_::_::_::_::_::_::_::_::_::(Z'++R)) (Hp.nU (A:=[_,_,_,_,_,_,_,_,_,_,_,_,_,_,_,_,_,_]) h) (sQ (sP (sP (sP (sP (sP (sP (sP (sP (sP (sP (sP (sP (sP (sP (sP (sP (sP (sA sR)))))))))))))))))))) ?_
  rintro x66 w61 ⟨axF,Z64,aD1,h62⟩
  have pc:Hp _ w61 (_::_::_::_::_::_::_::_::_::_::_::_::_::_::_::_::_::_::(Z64++R)):=Hp.nU (A:=[_,_,_,_,_,_,_,_,_,_,_,_,_,_,_,_,_,_]) h62
  rw[hlc.sh]at axF
  subst axF
  have arW:=pc.sub (sQ (sP (sP (sP (sP (sP (sP (sP (sP (sP (sP (sP (sP (sP (sP (sP (sP (sP (sA sR)))))))))))))))))))
  refine AQ 9 O arW (run_move bC) ?_
  refine AQ 10 O arW (bD O (v:= .agg _) O)<|AQ 11 O arW (bD O (v:=B _) O)<|A1 13<|eK O aH pc (j:=0) O (sQ (sP (sP (sP (sP (sP (sP (sP (sP (sP (sP (sP (sP (sP (sP (sP (sP (sP (sA sR))))))))))))))))))) (ef O O O (pc.blk (i:=0) O))<|fun w74 CG=>AQ 14 O (CG.sub (sQ (sP (sP (sP (sP (sP (sP (sP (sP (sP (sP (sP (sP (sP (sP (sP (sP (sP (sA sR)))))))))))))))))))) (aV (B _) O)<|AD<| ?_
  refine⟨((Fr.refl _ _)).u4.u4.u4.u1.u1,(b53,Z64),(Hp.conv CG aM),rfl,?_⟩
  exact aD1
 rintro⟨q8,Z1⟩ aMt w76 axG qF ⟨ais,ND⟩
 simp only[FM,we,fH,dZ]at qF
 have ait:=axG.w1 7
 obtain⟨Pe,axH,MR⟩:=axG.t3 0 aiq 1 vR 5 Dd
 refine ah<|SR<|V (fA iE 2 O oX MR)<|V (fA mL 0 O bp O)<|lI bt qF 2 O O rfl<|V (aL O O)<|aa<|aF O (fun h78=> ?_) (fun h78=> ?_)
 .refine ah<|SR<|V (fA pV 1 O sizeOf65 ait)<|lV JS qF 1 O O rfl<|V (dR cA O O ais (qF.blk (i:=0) O))<|V (fA iE 2 O oX MR)<|V (fA mL 1 O gN O)<|V (ix (sub:=sC _) cA O O O (qF.blk (i:=2) O) O)<| ?_
  obtain⟨aMv,aD2,aD3,axI,axJ⟩:=ah1 W0 ids tl hT _ _ _ _ (Wr.tick .e (an.getD q.aS.toNat oF).d f) Z1 ([_,_,_,_,_,_,_,_,_,_,_,_,_,_,_,_,_,_]++R) _ _ _ _ (hlc.ops.mono (Le.zz (fun x hx=>bB _ hx))) hlc.DP ND (hf.Y8 _) Gh (Hp.rC (A:=[_,_,_,_,_,_,_,_,_,_,_,_,_,_,_,_,_,_]) (Zf:=Z1) (R:=R) qF)
  refine ct O axJ (iw axI (cs:=aD2) aD3 O (kZ (b:=Value.agg (sC q.to.c).toArray) O (aJ Value.agg (gR q.to.c).symm))) ?_
  rintro x89 w84 ⟨aD4,Z87,axK,h85⟩
  have vb:Hp _ w84 (_::_::_::_::_::_::_::_::_::_::_::_::_::_::_::_::_::_::(Z87++R)):=Hp.nU (A:=[_,_,_,_,_,_,_,_,_,_,_,_,_,_,_,_,_,_]) h85
  subst aD4
  refine V (bK O)<|aa<|bQ O (fun h93=> ?_) (fun h93=> ?_)
  .refine SR<|aG Pe<|aG Pe<|V (cG (cs:=o7 _) iE O O MR (bf (vb.blk (i:=2) O)))<|aE O vb (vY _ (hvw) _ (vb.blk (i:=3) O) (vb.sl (i:=10) O) (xR.mono (vb.kz (Le.refl _) (fun x hx=>(mT (mT (mT (mT (mT (mT (mT (mT (mT (mT (mT (mT (mT (mT (mT (mT (mT (mT (bB _ hx))))))))))))))))))))))) (aK call132 O O)<|fun w94 Rv=>V (af O)<|V (fA bU 13 O cX O)<|bk Rv (i:=3) O (bM O O (v:=U _) O O O (Rv.blk (i:=3) O) aA)<|fun w96 Rw=> ?_
   simp only[ij,kf,mA,gA,Nat.reduceAdd]at Rw
   refine aa<|SR<|va (v:=B false) rfl<|aa<|aj<|ja (v:=B false) O O ⟨⟨false,ai,aX,wl,wi,orW q.why aX q.vars,[.e,.l]⟩,vd,ql,cq,[],[],Z87,?_,rfl,?_,?_,?_,axK,?_,(by rw[lU];exact(Rw.sub (sQ (sQ (sQ sR)))))⟩
   .exact(aP P3).trans ((aR aQ).trans (aP (by simpa using‹(!cK _ _)=true›)))
   .exact fun x hx=>by cases hx
   .exact mo _
   .exact iz.nil _
   exact hq
  refine ak<|SR<|va (v:=B true) rfl<|aa<|aj<|ja (v:=B true) O O ⟨⟨true,ai,aX,wl,wi,wy,[.e,.l]⟩,vd,ql,cq,[],[],Z87,?_,rfl,?_,?_,?_,axK,?_,(by rw[lU];exact(vb.sub (sQ (sQ (sQ sR)))))⟩
  .exact(aP P3).trans ((aR aQ).trans (aR (by simpa using‹(!cK _ _)=false›)))
  .exact fun x hx=>by cases hx
  .exact mo _
  .exact iz.nil _
  exact hq
 refine ak<|ah<|fC (z:=⟨none,_,_,_,_,none⟩) aN O aN qF sR<|fun w98 acw=>have Rx:=acw;AQ 0 O Rx (run_move Pe)<|AQ 1 O Rx (af O)<|AQ 2 O Rx (fA bU 3 O mq O)<|tV 3 O Rx dL 3 O O rfl<|AQ 4 O Rx (fA iE 2 O oX MR)<|AQ 5 O Rx (fA mL 0 O bp O)<|tI 6 O Rx bt 2 O O rfl<|AT 7 O Rx (fun w hS=>ag (hS.sl (i:=9) O) dL gN O O J)<|AT 8 O Rx (fun w hS=>ld (hS.sl (i:=9) O) cA O O O J)<|A1 9<|cN O aH O acw sR (f:=fun b=> .pointer (some ⟨b,0,none⟩)) (aZ js)<|fun aMA arE Dn=>AD<|bk Dn (i:=0) O (ef O O O (Dn.blk (i:=0) O))<|fun arG uP=>aa<|ah<|SR<|V (fA pV 1 O sizeOf65 ait)<|lV JS uP 2 O O rfl<|V (dR cA O O ais (uP.blk (i:=1) O))<|V (dR cA O O O (uP.blk (i:=0) O))<| ?_
 obtain⟨aIn,axL,axM,arX,arY⟩:=ah1 W0 ids tl hT _ _ _ _ (Wr.tick .e (an.getD q.aS.toNat oF).d f) Z1 ([_,_,_,_,_,_,_,_,_,_,_,_,_,_,_,_,_,_,_]++R) _ _ _ _ (hlc.ops.mono (Le.zz (fun x hx=>bB _ hx))) hlc.DP ND (hf.Y8 _) Gh (Hp.rC (A:=[_,_,_,_,_,_,_,_,_,_,_,_,_,_,_,_,_,_,_]) (Zf:=Z1) (R:=R) uP)
 refine ct O arY (iw arX (cs:=axL) axM O O) ?_
 rintro aMB axN ⟨axO,al4,aoa,arZ⟩
 have Dk:Hp _ axN (_::_::_::_::_::_::_::_::_::_::_::_::_::_::_::_::_::_::_::(al4++R)):=Hp.nU (A:=[_,_,_,_,_,_,_,_,_,_,_,_,_,_,_,_,_,_,_]) arZ
 subst axO
 refine V (bK O)<|aa<|bQ O (fun ar0=> ?_) (fun ar0=> ?_)
 .refine fC (z:=⟨some _,_,_,_,_,none⟩) aN O aN Dk (sP (sP (sP (sP (sP (sP (sP (sP (sP (sP (sP (sP (sP (sP (sP (sP (sP (sP (sP (sA sR))))))))))))))))))))<|fun aMC Ij=>have pH:=Ij.sub (sP (sP (sP (sP (sP (sP (sP (sP (sP (sP (sP (sP (sP (sP (sP (sP (sP (sP (sP (sA sR))))))))))))))))))));AQ 0 O pH (run_move Pe)<|AQ 1 O pH (run_move axH)<|AQ 2 O pH (fA iE 2 O oX MR)<|AQ 3 O pH (fA mL 0 O bp O)<|tI 4 O pH bt 3 O O rfl<|AQ 5 O pH (fA pV 2 O sizeOf115 ait)<|tV 6 O pH JL 2 O O rfl<|AT 7 O pH (fun w hS=>dR cA O O O (hS.blk (i:=0) O))<|AT 8 O pH (fun w hS=>dR cA O O ais (hS.blk (i:=1) O))<|AQ 10 O pH (run_move Pe)<|AQ 11 O pH (af O)<|AQ 12 O pH (fA bU 4 O iO O)<|tV 13 O pH cR 4 O O rfl<|AQ 14 O pH (fA iE 2 O oX MR)<|AQ 15 O pH (fA mL 0 O bp O)<|tI 16 O pH bt 3 O O rfl<|AT 17 O pH (fun w hS=>ag (hS.sl (i:=11) O) cR cX O O J)<|AT 18 O pH (fun w hS=>az dU O O ((hS.sl (i:=11) O).cell _ _ (kR (dv:=0#64) J)))<|AQ 19 O pH (run_move Pe)<|AT 20 O pH (fun w hS=>cG (cs:=o7 _) iE O O MR (bf (hS.blk (i:=3) O)))<|A1 9<| ?_
  obtain⟨aIo,axP,axQ,ar1,ar2⟩:=ah2 W0 ids tl hT _ _ _ _ (Wr.tick .l (an.getD q.aS.toNat oF).d (Wr.tick .e (an.getD q.aS.toNat oF).d f)) al4 ([_,_,_,_,_,_,_,_,_,_,_,_,_,_,_,_,_,_,_]++R) _ _ _ _ (hlc.ops.mono (Le.zz (fun x hx=>bB _ hx))) hlc.DP aoa ((hf.Y8 _).Y8 _) Gh (Hp.rC (A:=[_,_,_,_,_,_,_,_,_,_,_,_,_,_,_,_,_,_,_]) (Zf:=al4) (R:=R) Ij)
  refine wF O aH O ar2 (iw ar1 (cs:=axP) axQ O O) (fun u w' ⟨_,Z',_,h⟩=>Hp.sub (L:=_::_::_::_::_::_::_::_::_::_::_::_::_::_::_::_::_::_::_::(Z'++R)) (Hp.nU (A:=[_,_,_,_,_,_,_,_,_,_,_,_,_,_,_,_,_,_,_]) h) (sP (sP (sP (sP (sP (sP (sP (sP (sP (sP (sP (sP (sP (sP (sP (sP (sP (sP (sP (sA sR))))))))))))))))))))) ?_
  rintro aMD ar3 ⟨aob,ar4,axR,aD6⟩
  have aaf:Hp _ ar3 (_::_::_::_::_::_::_::_::_::_::_::_::_::_::_::_::_::_::_::(ar4++R)):=Hp.nU (A:=[_,_,_,_,_,_,_,_,_,_,_,_,_,_,_,_,_,_,_]) aD6
  rw[anh hlc.DP hlc.sh]at aob
  subst aob
  refine A1 21<|cC O aH O aaf (sP (sP (sP (sP (sP (sP (sP (sP (sP (sP (sP (sP (sP (sP (sP (sP (sP (sP (sP (sA sR)))))))))))))))))))) (vY _ (hvw) _ (aaf.blk (i:=4) O) (aaf.sl (i:=11) O) (xR.mono (aaf.kz (Le.refl _) (fun x hx=>(mT (mT (mT (mT (mT (mT (mT (mT (mT (mT (mT (mT (mT (mT (mT (mT (mT (mT (mT (bB _ hx)))))))))))))))))))))))) (aK call132 O O)<|fun aME aoc=>AQ 22 O (aoc.sub (sP (sP (sP (sP (sP (sP (sP (sP (sP (sP (sP (sP (sP (sP (sP (sP (sP (sP (sP (sA sR))))))))))))))))))))) (jj O O)<|AD<|ct O (zS _ _ _ J J J J J J J (fun k hk=>⟨by(repeat apply fq);exact bB _ (wI k hk).1,(wI k hk).2⟩) _ (h.mono fun e he=>by(repeat apply fq);exact bB _ he) hq (aoc.pj [4,4,4,4,4,4,4,4,4,4,4,4,4,4,4])) (q5 call130 O O O O O)<| ?_
  rintro _ aD7 ⟨rfl,axS,aD8,aD9,axT,aod,axU,axV,axW,axX,axY⟩
  simp only[nE,wE]at axY
  have aoe:=Hp.lC (A:=[_,_,_,_,_,_,_,_,_,_,_,_,_,_,_]) (R:=[_,_,_,_]) axY
  simp only[fH,dZ]at aoe
  have axZ:=aoe.pk [15,15,15,15]
  refine aa<|SR<|va (v:=B true) rfl<|aa<|aj<|ja (v:=B true) O O ⟨lkR (bg cs) us (an.getD q.aS.toNat oF).p.sh q ai aX wl wi wy,axS,aD8,aD9,axT,aod,ar4,?_,rfl,?_,?_,?_,axR,?_,(Hp.lC (A:=[_,_,_,_,_,_,_,_,_,_,_,_,_,_,_]) (B:=aod) (R:=ar4) (axZ.sub (sQ (sQ (sQ (sQ sR))))))⟩
  .exact(aP P3).trans ((aP aQ).trans (aP (by simpa using‹(!cK _ _)=true›)))
  .exact axU
  .exact axV
  .exact axW
  exact axX
 refine ak<|SR<|va (v:=B true) rfl<|aa<|aj<|ja (v:=B true) O O ⟨⟨true,ai,aX,wl,wi,wy,[.e,.l]⟩,vd,ql,cq,[],[],al4,?_,rfl,?_,?_,?_,aoa,?_,(by rw[lU];exact(Dk.sub (sQ (sQ (sQ (sQ sR))))))⟩
 .exact(aP P3).trans ((aP aQ).trans (aR (by simpa using‹(!cK _ _)=false›)))
 .exact fun x hx=>by cases hx
 .exact mo _
 .exact iz.nil _
 exact hq
end
end Go.Proofs.YtlhjdflgjbkpmaaGreatDoor.W

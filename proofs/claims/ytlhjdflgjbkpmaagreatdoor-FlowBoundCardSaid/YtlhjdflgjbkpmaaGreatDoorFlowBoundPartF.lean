/- Part 6 of the proof of FlowBound: its plain laws and the walks of its functions. -/
import Derived.Test.YtlhjdflgjbkpmaaGreatDoorFlowBoundPartE
set_option linter.all false
namespace Go.Proofs.YtlhjdflgjbkpmaaGreatDoor.W
section
open Go Go.RowKit Go.Proofs.YtlhjdflgjbkpmaaGreatDoor.E Go.Proofs.YtlhjdflgjbkpmaaGreatDoor.M
set_option maxRecDepth 100000
open Go.Proofs.Tryz
variable{fr:List a7}
variable{W0 w:World}{n m:Nat}{cs:List (List Nat)}{wr:Value}{vL:Value}{vt:Value}{vv:Value}{vy:Value}{vu:Value}{vq:Value}{sn:Int}{vW:Value}{vU:Value}{vT:Value}{cn:Int}{sk:Bool}{wy:BitVec 64}{vd:Value}{vm:Value}{cW:Option (Nat×Array Value)}{cU:Option (Nat×Array Value)}{W:List (BitVec 64)}{ul:List (Value×jD)}{ts:List Int}{au:List pg}{aX:List Int}{aj:List El}{a6:List (BitVec 64)}{us:List jM}{qs:List dw}{lg:List (Value×lU)}{tm:List Int}{L:List a7}
set_option maxHeartbeats 4000000 in
theorem DX{b:Nat}{ql qi:Value}{cq:Option (Nat×Array Value)}{wl:List Int}{wi:List Bool}{ids:List Nat}{tl:List (Nat×Rl)}{f:Ct}{nk:Nat}{Zf R:List a7}(hm:m+aj.length<=100000)(TG:a6.length=aj.length)(Oo:us.length=aj.length)(kD:(bq cs).length=aj.length)(Qi:aj.length<=1000)(hlg:lg.length<=450000000000)(hwq:uw wl wi)(hwi:wi.length<=1000)(xA:∀k:Nat,k<us.length->dI 3 (us.getD k cY)∈R/\(us.getD k cY).l.length<=1000/\∀i∈(us.getD k cY).l,0<=i/\i<wi.length)(hf:Fe nk f)(hnk:nk<=100000000000)(WS:0<=sn/\sn<=qs.length)(hqn:qs.length<=1000)(hpl:Vl aj.length qs)(hlt:aX.length=aj.length)(hlr:∀k:Nat,k<aX.length->0<=aX.getD k 0/\aX.getD k 0<au.length)(w:World)(hT:oG W0)(hlv:Vs TX (Kz (Kw W0) R) ids tl au)(hZ:kp (Ba fr) ids f tl Zf)(I7:Zb (Kz (Kw W0) R) qs)(h:wN FX n m cs vW vU cW cU W ul ts cn R)(hq:qO cq ql (wl.map I))(hH:Hp W0 w (nE n wr vL vt vv vy vu vq sn vW vU vT cn sk wy vd vm cW cU W ul ts au aX aj a6 us qs lg tm ((wE b ql qi cq wl wi ((Zf++R)))))):Calls Tryz.prog 84 #[pt n,pt b] w (jj fun u w'=>∃(r:CoO) (N2 N3 WX:Value) (QH QI:Option (Nat×Array Value)) (W':List (BitVec 64)) (yA:List (Value×jD)) (ts':List Int) (QJ:Int) (vd':Value) (TK:Value) (TL:Option (Nat×Array Value)) (new:List (Value×lU)) (Lb Z':List a7) (f':Ct),sj cs us au aX qs sn aj.length ⟨aj,a6,wl,wi⟩=r/\u= .tuple #[]/\wN FX n (m+aj.length) r.cs N2 N3 QH QI W' yA ts' QJ (Lb++R)/\(∀x∈new,mJ NX n Lb x/\II x.2)/\new.length<=1001*aj.length/\iD new (NP.mk au aX aj a6 ((pO us)) qs sn cs sk wy wr) (NP.mk au aX (r.s.aj) (r.s.a6) ((pO us)) qs sn (r.cs) sk wy wr)/\kp (Ba fr) ids f' tl Z'/\pn f f' 0 0 r.j/\qO TL TK (r.s.wl.map I)/\Hp W0 w' (nE n wr vL vt vv vy vu vq sn (N2) (N3) (WX) (QJ) sk wy (vd') vm (QH) (QI) (W') (yA) (ts') au aX (r.s.aj) (r.s.a6) us qs (lg++new) tm ((wE b (TK) qi (TL) (r.s.wl) (r.s.wi) ((Z'++(Lb++R))))))):=by
 simp only[wE]at hH
 simp only[nE]at hH
 have aPn:=hwq.len
 refine en func84 rfl rfl<|ag<|SR<|aE (v:=Pn _ _) rfl<|aG O hH (I6 J _ (hH.blk (i:=0) O) (hH.sl (i:=9) O) (I7.mono (hH.kz (Le.refl _) (fun x hx=>(mT (mT (mT (mT (mT (mT (mT (mT (mT (mT (mT (mT (mT (mT (mT (bG _ hx)))))))))))))))))))) (an call122 O)<|fun w1 aZ=>V (bO O)<|aa<|bW O (fun h5=> ?_) (fun h5=> ?_)
 .refine ai<|pK O ⟨⟨cs,⟨aj,a6,wl,wi⟩,0⟩,vW,vU,vT,cW,cU,W,ul,ts,cn,vd,ql,cq,[],[],Zf,f,?_,rfl,?_,?_,?_,?_,?_,?_,?_,(by rw[lY];exact(aZ))⟩
  .exact aR jY
  .exact h.more J
  .exact fun x hx=>by cases hx
  .exact mW _
  .exact iD.nil _
  .exact hZ
  .exact pn.refl f
  exact hq
 refine ak<|SR<|aE (v:=Pn _ _) rfl<|V (af O)<|V (fA cw 8 O oL O)<|aG O aZ (ab5 h J (aZ.blk (i:=0) O) (aZ.ye (i:=1) O h.hW)) (an call123 O)<|fun w6 eN=>aI rfl<|aa<|ag<|SR<|aE (v:=Pn _ _) rfl<|Yy O eN (I8 (Kw W0) J J (hpl) _ (eN.blk (i:=0) O) (eN.sl (i:=6) O) (eN.sl (i:=9) O) (I7.mono (eN.kz (Le.refl _) (fun x hx=>(mT (mT (mT (mT (mT (mT (mT (mT (mT (mT (mT (mT (mT (mT (mT (bG _ hx)))))))))))))))))))) (an call125 O)<|fun v10 FK Z13 cJ aGz=>have fp:Hp _ FK (_::_::_::_::_::_::_::_::_::_::_::_::_::_::_::(Z13++(Zf++R))):=cJ.Jo (L:=[_,_,_,_,_,_,_,_,_,_,_,_,_,_,_]) (L':=(Zf++R));?_
 obtain⟨aey,aAd,aGA⟩:=aGz
 have hgl:aey.length=aj.length:=by have:=aJ List.length aAd;rw[gd,Fk]at this;exact this
 refine B3 O fp (aeu _ aey J _ (aGA.mono (fp.kz (Le.refl _) (fun x hx=>(mT (mT (mT (mT (mT (mT (mT (mT (mT (mT (mT (mT (mT (mT (mT (dy _ hx)))))))))))))))))))) (an call124 O)<|fun v21 VV cS=>V (aA (cS.sl (i:=0) O) O bz O)<|aE (v:=I 0) rfl<|aa<|ay<| ?_
 obtain⟨Y,hY⟩:∃Y,Y=Z13++Zf:=⟨_,rfl⟩
 have dm:=cS
 rw[<-dG Z13 Zf R,<-hY]at dm
 have hks:oV (pO aey)=(oV (cz aj.length qs)):=by rw[aAd]
 have hkl:(oV (pO aey)).length=aj.length:=by rw[amZ,gd];exact hgl
 refine bk (G:=Int×Value×Value×Value×(Option (Nat×Array Value))×(Option (Nat×Array Value))×(List (BitVec 64))×(List (Value×jD))×(List Int)×Int×Value×(List (Value×lU))×(List a7)×(List a7)) (fun⟨k,vW1,vU1,vT1,cW1,cU1,W1,lT,ts1,cn1,Wu,new,Lb,Z1⟩ s' w'=>(Fr (5::6::(rg 24 10 [])) _ s')/\(Hp W0 w' (.row v21 3 1 aey.length ((oV (pO aey)).map I):: .blk n (.cells #[wr,vL,vt,vv,vy,vu,vq,I sn,vW1,vU1,vT1,I cn1,B sk,U wy,Wu,vm] 111 (0,0))::cE cW1 vW1 35 (W1.map U)::cE cU1 vU1 1 (lT.map Prod.fst)::jG I vT1 3 ts1::vh WT 13 vL 119 au::jG I vt 3 aX::vh s8 8 vv 37 aj::jG U vy 35 a6::jG jM.v vu 99 us::vh pQ 13 vq 128 qs::jG Prod.fst Wu 1 (lg++new)::jG I vm 3 tm::_::_::_::Z1))/\(s' 24=I k)/\(0<=k)/\(k<=aj.length)/\(Z1=Y++(Lb++R))/\(wN FX n (m+k.toNat) ((sC cs (oV (cz aj.length qs)) k.toNat)) vW1 vU1 cW1 cU1 W1 lT ts1 cn1 (Lb++R))/\(∀x∈new,mJ NX n Lb x/\II x.2)/\(new.length<=k.toNat)/\(iD new (NP.mk au aX aj a6 ((pO us)) qs sn cs sk wy wr) (NP.mk au aX aj a6 ((pO us)) qs sn ((sC cs (oV (cz aj.length qs)) k.toNat)) sk wy wr))) (fun⟨k,vW1,vU1,vT1,cW1,cU1,W1,lT,ts1,cn1,Wu,new,Lb,Z1⟩=>(aj.length-k).toNat) ((0,vW,vU,vT,cW,cU,W,ul,ts,cn,vd,[],[],(Y++([]++R)))) ⟨Fr.refl _ _,(by rw[lY];exact dm),rfl,J,J,rfl,h.more J,(fun x hx=>by cases hx),mW _,iD.nil _⟩ ?_
 rintro⟨k,vW1,vU1,vT1,cW1,cU1,W1,lT,ts1,cn1,Wu,new,Lb,Z1⟩ aEP w23 ⟨aen,eO,Tm,h0,hk,hz,hfo,WY,hnl,hbk⟩
 obtain⟨Ww,QB,aAe,auu,auv⟩:=aen.w5 0 1 4 22 23
 subst hz
 refine SR<|V (aM Tm auv)<|aa<|ag<|aD O (fun GK=> ?_) (fun GK=> ?_)
 .refine ak<|ag<|ay<|SR<|aE Tm<|V (ah (eO.sl (i:=0) O) bz a8 auu Tm J)<|V (aC bf O O ((eO.sl (i:=0) O).cell _ _ (eG J)))<|aI rfl<|aI rfl<|aa<|aq<|aE Ww<|mI rfl<|mI rfl<|bY O (Jb _ _ J EQ _ hfo (R:=[_,_,_,_]++Y) (eO.pj [1,1,1,1,1,1,1,1,1,1,1,1])) (bB call126 O O O)<| ?_
  rintro _ w44 ⟨rfl,aGB,aGC,aGD,aGE,aGF,W33,atW,aGG,aGH,aGI,aGJ,aAf,aqp,aAg,aPp,aAh,nn⟩
  simp only[nE,gf,eC]at nn
  have sx:=nn.pk [12]
  rw[hks]at aqp aAh
  refine aa<|aq<|V (ax Tm O J)<|mI rfl<|aa<| ?_
  refine⟨(k+1,aGB,aGC,aGD,aGE,aGF,W33,atW,aGG,aGH,aGI,new++aGJ,aAf++Lb,(Y++(aAf++(Lb++R)))),aT,aen.u4.u4.u4,(Hp.conv sx RB),(aJ I ec),J,J,?_,?_,?_,?_,?_⟩
  ·(simp only[dG])
  ·(rw[Gy h0,dG];exact aqp.more (by split<;>omega))
  .exact(fun x hx=>by rcases eI.1 hx with q|q;exact⟨(WY x q).1.mono (fun e he=>bG _ he),(WY x q).2⟩;exact⟨(aAg x q).1.mono (fun e he=>dy _ he),(aAg x q).2⟩)
  ·(rw[cZ];omega)
  (rw[Gy h0];exact hbk.trans aAh)
 refine aY (id:=0) rfl<|ag<|SR<|have ek:k.toNat=aj.length:=J;?_
 rw[ek]at hfo hbk
 have an3:(bq (sC cs (oV (cz aj.length qs)) aj.length)).length=aj.length:=by rw[wO];omega
 have oC:Hp W0 _ (_::_::_::_::_::_::_::_::_::_::_::_::_::_::_::_::(Zf++(Lb++R))):=eO.sub (sP (sP (sP (sP (sP (sP (sP (sP (sP (sP (sP (sP (sP (sP (sP (sP (List.Sublist.append (hY▸W7 _ _) sR)))))))))))))))))
 refine aE Ww<|V (af O)<|V (fA cw 8 O oL O)<|aG O oC (ab5 hfo J (oC.blk (i:=1) O) (oC.ye (i:=2) O hfo.hW)) (an call123 O)<|fun w48 IZ=>aE aAe<|V (bN O O)<|aa<|aD O (fun h51=> ?_) (fun h51=> ?_)
 .refine ai<|pK O ⟨⟨(sC cs (oV (cz aj.length qs)) aj.length),⟨aj,a6,wl,wi⟩,0⟩,vW1,vU1,vT1,cW1,cU1,W1,lT,ts1,cn1,Wu,ql,cq,new,Lb,Zf,f,?_,rfl,?_,?_,J,?_,?_,?_,?_,(IZ.sub (sQ sR))⟩
  .exact(aS jY).trans (aS J)
  .exact hfo
  .exact WY
  .exact hbk
  .exact hZ
  .exact pn.refl f
  exact hq
 refine ak<|SR<|aE Ww<|B3 O IZ (FE J J J J J (hpl) _ (IZ.blk (i:=1) O) (IZ.sl (i:=7) O) (IZ.sl (i:=8) O) (IZ.sl (i:=10) O) (IZ.ye (i:=2) O hfo.hW) (I7.mono (IZ.kz (Le.refl _) (fun x hx=>(mT (mT (mT (mT (mT (mT (mT (mT (mT (mT (mT (mT (mT (mT (mT (mT (bG _ (bG _ hx))))))))))))))))))))) hfo) (an call127 O)<|fun v54 w52 jU=> ?_
 refine V (run_assign bC) ?_
 refine aa<|SR<|aE Ww<|V (af O)<|V (fA cw 3 O mX O)<|lV dR jU 2 O O rfl<|V (aA (jU.sl (i:=8) O) O dR O)<|aE (v:=I 0) rfl<|aa<|ay<|have hfr:=hfo.find an3;have hne:¬leads (bq (sC cs (oV (cz aj.length qs)) aj.length))=leads (bq cs):=J;bk (G:=Int×Value×Value×(Option (Nat×Array Value))×(List El)×(List (BitVec 64))×(List Int)×(List Bool)×(List (Value×lU))×(List a7)×(List a7)×Ct×(List a7)) (fun⟨k,vd2,xQ,Bx,cX,eA,pU,mz,O0,Ke,Hj,f1,Z1⟩ s' w'=>(Fr (rg 8 3 (12::(rg 47 76 []))) _ s')/\(Hp W0 w' (_::_:: .blk n (.cells #[wr,vL,vt,vv,vy,vu,vq,I sn,vW1,vU1,vT1,I cn1,B sk,U wy,vd2,vm] 111 (0,0))::cE cW1 vW1 35 (W1.map U)::cE cU1 vU1 1 (lT.map Prod.fst)::jG I vT1 3 ts1::vh WT 13 vL 119 au::jG I vt 3 aX::vh s8 8 vv 37 cX::jG U vy 35 eA::jG jM.v vu 99 us::vh pQ 13 vq 128 qs::jG Prod.fst vd2 1 (lg++(new++O0))::jG I vm 3 tm:: .blk b (.cells #[xQ,qi] 156 (0,0))::qE Bx xQ 3 (pU.map I)::jG B qi 4 mz::Z1))/\(s' 47=I k)/\(0<=k)/\(k<=aj.length)/\(Z1=Hj++(Ke++R))/\((⟨cX,eA,pU,mz⟩:yl)=(coA (bq (sC cs (oV (cz aj.length qs)) aj.length)) us au aX (Cs (bq (sC cs (oV (cz aj.length qs)) aj.length)) a6 aj.length qs) ⟨aj,a6,wl,wi⟩ k.toNat))/\(qO Bx xQ (pU.map I))/\(kp (Ba fr) ids f1 tl Hj)/\(pn f f1 0 0 (coJ (bq (sC cs (oV (cz aj.length qs)) aj.length)) k.toNat))/\(wN FX n (m+aj.length) ((sC cs (oV (cz aj.length qs)) aj.length)) vW1 vU1 cW1 cU1 W1 lT ts1 cn1 (Ke++R))/\(∀x∈new++O0,mJ NX n Ke x/\II x.2)/\(O0.length<=1000*k.toNat)/\(iD O0 (NP.mk au aX aj a6 ((pO us)) qs sn ((sC cs (oV (cz aj.length qs)) aj.length)) sk wy wr) (NP.mk au aX cX eA ((pO us)) qs sn ((sC cs (oV (cz aj.length qs)) aj.length)) sk wy wr))) (fun⟨k,vd2,xQ,Bx,cX,eA,pU,mz,O0,Ke,Hj,f1,Z1⟩=>(aj.length-k).toNat) ((0,Wu,ql,cq,aj,a6,wl,wi,[],Lb,Zf,f,(Zf++(Lb++R)))) ⟨Fr.refl _ _,(by rw[lY];exact jU),rfl,J,J,rfl,rfl,hq,hZ,pn.refl f,hfo,(by rw[lY];exact WY),mW _,iD.nil _⟩<| ?_
 rintro⟨k,vd2,xQ,Bx,cX,eA,pU,mz,O0,Ke,Hj,f1,Z1⟩ ax3 w55 ⟨NR,jg,N9,h0,hk,hz,hs,Ot,N7,Hl,Oa,akr,aAi,an6⟩
 obtain⟨Wf,auy⟩:=NR.w2 7 46
 obtain⟨ace,G7⟩:=NR.t2 0 Ww 1 QB
 subst hz
 have ok1:=Zh (cl:=(bq (sC cs (oV (cz aj.length qs)) aj.length))) (us:=us) (au:=au) (aX:=aX) (rs:=(Cs (bq (sC cs (oV (cz aj.length qs)) aj.length)) a6 aj.length qs)) (fun k hk=>(xA k hk).2.2) J (⟨rfl,rfl,rfl,hwq⟩:Qg wi.length aj.length a6.length ⟨aj,a6,wl,wi⟩) k.toNat
 rw[<-hs]at ok1
 have lv1:cX.length=aj.length:=ok1.lv
 have ly1:eA.length=a6.length:=ok1.ly
 have li1:mz.length=wi.length:=ok1.li
 have wq1:=ok1.wq.len
 simp only at wq1
 have aGL:=Zg (cl:=(bq (sC cs (oV (cz aj.length qs)) aj.length))) k.toNat
 have aPr:coJ (bq (sC cs (oV (cz aj.length qs)) aj.length)) k.toNat<=1000*1000:=kM aGL (xd J J)
 refine SR<|V (aM N9 auy)<|aa<|ag<|aD O (fun OW=> ?_) (fun OW=> ?_)
 .refine ak<|ag<|ay<|SR<|aE N9<|aI rfl<|aa<|ag<|SR<|aE ace<|V (af O)<|V (fA cw 8 O oL O)<|mI rfl<|aG O jg (FC _ Oa J (jg.blk (i:=2) O) (jg.ye (i:=3) O hfo.hW)) (aN EN O O)<|fun w58 Bm=>mI rfl<|V (ke O O)<|aa<|aD O (fun h61=> ?_) (fun h61=> ?_)
  .refine aY (id:=3) rfl<|aq<|V (ax N9 O J)<|mI rfl<|aa<| ?_
   refine⟨(k+1,vd2,xQ,Bx,cX,eA,pU,mz,O0,Ke,Hj,f1,(Hj++(Ke++R))),?_,NR.u4.u4.u4,(Hp.conv Bm RB),(aJ I ec),?_,?_,aO,?_,?_,?_,?_,?_,?_,?_,?_⟩
   .exact(K3 (K6 ‹k<(aj.length:Int)›)).2 (K2 (Lk _) _)
   .exact BH h0
   .exact‹k<(aj.length:Int)›
   ·(rw[Cu h0,<-hs,SH h0 (by rintro⟨a,b⟩;omega)])
   .exact Ot
   .exact N7
   .exact Hl.more (er _) (er _) afv
   .exact Oa
   .exact akr
   .exact kM aAi (Nat.mul_le_mul_left _ (Xp (BH (nc k))))
   exact an6
  refine ak<|SR<|aE ace<|V (af O)<|V (fA cw 8 O oL O)<|mI rfl<|B3 O Bm (ab6 _ Oa J (Bm.blk (i:=2) O) (Bm.ye (i:=3) O hfo.hW)) (aN call129 O O)<|fun v64 w62 pT=> ?_
  refine V (run_assign bC) ?_
  refine aa<|ag<|SR<|have aPt:=aim (cl:=(bq (sC cs (oV (cz aj.length qs)) aj.length))) (k:=k) ⟨h0,J⟩;have amS:=vx (cl:=(bq (sC cs (oV (cz aj.length qs)) aj.length))) (i:=k);?_
  refine V (run_move bC) ?_
  refine V (aA (pT.sl (i:=0) O) O bz O)<|V (bN O O)<|aa<|aD O (fun Fw=> ?_) (fun Fw=> ?_)
  .refine aY (id:=3) rfl<|aq<|V (ax N9 O J)<|mI rfl<|aa<| ?_
   refine⟨(k+1,vd2,xQ,Bx,cX,eA,pU,mz,O0,Ke,Hj,f1,(Hj++(Ke++R))),?_,NR.u4.u4.u4.u4.u4.u1,(Hp.conv (pT.sub (sQ sR)) RB),(aJ I ec),?_,?_,aO,?_,?_,?_,?_,?_,?_,?_,?_⟩
   .exact(K3 (K6 ‹k<(aj.length:Int)›)).2 (K2 (Lk _) _)
   .exact BH h0
   .exact‹k<(aj.length:Int)›
   ·(rw[Cu h0,<-hs,SH h0 (by rintro⟨a,b⟩;omega)])
   .exact Ot
   .exact N7
   .exact Hl.more (er _) (er _) afv
   .exact Oa
   .exact akr
   .exact kM aAi (Nat.mul_le_mul_left _ (Xp (BH (nc k))))
   exact an6
  refine ak<|SR<|have hlk:=hlr k.toNat J;have hlc:=hlv.at hlk.1 hlk.2;aE ace<|V (af O)<|V (fA cw 3 O mX O)<|lV dR pT 3 O O rfl<|mI rfl<|V (ah (pT.sl (i:=9) O) dR iq O O J)<|V (lK (pT.sl (i:=9) O) cH O O O J)<|nu pT (aW jO)<|fun b69 w67 mM=>bt mM (i:=0) O (ez O O O (mM.blk (i:=0) O))<|fun w72 wh=> ?_
  simp only[z2,gU,pull]at wh
  refine aa<|ag<|SR<| ?_
  refine V (run_move bC) ?_
  refine V (gh (wh.sl (i:=1) O) bz a8 O O J)<|V (aA (Sl.frI (wh.sl (i:=1) O) 1 J) O bz O)<|aE (v:=I 0) rfl<|aa<|ay<|bk (G:=Int×Ct×(List a7)×(List a7)) (fun⟨j,f2,WZ,Z2⟩ s' w'=>(Fr (12::(rg 75 38 [])) _ s')/\(Hp W0 w' (.blk b69 (.cells (Value.agg (jv (vz (au.getD (aX.getD k.toNat 0).toNat o3).p.sh cX (cX.getD k.toNat dH) (((bJ (bq (sC cs (oV (cz aj.length qs)) aj.length)) k).drop 1).take j.toNat)))).cells 37 (0,0))::_::_::_::_::_::_::_::_::_::_::_::_::_::_::_::_::_::_::Z2))/\(s' 75=I j)/\(0<=j)/\(j<=((bJ (bq (sC cs (oV (cz aj.length qs)) aj.length)) k).drop 1).length)/\(Z2=WZ++(Ke++R))/\(kp (Ba fr) ids f2 tl WZ)/\(pn f f2 0 0 (coJ (bq (sC cs (oV (cz aj.length qs)) aj.length)) k.toNat+j.toNat))) (fun⟨j,f2,WZ,Z2⟩=>(((bJ (bq (sC cs (oV (cz aj.length qs)) aj.length)) k).drop 1).length-j).toNat) ((0,f1,Hj,(Hj++(Ke++R)))) ⟨Fr.refl _ _,wh,rfl,J,J,rfl,N7,Hl⟩<| ?_
  rintro⟨j,f2,WZ,Z2⟩ aPv w74 ⟨aks,Ak,Tn,j0,j1,hz2,hZ2,hc2⟩
  obtain⟨akt,To,auz,auA⟩:=aks.w4 8 10 73 74
  obtain⟨Wx,aAk,aAl,auB⟩:=aks.t4 0 ace 1 G7 7 Wf 47 N9
  subst hz2
  have hdl:=xS (i:=1) (l:=(bJ (bq (sC cs (oV (cz aj.length qs)) aj.length)) k))
  refine SR<|V (aM Tn auA)<|aa<|ag<|aD O (fun h76=> ?_) (fun h76=> ?_)
  .refine ak<|ag<|ay<|SR<|V (ah (Sl.frI (Ak.sl (i:=1) O) 1 J) bz a8 auz Tn J)<|have hkm:=mi (rI (dh (d:=0) j0 ‹j<_›));V (aC bf O O ((Sl.frI (Ak.sl (i:=1) O) 1 J).cell _ _ (eG J)))<|aI rfl<|aa<|ag<|ed aP Ak<|fun w77 Kb=>have Tp:=Kb;AQ 0 O Tp (run_move Wx)<|AQ 1 O Tp (af O)<|AQ 2 O Tp (fA cw 3 O mX O)<|tV 3 O Tp dR 4 O O rfl<|AQ 4 O Tp (mV (I _) O)<|AT 5 O Tp (fun w hS=>ah (hS.sl (i:=10) O) dR iq O O J)<|AT 6 O Tp (fun w hS=>lK (hS.sl (i:=10) O) cH O O O J)<|AT 7 O Tp (fun w hS=>dW cH O O To (hS.blk (i:=0) O))<|AQ 8 O Tp (adg GG O O)<|AD<|bW O (fun h80=> ?_) (fun h80=> ?_)
   .refine fT (z:=⟨none,_,_,_,_,none⟩) aP O aP Kb (sP (sP (sP (sP (sP (sP (sP (sP (sP (sP (sP (sP (sP (sP (sP (sP (sP (sP (sP (sA sR))))))))))))))))))))<|fun w81 tM=>have vM:=tM.sub (sP (sP (sP (sP (sP (sP (sP (sP (sP (sP (sP (sP (sP (sP (sP (sP (sP (sP (sP (sA sR))))))))))))))))))));AQ 0 O vM (run_move Wx)<|AQ 1 O vM (af O)<|AQ 2 O vM (fA cw 1 O tB O)<|tV 3 O vM oF 4 O O rfl<|AQ 4 O vM (run_move Wx)<|AQ 5 O vM (af O)<|AQ 6 O vM (fA cw 2 O dB O)<|tV 7 O vM bz 4 O O rfl<|AQ 8 O vM (run_move akt)<|AT 9 O vM (fun w hS=>ah (hS.sl (i:=9) O) bz a8 O O J)<|AT 10 O vM (fun w hS=>aC bf O O ((hS.sl (i:=9) O).cell _ _ (eG J)))<|AT 11 O vM (fun w hS=>ah (hS.sl (i:=8) O) oF sizeOf119 O O J)<|AQ 12 O vM (fA BK 2 O sizeOf117 O)<|AQ 13 O vM (fA pF 2 O sizeOf115 O)<|AT 14 O vM (fun w hS=>fQ (dv:=o3) (off:=4) qQ (hS.sl (i:=8) O) Lf O O J O)<|AT 15 O vM (fun w hS=>dW cH O O To (hS.blk (i:=0) O))<|AQ 16 O vM (run_move Wx)<|AQ 17 O vM (af O)<|AQ 18 O vM (fA cw 3 O mX O)<|tV 19 O vM dR 4 O O rfl<|AQ 20 O vM (mV (I _) O)<|AT 21 O vM (fun w hS=>ah (hS.sl (i:=10) O) dR iq O O J)<|AT 22 O vM (fun w hS=>lK (hS.sl (i:=10) O) cH O O O J)<|A1 23<| ?_
    obtain⟨aPy,aGM,aGN,aAm,aAn⟩:=aj0 W0 ids tl hT _ _ _ _ f2 WZ ([_,_,_,_,_,_,_,_,_,_,_,_,_,_,_,_,_,_,_]++(Ke++R)) _ _ _ _ (hlc.ops.mono (Le.zz (fun x hx=>bG _ (bG _ hx)))) hlc.EX hZ2 (hc2.ok hf) HQ (Hp.r8 (A:=[_,_,_,_,_,_,_,_,_,_,_,_,_,_,_,_,_,_,_]) (Zf:=WZ) (R:=(Ke++R)) tM)
    refine xu O aH O aAn (iQ aAm (cs:=aGM) aGN O O) (fun u w' ⟨_,Z',_,h⟩=>Hp.sub (L:=_::_::_::_::_::_::_::_::_::_::_::_::_::_::_::_::_::_::_::(Z'++(Ke++R))) (Hp.oK (A:=[_,_,_,_,_,_,_,_,_,_,_,_,_,_,_,_,_,_,_]) h) (sP (sP (sP (sP (sP (sP (sP (sP (sP (sP (sP (sP (sP (sP (sP (sP (sP (sP (sP (sA sR))))))))))))))))))))) ?_
    rintro x95 w90 ⟨aAo,Z93,aGO,h91⟩
    have aAp:Hp _ w90 (_::_::_::_::_::_::_::_::_::_::_::_::_::_::_::_::_::_::_::(Z93++(Ke++R))):=Hp.oK (A:=[_,_,_,_,_,_,_,_,_,_,_,_,_,_,_,_,_,_,_]) h91
    rw[apj hlc.EX hlc.sh]at aAo
    subst aAo
    refine AD<|bt aAp (i:=0) O (ez O To O (aAp.blk (i:=0) O))<|fun at1 Eu=> ?_
    simp only[z2,gU,pull]at Eu
    refine aa<|aq<|V (ax Tn O J)<|mI rfl<|aa<|have hqq:¬rC (cX.getD (((bJ (bq (sC cs (oV (cz aj.length qs)) aj.length)) k).drop 1).getD j.toNat 0).toNat dH) (vz (au.getD (aX.getD k.toNat 0).toNat o3).p.sh cX (cX.getD k.toNat dH) (((bJ (bq (sC cs (oV (cz aj.length qs)) aj.length)) k).drop 1).take j.toNat)):=jY;?_
    refine⟨(j+1,(Wr.tick .j (au.getD (aX.getD k.toNat 0).toNat o3).d f2),Z93,(Z93++(Ke++R))),?_,aks.u4.u4.u4.u4.u4.u4.u4.u4.u4.u1.u1.u1,(Hp.conv Eu afb),(aJ I ec),?_,?_,aO,?_,?_⟩
    .exact(K3 (K6 ‹j<_›)).2 (K2 (Lk _) _)
    .exact BH j0
    .exact‹j<_›
    .exact aGO
    exact(hc2.trans (yj hlc.dep _).2.2).more (er _) (er _) (by rw[Int.toNat_add j0 az];exact er _)
   refine ak<|aq<|V (ax Tn O J)<|mI rfl<|aa<|have hqq:rC (cX.getD (((bJ (bq (sC cs (oV (cz aj.length qs)) aj.length)) k).drop 1).getD j.toNat 0).toNat dH) (vz (au.getD (aX.getD k.toNat 0).toNat o3).p.sh cX (cX.getD k.toNat dH) (((bJ (bq (sC cs (oV (cz aj.length qs)) aj.length)) k).drop 1).take j.toNat)):=jY;?_
   refine⟨(j+1,f2,WZ,(WZ++(Ke++R))),?_,aks.u4.u4.u4.u1.u1.u1,(Hp.conv Kb afb),(aJ I ec),?_,?_,aO,?_,?_⟩
   .exact(K3 (K6 ‹j<_›)).2 (K2 (Lk _) _)
   .exact BH j0
   .exact‹j<_›
   .exact hZ2
   exact hc2.more (er _) (er _) (Nat.add_le_add_left (Xp (BH (nc j))) _)
  refine aY (id:=4) rfl<|have ej:(vz (au.getD (aX.getD k.toNat 0).toNat o3).p.sh cX (cX.getD k.toNat dH) (((bJ (bq (sC cs (oV (cz aj.length qs)) aj.length)) k).drop 1).take j.toNat))=(vz (au.getD (aX.getD k.toNat 0).toNat o3).p.sh cX (cX.getD k.toNat dH) ((bJ (bq (sC cs (oV (cz aj.length qs)) aj.length)) k).drop 1)):=(by rw[iV J]);have hrb:(Cs (bq (sC cs (oV (cz aj.length qs)) aj.length)) a6 aj.length qs).length=aj.length:=(by unfold Cs Vm;rw[DB (Vn _),DB (MY _ _)];simp);fT (z:=⟨some _,_,_,_,_,none⟩) aP O aP Ak sR<|fun aAq Ob=>have JI:=Ob;AQ 0 O JI (run_move Wx)<|AQ 1 O JI (run_move aAk)<|AQ 2 O JI (run_move akt)<|AT 3 O JI (fun w hS=>dW cH O O To (hS.blk (i:=0) O))<|AQ 4 O JI (run_move aAl)<|AQ 5 O JI (run_move akt)<|AT 6 O JI (fun w hS=>ah (hS.sl (i:=2) O) c8 dg O O J)<|AT 7 O JI (fun w hS=>aC dZ O O ((hS.sl (i:=2) O).cell _ _ (lf (dv:=0#64) J)))<|AD<|bY O (AZ _ _ _ J J J J J EQ J (fun k hk=>⟨by(repeat apply fC);exact bG _ (bG _ (xA k hk).1),(xA k hk).2.1,fun i hi=>by have:=(xA k hk).2.2 i hi;omega⟩) _ (Oa.mono fun e he=>by(repeat apply fC);exact bG _ he) Ot (Ob.pj [4,4,4,4,4,4,4,4,4,4,4,4,4,4,4])) (rP call130 O O O O O)<| ?_
  rintro _ auC ⟨rfl,aAr,aGP,aGQ,aAs,acf,aqq,aAt,aAu,aj5,aAv⟩
  simp only[nE,wE]at aAv
  have Oc:=Hp.mh (A:=[_,_,_,_,_,_,_,_,_,_,_,_,_,_,_]) (R:=[_,_,_,_]) aAv
  simp only[gf,eC]at Oc
  have yB:=Oc.pk [15,15,15,15]
  have aAw:Hp W0 _ (_::_::_::_::_::_::_::_::_::_::_::_::_::_::_::_::_::_::_::(WZ++(acf++(Ke++R)))):=Hp.mh (A:=[_,_,_,_,_,_,_,_,_,_,_,_,_,_,_,_,_,_,_]) (B:=acf) (R:=WZ) yB
  refine aa<|aq<|V (ax auB O J)<|mI rfl<|aa<| ?_
  refine⟨(k+1,aAr,aGP,aGQ,(xz cX us (pU,mz) (bJ (bq (sC cs (oV (cz aj.length qs)) aj.length)) k) (vz (au.getD (aX.getD k.toNat 0).toNat o3).p.sh cX (cX.getD k.toNat dH) (((bJ (bq (sC cs (oV (cz aj.length qs)) aj.length)) k).drop 1).take j.toNat))).1,gx eA (bJ (bq (sC cs (oV (cz aj.length qs)) aj.length)) k) ((Cs (bq (sC cs (oV (cz aj.length qs)) aj.length)) a6 aj.length qs).getD k.toNat 0),(xz cX us (pU,mz) (bJ (bq (sC cs (oV (cz aj.length qs)) aj.length)) k) (vz (au.getD (aX.getD k.toNat 0).toNat o3).p.sh cX (cX.getD k.toNat dH) (((bJ (bq (sC cs (oV (cz aj.length qs)) aj.length)) k).drop 1).take j.toNat))).2.1,(xz cX us (pU,mz) (bJ (bq (sC cs (oV (cz aj.length qs)) aj.length)) k) (vz (au.getD (aX.getD k.toNat 0).toNat o3).p.sh cX (cX.getD k.toNat dH) (((bJ (bq (sC cs (oV (cz aj.length qs)) aj.length)) k).drop 1).take j.toNat))).2.2,O0++aAs,acf++Ke,WZ,f2,(WZ++(acf++(Ke++R)))),?_,(((NR.u4.u4.u4.u4.u4.u4.u4.u1.u1.u1).t aks O)).u4.u4.u4,(Hp.conv (aAw.sub (sQ (sQ sR))) RB),(aJ I ec),?_,?_,?_,?_,?_,?_,?_,?_,?_,?_,?_⟩
  .exact(K3 (K6 ‹k<(aj.length:Int)›)).2 (K2 (Lk _) _)
  .exact BH h0
  .exact‹k<(aj.length:Int)›
  ·(simp only[dG])
  ·(rw[Cu h0,<-hs,abr h0 J J];simp only[ej])
  .exact aj5
  .exact hZ2
  ·(rw[TQ h0,aS (Ht ‹¬fw _ _≠k›)];exact hc2.more (er _) (er _) (Nat.add_le_add_left (Int.toNat_le.2 (by rw[<-xS];exact j1)) _))
  .exact Oa.mono fun e he=>(by rw[dG];exact bG _ he)
  .exact(fun x hx=>by rw[<-dG]at hx;rcases eI.1 hx with q|q;exact⟨(akr x q).1.mono (fun e he=>bG _ he),(akr x q).2⟩;exact⟨(aqq x q).1.mono (fun e he=>dy _ he),(aqq x q).2⟩)
  ·(have:=aAt;rw[cZ];omega)
  exact an6.trans aAu
 refine aY (id:=2) rfl<|have ek2:k.toNat=aj.length:=J;pK O ⟨⟨(sC cs (oV (cz aj.length qs)) aj.length),⟨cX,eA,pU,mz⟩,coJ (bq (sC cs (oV (cz aj.length qs)) aj.length)) aj.length⟩,vW1,vU1,vT1,cW1,cU1,W1,lT,ts1,cn1,vd2,xQ,Bx,(new++O0),Ke,Hj,f1,?_,rfl,?_,?_,?_,?_,?_,?_,?_,(jg.sub (sQ (sQ sR)))⟩
 .exact(aS jY).trans ((aR hne).trans (by rw[hs,ek2]))
 .exact Oa
 .exact akr
 ·(rw[cZ];omega)
 .exact hbk.trans an6
 .exact N7
 ·(rw[ek2]at Hl;exact Hl)
 exact Ot
end
end Go.Proofs.YtlhjdflgjbkpmaaGreatDoor.W

/- Part 6 of the proof of FlowTakes: its plain laws and the walks of its functions. -/
import Derived.Test.YtlhjdflgjbkpmaaGreatDoorFlowTakesPartE
set_option linter.all false
namespace Go.Proofs.YtlhjdflgjbkpmaaGreatDoor.W
section
open Go Go.RowKit Go.Proofs.YtlhjdflgjbkpmaaGreatDoor.E Go.Proofs.YtlhjdflgjbkpmaaGreatDoor.M
set_option maxRecDepth 100000
open Go.Proofs.Tryz
variable{fr:List a8}
variable{W0 w:World}{n m:Nat}{cs:List (List Nat)}{wr:Value}{vL:Value}{vt:Value}{vv:Value}{vy:Value}{vu:Value}{vq:Value}{sn:Int}{vW:Value}{vU:Value}{vT:Value}{cn:Int}{sk:Bool}{wy:BitVec 64}{vd:Value}{vm:Value}{cW:Option (Nat×Array Value)}{cU:Option (Nat×Array Value)}{W:List (BitVec 64)}{ul:List (Value×jh)}{ts:List Int}{an:List oP}{aS:List Int}{ai:List El}{aX:List (BitVec 64)}{us:List jx}{qs:List de}{lg:List (Value×lK)}{tm:List Int}{L:List a8}
set_option maxHeartbeats 4000000 in
theorem CO{b:Nat}{ql qi:Value}{cq:Option (Nat×Array Value)}{wl:List Int}{wi:List Bool}{ids:List Nat}{tl:List (Nat×Rl)}{f:Ct}{nk:Nat}{Zf R:List a8}(hm:m+ai.length<=100000)(RQ:aX.length=ai.length)(M7:us.length=ai.length)(n8:(bg cs).length=ai.length)(ON:ai.length<=1000)(hlg:lg.length<=450000000000)(hwq:tD wl wi)(hwi:wi.length<=1000)(wI:∀k:Nat,k<us.length->dB 3 (us.getD k cP)∈R/\(us.getD k cP).l.length<=1000/\∀i∈(us.getD k cP).l,0<=i/\i<wi.length)(hf:D3 nk f)(hnk:nk<=100000000000)(UZ:0<=sn/\sn<=qs.length)(hqn:qs.length<=1000)(hpl:TA ai.length qs)(hlt:aS.length=ai.length)(hlr:∀k:Nat,k<aS.length->0<=aS.getD k 0/\aS.getD k 0<an.length)(w:World)(hT:oq W0)(hlv:TH TX (Kz (Kw W0) R) ids tl an)(hZ:j5 (Ae fr) ids f tl Zf)(HA:Xg (Kz (Kw W0) R) qs)(h:vK FX n m cs vW vU cW cU W ul ts cn R)(hq:qO cq ql (wl.map I))(hH:Hp W0 w (nE n wr vL vt vv vy vu vq sn vW vU vT cn sk wy vd vm cW cU W ul ts an aS ai aX us qs lg tm ((wE b ql qi cq wl wi ((Zf++R)))))):Calls Tryz.prog 84 #[pt n,pt b] w (jF fun u w'=>∃(r:CoO) (ML MM U4:Value) (O9 Pa:Option (Nat×Array Value)) (W':List (BitVec 64)) (xK:List (Value×jh)) (ts':List Int) (Pb:Int) (vd':Value) (RT:Value) (RU:Option (Nat×Array Value)) (new:List (Value×lK)) (Lb Z':List a8) (f':Ct),rG cs us an aS qs sn ai.length ⟨ai,aX,wl,wi⟩=r/\u= .tuple #[]/\vK FX n (m+ai.length) r.cs ML MM O9 Pa W' xK ts' Pb (Lb++R)/\(∀x∈new,l9 NX n Lb x/\G7 x.2)/\new.length<=1001*ai.length/\iz new (NP.mk an aS ai aX ((o5 us)) qs sn cs sk wy wr) (NP.mk an aS (r.s.ai) (r.s.aX) ((o5 us)) qs sn (r.cs) sk wy wr)/\j5 (Ae fr) ids f' tl Z'/\oG f f' 0 0 r.j/\qO RU RT (r.s.wl.map I)/\Hp W0 w' (nE n wr vL vt vv vy vu vq sn (ML) (MM) (U4) (Pb) sk wy (vd') vm (O9) (Pa) (W') (xK) (ts') an aS (r.s.ai) (r.s.aX) us qs (lg++new) tm ((wE b (RT) qi (RU) (r.s.wl) (r.s.wi) ((Z'++(Lb++R))))))):=by
 simp only[wE]at hH
 simp only[nE]at hH
 have aMF:=hwq.len
 refine en func84 rfl rfl<|ah<|SR<|aG (v:=Pn _ _) rfl<|aE O hH (Hz J _ (hH.blk (i:=0) O) (hH.sl (i:=9) O) (HA.mono (hH.kz (Le.refl _) (fun x hx=>(mT (mT (mT (mT (mT (mT (mT (mT (mT (mT (mT (mT (mT (mT (mT (bB _ hx)))))))))))))))))))) (aq call122 O)<|fun w1 a7=>V (bK O)<|aa<|bQ O (fun h5=> ?_) (fun h5=> ?_)
 .refine aj<|p5 O ⟨⟨cs,⟨ai,aX,wl,wi⟩,0⟩,vW,vU,vT,cW,cU,W,ul,ts,cn,vd,ql,cq,[],[],Zf,f,?_,rfl,?_,?_,?_,?_,?_,?_,?_,(by rw[lU];exact(a7))⟩
  .exact aP jM
  .exact h.more J
  .exact fun x hx=>by cases hx
  .exact mo _
  .exact iz.nil _
  .exact hZ
  .exact oG.refl f
  exact hq
 refine ak<|SR<|aG (v:=Pn _ _) rfl<|V (af O)<|V (fA bU 8 O nY O)<|aE O a7 (aab h J (a7.blk (i:=0) O) (a7.xp (i:=1) O h.hW)) (aq call123 O)<|fun w6 eR=>aI rfl<|aa<|ah<|SR<|aG (v:=Pn _ _) rfl<|Wx O eR (HB (Kw W0) J J (hpl) _ (eR.blk (i:=0) O) (eR.sl (i:=6) O) (eR.sl (i:=9) O) (HA.mono (eR.kz (Le.refl _) (fun x hx=>(mT (mT (mT (mT (mT (mT (mT (mT (mT (mT (mT (mT (mT (mT (mT (bB _ hx)))))))))))))))))))) (aq call125 O)<|fun v10 H9 Z13 cQ aEb=>have iu:Hp _ H9 (_::_::_::_::_::_::_::_::_::_::_::_::_::_::_::(Z13++(Zf++R))):=cQ.Iq (L:=[_,_,_,_,_,_,_,_,_,_,_,_,_,_,_]) (L':=(Zf++R));?_
 obtain⟨acy,ax0,aEc⟩:=aEb
 have hgl:acy.length=ai.length:=by have:=aJ List.length ax0;rw[fQ,D8]at this;exact this
 refine A3 O iu (acu _ acy J _ (aEc.mono (iu.kz (Le.refl _) (fun x hx=>(mT (mT (mT (mT (mT (mT (mT (mT (mT (mT (mT (mT (mT (mT (mT (dy _ hx)))))))))))))))))))) (aq call124 O)<|fun v21 Ub cJ=>V (aD (cJ.sl (i:=0) O) O bq O)<|aG (v:=I 0) rfl<|aa<|aC<| ?_
 obtain⟨Y,hY⟩:∃Y,Y=Z13++Zf:=⟨_,rfl⟩
 have c8:=cJ
 rw[<-dg Z13 Zf R,<-hY]at c8
 have hks:oe (o5 acy)=(oe (bX ai.length qs)):=by rw[ax0]
 have hkl:(oe (o5 acy)).length=ai.length:=by rw[akP,fQ];exact hgl
 refine bj (G:=Int×Value×Value×Value×(Option (Nat×Array Value))×(Option (Nat×Array Value))×(List (BitVec 64))×(List (Value×jh))×(List Int)×Int×Value×(List (Value×lK))×(List a8)×(List a8)) (fun⟨k,vW1,vU1,vT1,cW1,cU1,W1,lB,ts1,cn1,UE,new,Lb,Z1⟩ s' w'=>(Fr (5::6::(rg 24 10 [])) _ s')/\(Hp W0 w' (.row v21 3 1 acy.length ((oe (o5 acy)).map I):: .blk n (.cells #[wr,vL,vt,vv,vy,vu,vq,I sn,vW1,vU1,vT1,I cn1,B sk,U wy,UE,vm] 111 (0,0))::cE cW1 vW1 35 (W1.map U)::cE cU1 vU1 1 (lB.map Prod.fst)::jf I vT1 3 ts1::uD U0 13 vL 119 an::jf I vt 3 aS::uD sC 8 vv 37 ai::jf U vy 35 aX::jf jx.v vu 99 us::uD o7 13 vq 128 qs::jf Prod.fst UE 1 (lg++new)::jf I vm 3 tm::_::_::_::Z1))/\(s' 24=I k)/\(0<=k)/\(k<=ai.length)/\(Z1=Y++(Lb++R))/\(vK FX n (m+k.toNat) ((rO cs (oe (bX ai.length qs)) k.toNat)) vW1 vU1 cW1 cU1 W1 lB ts1 cn1 (Lb++R))/\(∀x∈new,l9 NX n Lb x/\G7 x.2)/\(new.length<=k.toNat)/\(iz new (NP.mk an aS ai aX ((o5 us)) qs sn cs sk wy wr) (NP.mk an aS ai aX ((o5 us)) qs sn ((rO cs (oe (bX ai.length qs)) k.toNat)) sk wy wr))) (fun⟨k,vW1,vU1,vT1,cW1,cU1,W1,lB,ts1,cn1,UE,new,Lb,Z1⟩=>(ai.length-k).toNat) ((0,vW,vU,vT,cW,cU,W,ul,ts,cn,vd,[],[],(Y++([]++R)))) ⟨Fr.refl _ _,(by rw[lU];exact c8),rfl,J,J,rfl,h.more J,(fun x hx=>by cases hx),mo _,iz.nil _⟩ ?_
 rintro⟨k,vW1,vU1,vT1,cW1,cU1,W1,lB,ts1,cn1,UE,new,Lb,Z1⟩ aCn w23 ⟨acm,eU,Ry,h0,hk,hz,hfo,U5,hnl,hbk⟩
 obtain⟨UG,O3,ax1,ar5,ar6⟩:=acm.w5 0 1 4 22 23
 subst hz
 refine SR<|V (aL Ry ar6)<|aa<|ah<|aF O (fun Hl=> ?_) (fun Hl=> ?_)
 .refine ak<|ah<|aC<|SR<|aG Ry<|V (ag (eU.sl (i:=0) O) bq bp ar5 Ry J)<|V (az bt O O ((eU.sl (i:=0) O).cell _ _ (ew J)))<|aI rfl<|aI rfl<|aa<|au<|aG UG<|mI rfl<|mI rfl<|ct O (HE _ _ J DI _ hfo (R:=[_,_,_,_]++Y) (eU.pj [1,1,1,1,1,1,1,1,1,1,1,1])) (bz call126 O O O)<| ?_
  rintro _ w44 ⟨rfl,aEd,aEe,aEf,aEg,aEh,W33,arB,aEi,aEj,aEk,aEl,ax2,aok,ax3,aMH,ax4,qD⟩
  simp only[nE,fH,dZ]at qD
  have rK:=qD.pk [12]
  rw[hks]at aok ax4
  refine aa<|au<|V (ax Ry O J)<|mI rfl<|aa<| ?_
  refine⟨(k+1,aEd,aEe,aEf,aEg,aEh,W33,arB,aEi,aEj,aEk,new++aEl,ax2++Lb,(Y++(ax2++(Lb++R)))),aW,acm.u4.u4.u4,(Hp.conv rK PU),(aJ I DK),J,J,?_,?_,?_,?_,?_⟩
  ·(simp only[dg])
  ·(rw[E9 h0,dg];exact aok.more (by split<;>omega))
  .exact(fun x hx=>by rcases eF.1 hx with q|q;exact⟨(U5 x q).1.mono (fun e he=>bB _ he),(U5 x q).2⟩;exact⟨(ax3 x q).1.mono (fun e he=>dy _ he),(ax3 x q).2⟩)
  ·(rw[cV];omega)
  (rw[E9 h0];exact hbk.trans ax4)
 refine aY (id:=0) rfl<|ah<|SR<|have ek:k.toNat=ai.length:=J;?_
 rw[ek]at hfo hbk
 have al3:(bg (rO cs (oe (bX ai.length qs)) ai.length)).length=ai.length:=by rw[vM];omega
 have nO:Hp W0 _ (_::_::_::_::_::_::_::_::_::_::_::_::_::_::_::_::(Zf++(Lb++R))):=eU.sub (sP (sP (sP (sP (sP (sP (sP (sP (sP (sP (sP (sP (sP (sP (sP (sP (List.Sublist.append (hY▸Vc _ _) sR)))))))))))))))))
 refine aG UG<|V (af O)<|V (fA bU 8 O nY O)<|aE O nO (aab hfo J (nO.blk (i:=1) O) (nO.xp (i:=2) O hfo.hW)) (aq call123 O)<|fun w48 Hv=>aG ax1<|V (bO O O)<|aa<|aF O (fun h51=> ?_) (fun h51=> ?_)
 .refine aj<|p5 O ⟨⟨(rO cs (oe (bX ai.length qs)) ai.length),⟨ai,aX,wl,wi⟩,0⟩,vW1,vU1,vT1,cW1,cU1,W1,lB,ts1,cn1,UE,ql,cq,new,Lb,Zf,f,?_,rfl,?_,?_,J,?_,?_,?_,?_,(Hv.sub (sQ sR))⟩
  .exact(aR jM).trans (aR J)
  .exact hfo
  .exact U5
  .exact hbk
  .exact hZ
  .exact oG.refl f
  exact hq
 refine ak<|SR<|aG UG<|A3 O Hv (Ek J J J J J (hpl) _ (Hv.blk (i:=1) O) (Hv.sl (i:=7) O) (Hv.sl (i:=8) O) (Hv.sl (i:=10) O) (Hv.xp (i:=2) O hfo.hW) (HA.mono (Hv.kz (Le.refl _) (fun x hx=>(mT (mT (mT (mT (mT (mT (mT (mT (mT (mT (mT (mT (mT (mT (mT (mT (bB _ (bB _ hx))))))))))))))))))))) hfo) (aq call127 O)<|fun v54 w52 iZ=> ?_
 refine V (run_assign bC) ?_
 refine aa<|SR<|aG UG<|V (af O)<|V (fA bU 3 O mq O)<|lV dL iZ 2 O O rfl<|V (aD (iZ.sl (i:=8) O) O dL O)<|aG (v:=I 0) rfl<|aa<|aC<|have hfr:=hfo.find al3;have hne:¬leads (bg (rO cs (oe (bX ai.length qs)) ai.length))=leads (bg cs):=J;bj (G:=Int×Value×Value×(Option (Nat×Array Value))×(List El)×(List (BitVec 64))×(List Int)×(List Bool)×(List (Value×lK))×(List a8)×(List a8)×Ct×(List a8)) (fun⟨k,vd2,wZ,Ax,cM,eo,pe,lT,NE,IK,Jq,f1,Z1⟩ s' w'=>(Fr (rg 8 3 (12::(rg 47 76 []))) _ s')/\(Hp W0 w' (_::_:: .blk n (.cells #[wr,vL,vt,vv,vy,vu,vq,I sn,vW1,vU1,vT1,I cn1,B sk,U wy,vd2,vm] 111 (0,0))::cE cW1 vW1 35 (W1.map U)::cE cU1 vU1 1 (lB.map Prod.fst)::jf I vT1 3 ts1::uD U0 13 vL 119 an::jf I vt 3 aS::uD sC 8 vv 37 cM::jf U vy 35 eo::jf jx.v vu 99 us::uD o7 13 vq 128 qs::jf Prod.fst vd2 1 (lg++(new++NE))::jf I vm 3 tm:: .blk b (.cells #[wZ,qi] 156 (0,0))::qE Ax wZ 3 (pe.map I)::jf B qi 4 lT::Z1))/\(s' 47=I k)/\(0<=k)/\(k<=ai.length)/\(Z1=Jq++(IK++R))/\((⟨cM,eo,pe,lT⟩:xx)=(coA (bg (rO cs (oe (bX ai.length qs)) ai.length)) us an aS (Br (bg (rO cs (oe (bX ai.length qs)) ai.length)) aX ai.length qs) ⟨ai,aX,wl,wi⟩ k.toNat))/\(qO Ax wZ (pe.map I))/\(j5 (Ae fr) ids f1 tl Jq)/\(oG f f1 0 0 (Zy (bg (rO cs (oe (bX ai.length qs)) ai.length)) k.toNat))/\(vK FX n (m+ai.length) ((rO cs (oe (bX ai.length qs)) ai.length)) vW1 vU1 cW1 cU1 W1 lB ts1 cn1 (IK++R))/\(∀x∈new++NE,l9 NX n IK x/\G7 x.2)/\(NE.length<=1000*k.toNat)/\(iz NE (NP.mk an aS ai aX ((o5 us)) qs sn ((rO cs (oe (bX ai.length qs)) ai.length)) sk wy wr) (NP.mk an aS cM eo ((o5 us)) qs sn ((rO cs (oe (bX ai.length qs)) ai.length)) sk wy wr))) (fun⟨k,vd2,wZ,Ax,cM,eo,pe,lT,NE,IK,Jq,f1,Z1⟩=>(ai.length-k).toNat) ((0,UE,ql,cq,ai,aX,wl,wi,[],Lb,Zf,f,(Zf++(Lb++R)))) ⟨Fr.refl _ _,(by rw[lU];exact iZ),rfl,J,J,rfl,rfl,hq,hZ,oG.refl f,hfo,(by rw[lU];exact U5),mo _,iz.nil _⟩<| ?_
 rintro⟨k,vd2,wZ,Ax,cM,eo,pe,lT,NE,IK,Jq,f1,Z1⟩ avL w55 ⟨MB,iB,MS,h0,hk,hz,hs,M9,ND,hcj,MT,aiu,ax5,al5⟩
 obtain⟨Ur,ar8⟩:=MB.w2 7 46
 obtain⟨aag,FF⟩:=MB.t2 0 UG 1 O3
 subst hz
 have ok1:=Xk (cl:=(bg (rO cs (oe (bX ai.length qs)) ai.length))) (us:=us) (an:=an) (aS:=aS) (rs:=(Br (bg (rO cs (oe (bX ai.length qs)) ai.length)) aX ai.length qs)) (fun k hk=>(wI k hk).2.2) J (⟨rfl,rfl,rfl,hwq⟩:OL wi.length ai.length aX.length ⟨ai,aX,wl,wi⟩) k.toNat
 rw[<-hs]at ok1
 have lv1:cM.length=ai.length:=ok1.lv
 have ly1:eo.length=aX.length:=ok1.ly
 have li1:lT.length=wi.length:=ok1.li
 have wq1:=ok1.wq.len
 simp only at wq1
 have aEn:=Xj (cl:=(bg (rO cs (oe (bX ai.length qs)) ai.length))) k.toNat
 have aMJ:Zy (bg (rO cs (oe (bX ai.length qs)) ai.length)) k.toNat<=1000*1000:=kg aEn (wm J J)
 refine SR<|V (aL MS ar8)<|aa<|ah<|aF O (fun Nz=> ?_) (fun Nz=> ?_)
 .refine ak<|ah<|aC<|SR<|aG MS<|aI rfl<|aa<|ah<|SR<|aG aag<|V (af O)<|V (fA bU 8 O nY O)<|mI rfl<|aE O iB (Eh _ MT J (iB.blk (i:=2) O) (iB.xp (i:=3) O hfo.hW)) (aK DG O O)<|fun w58 Ao=>mI rfl<|V (kQ O O)<|aa<|aF O (fun h61=> ?_) (fun h61=> ?_)
  .refine aY (id:=3) rfl<|au<|V (ax MS O J)<|mI rfl<|aa<| ?_
   refine⟨(k+1,vd2,wZ,Ax,cM,eo,pe,lT,NE,IK,Jq,f1,(Jq++(IK++R))),?_,MB.u4.u4.u4,(Hp.conv Ao PU),(aJ I DK),?_,?_,aM,?_,?_,?_,?_,?_,?_,?_,?_⟩
   .exact(JC (JF ‹k<(ai.length:Int)›)).2 (Jz (JT _) _)
   .exact AH h0
   .exact‹k<(ai.length:Int)›
   ·(rw[Bs h0,<-hs,QT h0 (by rintro⟨a,b⟩;omega)])
   .exact M9
   .exact ND
   .exact hcj.more (eI _) (eI _) adx
   .exact MT
   .exact aiu
   .exact kg ax5 (Nat.mul_le_mul_left _ (Vw (AH (kY k))))
   exact al5
  refine ak<|SR<|aG aag<|V (af O)<|V (fA bU 8 O nY O)<|mI rfl<|A3 O Ao (aac _ MT J (Ao.blk (i:=2) O) (Ao.xp (i:=3) O hfo.hW)) (aK call129 O O)<|fun v64 w62 pc=> ?_
  refine V (run_assign bC) ?_
  refine aa<|ah<|SR<|have aML:=agu (cl:=(bg (rO cs (oe (bX ai.length qs)) ai.length))) (k:=k) ⟨h0,J⟩;have akI:=uH (cl:=(bg (rO cs (oe (bX ai.length qs)) ai.length))) (i:=k);?_
  refine V (run_move bC) ?_
  refine V (aD (pc.sl (i:=0) O) O bq O)<|V (bO O O)<|aa<|aF O (fun Fz=> ?_) (fun Fz=> ?_)
  .refine aY (id:=3) rfl<|au<|V (ax MS O J)<|mI rfl<|aa<| ?_
   refine⟨(k+1,vd2,wZ,Ax,cM,eo,pe,lT,NE,IK,Jq,f1,(Jq++(IK++R))),?_,MB.u4.u4.u4.u4.u4.u1,(Hp.conv (pc.sub (sQ sR)) PU),(aJ I DK),?_,?_,aM,?_,?_,?_,?_,?_,?_,?_,?_⟩
   .exact(JC (JF ‹k<(ai.length:Int)›)).2 (Jz (JT _) _)
   .exact AH h0
   .exact‹k<(ai.length:Int)›
   ·(rw[Bs h0,<-hs,QT h0 (by rintro⟨a,b⟩;omega)])
   .exact M9
   .exact ND
   .exact hcj.more (eI _) (eI _) adx
   .exact MT
   .exact aiu
   .exact kg ax5 (Nat.mul_le_mul_left _ (Vw (AH (kY k))))
   exact al5
  refine ak<|SR<|have hlk:=hlr k.toNat J;have hlc:=hlv.at hlk.1 hlk.2;aG aag<|V (af O)<|V (fA bU 3 O mq O)<|lV dL pc 3 O O rfl<|mI rfl<|V (ag (pc.sl (i:=9) O) dL gN O O J)<|V (ld (pc.sl (i:=9) O) cA O O O J)<|ou pc (aZ js)<|fun b69 w67 kD=>bk kD (i:=0) O (ef O O O (kD.blk (i:=0) O))<|fun w72 u9=> ?_
  simp only[z2,gF,pull]at u9
  refine aa<|ah<|SR<| ?_
  refine V (run_move bC) ?_
  refine V (fT (u9.sl (i:=1) O) bq bp O O J)<|V (aD (Sl.frI (u9.sl (i:=1) O) 1 J) O bq O)<|aG (v:=I 0) rfl<|aa<|aC<|bj (G:=Int×Ct×(List a8)×(List a8)) (fun⟨j,f2,U6,Z2⟩ s' w'=>(Fr (12::(rg 75 38 [])) _ s')/\(Hp W0 w' (.blk b69 (.cells (Value.agg (iU (uI (an.getD (aS.getD k.toNat 0).toNat oF).p.sh cM (cM.getD k.toNat dh) (((bG (bg (rO cs (oe (bX ai.length qs)) ai.length)) k).drop 1).take j.toNat)))).cells 37 (0,0))::_::_::_::_::_::_::_::_::_::_::_::_::_::_::_::_::_::_::Z2))/\(s' 75=I j)/\(0<=j)/\(j<=((bG (bg (rO cs (oe (bX ai.length qs)) ai.length)) k).drop 1).length)/\(Z2=U6++(IK++R))/\(j5 (Ae fr) ids f2 tl U6)/\(oG f f2 0 0 (Zy (bg (rO cs (oe (bX ai.length qs)) ai.length)) k.toNat+j.toNat))) (fun⟨j,f2,U6,Z2⟩=>(((bG (bg (rO cs (oe (bX ai.length qs)) ai.length)) k).drop 1).length-j).toNat) ((0,f1,Jq,(Jq++(IK++R)))) ⟨Fr.refl _ _,u9,rfl,J,J,rfl,ND,hcj⟩<| ?_
  rintro⟨j,f2,U6,Z2⟩ aMN w74 ⟨aiv,wU,RA,j0,j1,hz2,hZ2,YS⟩
  obtain⟨aiw,RB,ar9,asa⟩:=aiv.w4 8 10 73 74
  obtain⟨UH,ax7,ax8,asb⟩:=aiv.t4 0 aag 1 FF 7 Ur 47 MS
  subst hz2
  have hdl:=vk (i:=1) (l:=(bG (bg (rO cs (oe (bX ai.length qs)) ai.length)) k))
  refine SR<|V (aL RA asa)<|aa<|ah<|aF O (fun h76=> ?_) (fun h76=> ?_)
  .refine ak<|ah<|aC<|SR<|V (ag (Sl.frI (wU.sl (i:=1) O) 1 J) bq bp ar9 RA J)<|have hkm:=lM (xa (dG (d:=0) j0 ‹j<_›));V (az bt O O ((Sl.frI (wU.sl (i:=1) O) 1 J).cell _ _ (ew J)))<|aI rfl<|aa<|ah<|eu aN wU<|fun w77 II=>have RC:=II;AQ 0 O RC (run_move UH)<|AQ 1 O RC (af O)<|AQ 2 O RC (fA bU 3 O mq O)<|tV 3 O RC dL 4 O O rfl<|AQ 4 O RC (mV (I _) O)<|AT 5 O RC (fun w hS=>ag (hS.sl (i:=10) O) dL gN O O J)<|AT 6 O RC (fun w hS=>ld (hS.sl (i:=10) O) cA O O O J)<|AT 7 O RC (fun w hS=>dR cA O O RB (hS.blk (i:=0) O))<|AQ 8 O RC (aa1 Fi O O)<|AD<|bQ O (fun h80=> ?_) (fun h80=> ?_)
   .refine fC (z:=⟨none,_,_,_,_,none⟩) aN O aN II (sP (sP (sP (sP (sP (sP (sP (sP (sP (sP (sP (sP (sP (sP (sP (sP (sP (sP (sP (sA sR))))))))))))))))))))<|fun w81 pP=>have uT:=pP.sub (sP (sP (sP (sP (sP (sP (sP (sP (sP (sP (sP (sP (sP (sP (sP (sP (sP (sP (sP (sA sR))))))))))))))))))));AQ 0 O uT (run_move UH)<|AQ 1 O uT (af O)<|AQ 2 O uT (fA bU 1 O sL O)<|tV 3 O uT nR 4 O O rfl<|AQ 4 O uT (run_move UH)<|AQ 5 O uT (af O)<|AQ 6 O uT (fA bU 2 O df O)<|tV 7 O uT bq 4 O O rfl<|AQ 8 O uT (run_move aiw)<|AT 9 O uT (fun w hS=>ag (hS.sl (i:=9) O) bq bp O O J)<|AT 10 O uT (fun w hS=>az bt O O ((hS.sl (i:=9) O).cell _ _ (ew J)))<|AT 11 O uT (fun w hS=>ag (hS.sl (i:=8) O) nR sizeOf119 O O J)<|AQ 12 O uT (fA AJ 2 O sizeOf117 O)<|AQ 13 O uT (fA pV 2 O sizeOf115 O)<|AT 14 O uT (fun w hS=>gf (dv:=oF) (off:=4) qg (hS.sl (i:=8) O) JL O O J O)<|AT 15 O uT (fun w hS=>dR cA O O RB (hS.blk (i:=0) O))<|AQ 16 O uT (run_move UH)<|AQ 17 O uT (af O)<|AQ 18 O uT (fA bU 3 O mq O)<|tV 19 O uT dL 4 O O rfl<|AQ 20 O uT (mV (I _) O)<|AT 21 O uT (fun w hS=>ag (hS.sl (i:=10) O) dL gN O O J)<|AT 22 O uT (fun w hS=>ld (hS.sl (i:=10) O) cA O O O J)<|A1 23<| ?_
    obtain⟨aMQ,aEo,aEp,ax9,aya⟩:=ah2 W0 ids tl hT _ _ _ _ f2 U6 ([_,_,_,_,_,_,_,_,_,_,_,_,_,_,_,_,_,_,_]++(IK++R)) _ _ _ _ (hlc.ops.mono (Le.zz (fun x hx=>bB _ (bB _ hx)))) hlc.DP hZ2 (YS.ok hf) Gh (Hp.rC (A:=[_,_,_,_,_,_,_,_,_,_,_,_,_,_,_,_,_,_,_]) (Zf:=U6) (R:=(IK++R)) pP)
    refine wF O aH O aya (iw ax9 (cs:=aEo) aEp O O) (fun u w' ⟨_,Z',_,h⟩=>Hp.sub (L:=_::_::_::_::_::_::_::_::_::_::_::_::_::_::_::_::_::_::_::(Z'++(IK++R))) (Hp.nU (A:=[_,_,_,_,_,_,_,_,_,_,_,_,_,_,_,_,_,_,_]) h) (sP (sP (sP (sP (sP (sP (sP (sP (sP (sP (sP (sP (sP (sP (sP (sP (sP (sP (sP (sA sR))))))))))))))))))))) ?_
    rintro x95 w90 ⟨ayb,Z93,aEq,h91⟩
    have ayc:Hp _ w90 (_::_::_::_::_::_::_::_::_::_::_::_::_::_::_::_::_::_::_::(Z93++(IK++R))):=Hp.nU (A:=[_,_,_,_,_,_,_,_,_,_,_,_,_,_,_,_,_,_,_]) h91
    rw[anh hlc.DP hlc.sh]at ayb
    subst ayb
    refine AD<|bk ayc (i:=0) O (ef O RB O (ayc.blk (i:=0) O))<|fun arE Dn=> ?_
    simp only[z2,gF,pull]at Dn
    refine aa<|au<|V (ax RA O J)<|mI rfl<|aa<|have hqq:¬qK (cM.getD (((bG (bg (rO cs (oe (bX ai.length qs)) ai.length)) k).drop 1).getD j.toNat 0).toNat dh) (uI (an.getD (aS.getD k.toNat 0).toNat oF).p.sh cM (cM.getD k.toNat dh) (((bG (bg (rO cs (oe (bX ai.length qs)) ai.length)) k).drop 1).take j.toNat)):=jM;?_
    refine⟨(j+1,(Wr.tick .j (an.getD (aS.getD k.toNat 0).toNat oF).d f2),Z93,(Z93++(IK++R))),?_,aiv.u4.u4.u4.u4.u4.u4.u4.u4.u4.u1.u1.u1,(Hp.conv Dn ade),(aJ I DK),?_,?_,aM,?_,?_⟩
    .exact(JC (JF ‹j<_›)).2 (Jz (JT _) _)
    .exact AH j0
    .exact‹j<_›
    .exact aEq
    exact(YS.trans (xw hlc.dep _).2.2).more (eI _) (eI _) (by rw[Int.toNat_add j0 ay];exact eI _)
   refine ak<|au<|V (ax RA O J)<|mI rfl<|aa<|have hqq:qK (cM.getD (((bG (bg (rO cs (oe (bX ai.length qs)) ai.length)) k).drop 1).getD j.toNat 0).toNat dh) (uI (an.getD (aS.getD k.toNat 0).toNat oF).p.sh cM (cM.getD k.toNat dh) (((bG (bg (rO cs (oe (bX ai.length qs)) ai.length)) k).drop 1).take j.toNat)):=jM;?_
   refine⟨(j+1,f2,U6,(U6++(IK++R))),?_,aiv.u4.u4.u4.u1.u1.u1,(Hp.conv II ade),(aJ I DK),?_,?_,aM,?_,?_⟩
   .exact(JC (JF ‹j<_›)).2 (Jz (JT _) _)
   .exact AH j0
   .exact‹j<_›
   .exact hZ2
   exact YS.more (eI _) (eI _) (Nat.add_le_add_left (Vw (AH (kY j))) _)
  refine aY (id:=4) rfl<|have ej:(uI (an.getD (aS.getD k.toNat 0).toNat oF).p.sh cM (cM.getD k.toNat dh) (((bG (bg (rO cs (oe (bX ai.length qs)) ai.length)) k).drop 1).take j.toNat))=(uI (an.getD (aS.getD k.toNat 0).toNat oF).p.sh cM (cM.getD k.toNat dh) ((bG (bg (rO cs (oe (bX ai.length qs)) ai.length)) k).drop 1)):=(by rw[iD J]);have hrb:(Br (bg (rO cs (oe (bX ai.length qs)) ai.length)) aX ai.length qs).length=ai.length:=(by unfold Br TB;rw[Cw (TC _),Cw (LH _ _)];simp);fC (z:=⟨some _,_,_,_,_,none⟩) aN O aN wU sR<|fun ayd MU=>have Ik:=MU;AQ 0 O Ik (run_move UH)<|AQ 1 O Ik (run_move ax7)<|AQ 2 O Ik (run_move aiw)<|AT 3 O Ik (fun w hS=>dR cA O O RB (hS.blk (i:=0) O))<|AQ 4 O Ik (run_move ax8)<|AQ 5 O Ik (run_move aiw)<|AT 6 O Ik (fun w hS=>ag (hS.sl (i:=2) O) cR cX O O J)<|AT 7 O Ik (fun w hS=>az dU O O ((hS.sl (i:=2) O).cell _ _ (kR (dv:=0#64) J)))<|AD<|ct O (zS _ _ _ J J J J J DI J (fun k hk=>⟨by(repeat apply fq);exact bB _ (bB _ (wI k hk).1),(wI k hk).2.1,fun i hi=>by have:=(wI k hk).2.2 i hi;omega⟩) _ (MT.mono fun e he=>by(repeat apply fq);exact bB _ he) M9 (MU.pj [4,4,4,4,4,4,4,4,4,4,4,4,4,4,4])) (q5 call130 O O O O O)<| ?_
  rintro _ asc ⟨rfl,aye,aEr,aEs,ayf,aah,aol,ayg,ayh,ah7,ayi⟩
  simp only[nE,wE]at ayi
  have aom:=Hp.lC (A:=[_,_,_,_,_,_,_,_,_,_,_,_,_,_,_]) (R:=[_,_,_,_]) ayi
  simp only[fH,dZ]at aom
  have xL:=aom.pk [15,15,15,15]
  have ayj:Hp W0 _ (_::_::_::_::_::_::_::_::_::_::_::_::_::_::_::_::_::_::_::(U6++(aah++(IK++R)))):=Hp.lC (A:=[_,_,_,_,_,_,_,_,_,_,_,_,_,_,_,_,_,_,_]) (B:=aah) (R:=U6) xL
  refine aa<|au<|V (ax asb O J)<|mI rfl<|aa<| ?_
  refine⟨(k+1,aye,aEr,aEs,(wH cM us (pe,lT) (bG (bg (rO cs (oe (bX ai.length qs)) ai.length)) k) (uI (an.getD (aS.getD k.toNat 0).toNat oF).p.sh cM (cM.getD k.toNat dh) (((bG (bg (rO cs (oe (bX ai.length qs)) ai.length)) k).drop 1).take j.toNat))).1,fX eo (bG (bg (rO cs (oe (bX ai.length qs)) ai.length)) k) ((Br (bg (rO cs (oe (bX ai.length qs)) ai.length)) aX ai.length qs).getD k.toNat 0),(wH cM us (pe,lT) (bG (bg (rO cs (oe (bX ai.length qs)) ai.length)) k) (uI (an.getD (aS.getD k.toNat 0).toNat oF).p.sh cM (cM.getD k.toNat dh) (((bG (bg (rO cs (oe (bX ai.length qs)) ai.length)) k).drop 1).take j.toNat))).2.1,(wH cM us (pe,lT) (bG (bg (rO cs (oe (bX ai.length qs)) ai.length)) k) (uI (an.getD (aS.getD k.toNat 0).toNat oF).p.sh cM (cM.getD k.toNat dh) (((bG (bg (rO cs (oe (bX ai.length qs)) ai.length)) k).drop 1).take j.toNat))).2.2,NE++ayf,aah++IK,U6,f2,(U6++(aah++(IK++R)))),?_,(((MB.u4.u4.u4.u4.u4.u4.u4.u1.u1.u1).t aiv O)).u4.u4.u4,(Hp.conv (ayj.sub (sQ (sQ sR))) PU),(aJ I DK),?_,?_,?_,?_,?_,?_,?_,?_,?_,?_,?_⟩
  .exact(JC (JF ‹k<(ai.length:Int)›)).2 (Jz (JT _) _)
  .exact AH h0
  .exact‹k<(ai.length:Int)›
  ·(simp only[dg])
  ·(rw[Bs h0,<-hs,Zz h0 J J];simp only[ej])
  .exact ah7
  .exact hZ2
  ·(rw[RX h0,aR (FR ‹¬eW _ _≠k›)];exact YS.more (eI _) (eI _) (Nat.add_le_add_left (Int.toNat_le.2 (by rw[<-vk];exact j1)) _))
  .exact MT.mono fun e he=>(by rw[dg];exact bB _ he)
  .exact(fun x hx=>by rw[<-dg]at hx;rcases eF.1 hx with q|q;exact⟨(aiu x q).1.mono (fun e he=>bB _ he),(aiu x q).2⟩;exact⟨(aol x q).1.mono (fun e he=>dy _ he),(aol x q).2⟩)
  ·(have:=ayg;rw[cV];omega)
  exact al5.trans ayh
 refine aY (id:=2) rfl<|have ek2:k.toNat=ai.length:=J;p5 O ⟨⟨(rO cs (oe (bX ai.length qs)) ai.length),⟨cM,eo,pe,lT⟩,Zy (bg (rO cs (oe (bX ai.length qs)) ai.length)) ai.length⟩,vW1,vU1,vT1,cW1,cU1,W1,lB,ts1,cn1,vd2,wZ,Ax,(new++NE),IK,Jq,f1,?_,rfl,?_,?_,?_,?_,?_,?_,?_,(iB.sub (sQ (sQ sR)))⟩
 .exact(aR jM).trans ((aP hne).trans (by rw[hs,ek2]))
 .exact MT
 .exact aiu
 ·(rw[cV];omega)
 .exact hbk.trans al5
 .exact ND
 ·(rw[ek2]at hcj;exact hcj)
 exact M9
end
end Go.Proofs.YtlhjdflgjbkpmaaGreatDoor.W

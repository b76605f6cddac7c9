/- Part 7 of the proof of FlowSteps: its plain laws and the walks of its functions. -/
import Derived.Test.YtlhjdflgjbkpmaaGreatDoorFlowStepsPartF
set_option linter.all false
namespace Go.Proofs.YtlhjdflgjbkpmaaGreatDoor.W
section
open Go Go.RowKit Go.Proofs.YtlhjdflgjbkpmaaGreatDoor.E Go.Proofs.YtlhjdflgjbkpmaaGreatDoor.M
set_option maxRecDepth 100000
open Go.Proofs.Tryz
variable{fr:List bu}
variable{W0 w:World}{n m:Nat}{cs:List (List Nat)}{wr:Value}{vL:Value}{vt:Value}{vv:Value}{vy:Value}{vu:Value}{vq:Value}{sn:Int}{vW:Value}{vU:Value}{vT:Value}{cn:Int}{sk:Bool}{wy:BitVec 64}{vd:Value}{vm:Value}{cW:Option (Nat×Array Value)}{cU:Option (Nat×Array Value)}{W:List (BitVec 64)}{ul:List (Value×jS)}{ts:List Int}{aq:List pP}{bf:List Int}{ak:List El}{bq:List (BitVec 64)}{us:List j4}{qs:List dD}{lg:List (Value×mw)}{tm:List Int}{L:List bu}
set_option maxHeartbeats 4000000 in
theorem En{b:Nat}{ql qi:Value}{cq:Option (Nat×Array Value)}{wl:List Int}{wi:List Bool}{ids:List Nat}{tl:List (Nat×Rl)}{f:Ct}{nk:Nat}{Zf R:List bu}(hm:m+ak.length<=100000)(T9:bq.length=ak.length)(OX:us.length=ak.length)(oy:(bB cs).length=ak.length)(QF:ak.length<=1000)(hlg:lg.length<=450000000000)(hwq:uV wl wi)(hwi:wi.length<=1000)(yh:∀k:Nat,k<us.length->dR 3 (us.getD k de)∈R/\(us.getD k de).l.length<=1000/\∀i∈(us.getD k de).l,0<=i/\i<wi.length)(hf:FF nk f)(hnk:nk<=100000000000)(Xm:0<=sn/\sn<=qs.length)(hqn:qs.length<=1000)(hpl:VR ak.length qs)(hlt:bf.length=ak.length)(hlr:∀k:Nat,k<bf.length->0<=bf.getD k 0/\bf.getD k 0<aq.length)(w:World)(hT:o6 W0)(hlv:VZ TX (Kz (Kw W0) R) ids tl aq)(hZ:kU (BG fr) ids f tl Zf)(Jn:ZE (Kz (Kw W0) R) qs)(h:xn FX n m cs vW vU cW cU W ul ts cn R)(hq:qO cq ql (wl.map I))(hH:Hp W0 w (nE n wr vL vt vv vy vu vq sn vW vU vT cn sk wy vd vm cW cU W ul ts aq bf ak bq us qs lg tm ((wE b ql qi cq wl wi ((Zf++R)))))):Calls Tryz.prog 84 #[pt n,pt b] w (jY fun u w'=>∃(r:CoO) (OF OG Xr:Value) (Q6 Q7:Option (Nat×Array Value)) (W':List (BitVec 64)) (zn:List (Value×jS)) (ts':List Int) (Q8:Int) (vd':Value) (Ud:Value) (Ue:Option (Nat×Array Value)) (new:List (Value×mw)) (Lb Z':List bu) (f':Ct),sV cs us aq bf qs sn ak.length ⟨ak,bq,wl,wi⟩=r/\u= .tuple #[]/\xn FX n (m+ak.length) r.cs OF OG Q6 Q7 W' zn ts' Q8 (Lb++R)/\(∀x∈new,nh NX n Lb x/\I2 x.2)/\new.length<=1001*ak.length/\iP new (NP.mk aq bf ak bq ((qh us)) qs sn cs sk wy wr) (NP.mk aq bf (r.s.ak) (r.s.bq) ((qh us)) qs sn (r.cs) sk wy wr)/\kU (BG fr) ids f' tl Z'/\pU f f' 0 0 r.j/\qO Ue Ud (r.s.wl.map I)/\Hp W0 w' (nE n wr vL vt vv vy vu vq sn (OF) (OG) (Xr) (Q8) sk wy (vd') vm (Q6) (Q7) (W') (zn) (ts') aq bf (r.s.ak) (r.s.bq) us qs (lg++new) tm ((wE b (Ud) qi (Ue) (r.s.wl) (r.s.wi) ((Z'++(Lb++R))))))):=by
 simp only[wE]at hH
 simp only[nE]at hH
 have aQj:=hwq.len
 refine en func84 rfl rfl<|ai<|SR<|aE (v:=Pn _ _) rfl<|aH O hH (Jm J _ (hH.blk (i:=0) O) (hH.sl (i:=9) O) (Jn.mono (hH.kz (Le.refl _) (fun x hx=>(mT (mT (mT (mT (mT (mT (mT (mT (mT (mT (mT (mT (mT (mT (mT (bH _ hx)))))))))))))))))))) (ay call122 O)<|fun w1 bp=>V (bJ O)<|aa<|bW O (fun h5=> ?_) (fun h5=> ?_)
 .refine aj<|rh O ⟨⟨cs,⟨ak,bq,wl,wi⟩,0⟩,vW,vU,vT,cW,cU,W,ul,ts,cn,vd,ql,cq,[],[],Zf,f,?_,rfl,?_,?_,?_,?_,?_,?_,?_,(by rw[mY];exact(bp))⟩
  .exact aT ku
  .exact h.more J
  .exact fun x hx=>by cases hx
  .exact nM _
  .exact iP.nil _
  .exact hZ
  .exact pU.refl f
  exact hq
 refine an<|SR<|aE (v:=Pn _ _) rfl<|V (af O)<|V (fA cr 8 O ph O)<|aH O bp (acI h J (bp.blk (i:=0) O) (bp.yR (i:=1) O h.hW)) (ay call123 O)<|fun w6 eE=>aI rfl<|aa<|ai<|SR<|aE (v:=Pn _ _) rfl<|IF O eE (Jo (Kw W0) J J (hpl) _ (eE.blk (i:=0) O) (eE.sl (i:=6) O) (eE.sl (i:=9) O) (Jn.mono (eE.kz (Le.refl _) (fun x hx=>(mT (mT (mT (mT (mT (mT (mT (mT (mT (mT (mT (mT (mT (mT (mT (bH _ hx)))))))))))))))))))) (ay call125 O)<|fun v10 I8 Z13 cP aGU=>have gT:Hp _ I8 (_::_::_::_::_::_::_::_::_::_::_::_::_::_::_::(Z13++(Zf++R))):=cP.HD (L:=[_,_,_,_,_,_,_,_,_,_,_,_,_,_,_]) (L':=(Zf++R));?_
 obtain⟨ae4,aAF,aGV⟩:=aGU
 have hgl:ae4.length=ak.length:=by have:=aK List.length aAF;rw[gA,FK]at this;exact this
 refine Cr O gT (ae1 _ ae4 J _ (aGV.mono (gT.kz (Le.refl _) (fun x hx=>(mT (mT (mT (mT (mT (mT (mT (mT (mT (mT (mT (mT (mT (mT (mT (dL _ hx)))))))))))))))))))) (ay call124 O)<|fun v21 Tq cT=>V (aC (cT.sl (i:=0) O) O bD O)<|aE (v:=I 0) rfl<|aa<|aA<| ?_
 obtain⟨Y,hY⟩:∃Y,Y=Z13++Zf:=⟨_,rfl⟩
 have cF:=cT
 rw[<-dG Z13 Zf R,<-hY]at cF
 have hks:pz (qh ae4)=(pz (cz ak.length qs)):=by rw[aAF]
 have hkl:(pz (qh ae4)).length=ak.length:=by rw[anm,gA];exact hgl
 refine bt (G:=Int×Value×Value×Value×(Option (Nat×Array Value))×(Option (Nat×Array Value))×(List (BitVec 64))×(List (Value×jS))×(List Int)×Int×Value×(List (Value×mw))×(List bu)×(List bu)) (fun⟨k,vW1,vU1,vT1,cW1,cU1,W1,mv,ts1,cn1,W9,new,Lb,Z1⟩ s' w'=>(Fr (5::6::(rg 24 10 [])) _ s')/\(Hp W0 w' (.row v21 3 1 ae4.length ((pz (qh ae4)).map I):: .blk n (.cells #[wr,vL,vt,vv,vy,vu,vq,I sn,vW1,vU1,vT1,I cn1,B sk,U wy,W9,vm] 111 (0,0))::cE cW1 vW1 35 (W1.map U)::cE cU1 vU1 1 (mv.map Prod.fst)::jW I vT1 3 ts1::wh Xn 13 vL 119 aq::jW I vt 3 bf::wh pJ 8 vv 37 ak::jW U vy 35 bq::jW j4.v vu 99 us::wh qk 13 vq 128 qs::jW Prod.fst W9 1 (lg++new)::jW I vm 3 tm::_::_::_::Z1))/\(s' 24=I k)/\(0<=k)/\(k<=ak.length)/\(Z1=Y++(Lb++R))/\(xn FX n (m+k.toNat) ((s5 cs (pz (cz ak.length qs)) k.toNat)) vW1 vU1 cW1 cU1 W1 mv ts1 cn1 (Lb++R))/\(∀x∈new,nh NX n Lb x/\I2 x.2)/\(new.length<=k.toNat)/\(iP new (NP.mk aq bf ak bq ((qh us)) qs sn cs sk wy wr) (NP.mk aq bf ak bq ((qh us)) qs sn ((s5 cs (pz (cz ak.length qs)) k.toNat)) sk wy wr))) (fun⟨k,vW1,vU1,vT1,cW1,cU1,W1,mv,ts1,cn1,W9,new,Lb,Z1⟩=>(ak.length-k).toNat) ((0,vW,vU,vT,cW,cU,W,ul,ts,cn,vd,[],[],(Y++([]++R)))) ⟨Fr.refl _ _,(by rw[mY];exact cF),rfl,J,J,rfl,h.more J,(fun x hx=>by cases hx),nM _,iP.nil _⟩ ?_
 rintro⟨k,vW1,vU1,vT1,cW1,cU1,W1,mv,ts1,cn1,W9,new,Lb,Z1⟩ aE9 w23 ⟨aeT,eM,TP,h0,hk,hz,hfo,Xs,hnl,hbk⟩
 obtain⟨Xc,QY,aAG,auM,auN⟩:=aeT.w5 0 1 4 22 23
 subst hz
 refine SR<|V (aN TP auN)<|aa<|ai<|aF O (fun Jc=> ?_) (fun Jc=> ?_)
 .refine an<|ai<|aA<|SR<|aE TP<|V (ah (eM.sl (i:=0) O) bD aO auM TP J)<|V (aG bx O O ((eM.sl (i:=0) O).cell _ _ (eS J)))<|aI rfl<|aI rfl<|aa<|au<|aE Xc<|mI rfl<|mI rfl<|cD O (Jr _ _ J Fi _ hfo (R:=[_,_,_,_]++Y) (eM.pj [1,1,1,1,1,1,1,1,1,1,1,1])) (bz call126 O O O)<| ?_
  rintro _ w44 ⟨rfl,aGW,aGX,aGY,aGZ,aG0,W33,auh,aG1,aG2,aG3,aG4,aAH,aqW,aAI,aQl,aAJ,rY⟩
  simp only[nE,gB,eN]at rY
  have oe:=rY.pk [12]
  rw[hks]at aqW aAJ
  refine aa<|au<|V (ax TP O J)<|mI rfl<|aa<| ?_
  refine⟨(k+1,aGW,aGX,aGY,aGZ,aG0,W33,auh,aG1,aG2,aG3,new++aG4,aAH++Lb,(Y++(aAH++(Lb++R)))),aW,aeT.u4.u4.u4,(Hp.conv oe RR),(aK I xZ),J,J,?_,?_,?_,?_,?_⟩
  ·(simp only[dG])
  ·(rw[GX h0,dG];exact aqW.more (by split<;>omega))
  .exact(fun x hx=>by rcases e8.1 hx with q|q;exact⟨(Xs x q).1.mono (fun e he=>bH _ he),(Xs x q).2⟩;exact⟨(aAI x q).1.mono (fun e he=>dL _ he),(aAI x q).2⟩)
  ·(rw[ec];omega)
  (rw[GX h0];exact hbk.trans aAJ)
 refine a8 (id:=0) rfl<|ai<|SR<|have ek:k.toNat=ak.length:=J;?_
 rw[ek]at hfo hbk
 have aoy:(bB (s5 cs (pz (cz ak.length qs)) ak.length)).length=ak.length:=by rw[xo];omega
 have oY:Hp W0 _ (_::_::_::_::_::_::_::_::_::_::_::_::_::_::_::_::(Zf++(Lb++R))):=eM.sub (sP (sP (sP (sP (sP (sP (sP (sP (sP (sP (sP (sP (sP (sP (sP (sP (XL (hY▸Xy _ _) sR)))))))))))))))))
 refine aE Xc<|V (af O)<|V (fA cr 8 O ph O)<|aH O oY (acI hfo J (oY.blk (i:=1) O) (oY.yR (i:=2) O hfo.hW)) (ay call123 O)<|fun w48 FR=>aE aAG<|V (bV O O)<|aa<|aF O (fun h51=> ?_) (fun h51=> ?_)
 .refine aj<|rh O ⟨⟨(s5 cs (pz (cz ak.length qs)) ak.length),⟨ak,bq,wl,wi⟩,0⟩,vW1,vU1,vT1,cW1,cU1,W1,mv,ts1,cn1,W9,ql,cq,new,Lb,Zf,f,?_,rfl,?_,?_,J,?_,?_,?_,?_,(FR.sub (sQ sR))⟩
  .exact(aX ku).trans (aX J)
  .exact hfo
  .exact Xs
  .exact hbk
  .exact hZ
  .exact pU.refl f
  exact hq
 refine an<|SR<|aE Xc<|Cr O FR (FZ J J J J J (hpl) _ (FR.blk (i:=1) O) (FR.sl (i:=7) O) (FR.sl (i:=8) O) (FR.sl (i:=10) O) (FR.yR (i:=2) O hfo.hW) (Jn.mono (FR.kz (Le.refl _) (fun x hx=>(mT (mT (mT (mT (mT (mT (mT (mT (mT (mT (mT (mT (mT (mT (mT (mT (bH _ (bH _ hx))))))))))))))))))))) hfo) (ay call127 O)<|fun v54 w52 jD=> ?_
 refine V (run_assign bA) ?_
 refine aa<|SR<|aE Xc<|V (af O)<|V (fA cr 3 O jq O)<|lV bU jD 2 O O rfl<|V (aC (jD.sl (i:=8) O) O bU O)<|aE (v:=I 0) rfl<|aa<|aA<|have hfr:=hfo.find aoy;have hne:¬leads (bB (s5 cs (pz (cz ak.length qs)) ak.length))=leads (bB cs):=J;bt (G:=Int×Value×Value×(Option (Nat×Array Value))×(List El)×(List (BitVec 64))×(List Int)×(List Bool)×(List (Value×mw))×(List bu)×(List bu)×Ct×(List bu)) (fun⟨k,vd2,yD,B3,dc,eK,qp,mX,Pz,Ks,F5,f1,Z1⟩ s' w'=>(Fr (rg 8 3 (12::(rg 47 76 []))) _ s')/\(Hp W0 w' (_::_:: .blk n (.cells #[wr,vL,vt,vv,vy,vu,vq,I sn,vW1,vU1,vT1,I cn1,B sk,U wy,vd2,vm] 111 (0,0))::cE cW1 vW1 35 (W1.map U)::cE cU1 vU1 1 (mv.map Prod.fst)::jW I vT1 3 ts1::wh Xn 13 vL 119 aq::jW I vt 3 bf::wh pJ 8 vv 37 dc::jW U vy 35 eK::jW j4.v vu 99 us::wh qk 13 vq 128 qs::jW Prod.fst vd2 1 (lg++(new++Pz))::jW I vm 3 tm:: .blk b (.cells #[yD,qi] 156 (0,0))::qE B3 yD 3 (qp.map I)::jW B qi 4 mX::Z1))/\(s' 47=I k)/\(0<=k)/\(k<=ak.length)/\(Z1=F5++(Ks++R))/\((⟨dc,eK,qp,mX⟩:yV)=(coA (bB (s5 cs (pz (cz ak.length qs)) ak.length)) us aq bf (CQ (bB (s5 cs (pz (cz ak.length qs)) ak.length)) bq ak.length qs) ⟨ak,bq,wl,wi⟩ k.toNat))/\(qO B3 yD (qp.map I))/\(kU (BG fr) ids f1 tl F5)/\(pU f f1 0 0 (coJ (bB (s5 cs (pz (cz ak.length qs)) ak.length)) k.toNat))/\(xn FX n (m+ak.length) ((s5 cs (pz (cz ak.length qs)) ak.length)) vW1 vU1 cW1 cU1 W1 mv ts1 cn1 (Ks++R))/\(∀x∈new++Pz,nh NX n Ks x/\I2 x.2)/\(Pz.length<=1000*k.toNat)/\(iP Pz (NP.mk aq bf ak bq ((qh us)) qs sn ((s5 cs (pz (cz ak.length qs)) ak.length)) sk wy wr) (NP.mk aq bf dc eK ((qh us)) qs sn ((s5 cs (pz (cz ak.length qs)) ak.length)) sk wy wr))) (fun⟨k,vd2,yD,B3,dc,eK,qp,mX,Pz,Ks,F5,f1,Z1⟩=>(ak.length-k).toNat) ((0,W9,ql,cq,ak,bq,wl,wi,[],Lb,Zf,f,(Zf++(Lb++R)))) ⟨Fr.refl _ _,(by rw[mY];exact jD),rfl,J,J,rfl,rfl,hq,hZ,pU.refl f,hfo,(by rw[mY];exact Xs),nM _,iP.nil _⟩<| ?_
 rintro⟨k,vd2,yD,B3,dc,eK,qp,mX,Pz,Ks,F5,f1,Z1⟩ ayt w55 ⟨On,jC,OK,h0,hk,hz,hs,OZ,JZ,hcj,OL,akT,aAK,aoz⟩
 obtain⟨WL,auP⟩:=On.w2 7 46
 obtain⟨acN,Ht⟩:=On.t2 0 Xc 1 QY
 subst hz
 have ok1:=ZI (cl:=(bB (s5 cs (pz (cz ak.length qs)) ak.length))) (us:=us) (aq:=aq) (bf:=bf) (rs:=(CQ (bB (s5 cs (pz (cz ak.length qs)) ak.length)) bq ak.length qs)) (fun k hk=>(yh k hk).2.2) J (⟨rfl,rfl,rfl,hwq⟩:QD wi.length ak.length bq.length ⟨ak,bq,wl,wi⟩) k.toNat
 rw[<-hs]at ok1
 have lv1:dc.length=ak.length:=ok1.lv
 have ly1:eK.length=bq.length:=ok1.ly
 have li1:mX.length=wi.length:=ok1.li
 have wq1:=ok1.wq.len
 simp only at wq1
 have aG6:=ZH (cl:=(bB (s5 cs (pz (cz ak.length qs)) ak.length))) k.toNat
 have aQn:coJ (bB (s5 cs (pz (cz ak.length qs)) ak.length)) k.toNat<=1000*1000:=kL aG6 (xQ J J)
 refine SR<|V (aN OK auP)<|aa<|ai<|aF O (fun Pu=> ?_) (fun Pu=> ?_)
 .refine an<|ai<|aA<|SR<|aE OK<|aI rfl<|aa<|ai<|SR<|aE acN<|V (af O)<|V (fA cr 8 O ph O)<|mI rfl<|aH O jC (FV _ OL J (jC.blk (i:=2) O) (jC.yR (i:=3) O hfo.hW)) (aM Ff O O)<|fun w58 BT=>mI rfl<|V (jZ O O)<|aa<|aF O (fun h61=> ?_) (fun h61=> ?_)
  .refine a8 (id:=3) rfl<|au<|V (ax OK O J)<|mI rfl<|aa<| ?_
   refine⟨(k+1,vd2,yD,B3,dc,eK,qp,mX,Pz,Ks,F5,f1,(F5++(Ks++R))),?_,On.u4.u4.u4,(Hp.conv BT RR),(aK I xZ),?_,?_,aL,?_,?_,?_,?_,?_,?_,?_,?_⟩
   .exact(Lq (Lt ‹k<(ak.length:Int)›)).2 (Lo (LF _) _)
   .exact B9 h0
   .exact‹k<(ak.length:Int)›
   ·(rw[CR h0,<-hs,S7 h0 (by rintro⟨a,b⟩;omega)])
   .exact OZ
   .exact JZ
   .exact hcj.more (fh _) (fh _) aaZ
   .exact OL
   .exact akT
   .exact kL aAK (Nat.mul_le_mul_left _ (XR (B9 (lY k))))
   exact aoz
  refine an<|SR<|aE acN<|V (af O)<|V (fA cr 8 O ph O)<|mI rfl<|Cr O BT (acJ _ OL J (BT.blk (i:=2) O) (BT.yR (i:=3) O hfo.hW)) (aM call129 O O)<|fun v64 w62 nU=> ?_
  refine V (run_assign bA) ?_
  refine aa<|ai<|SR<|have aQp:=aiU (cl:=(bB (s5 cs (pz (cz ak.length qs)) ak.length))) (k:=k) ⟨h0,J⟩;have anf:=wo (cl:=(bB (s5 cs (pz (cz ak.length qs)) ak.length))) (i:=k);?_
  refine V (run_move bA) ?_
  refine V (aC (nU.sl (i:=0) O) O bD O)<|V (bV O O)<|aa<|aF O (fun Hh=> ?_) (fun Hh=> ?_)
  .refine a8 (id:=3) rfl<|au<|V (ax OK O J)<|mI rfl<|aa<| ?_
   refine⟨(k+1,vd2,yD,B3,dc,eK,qp,mX,Pz,Ks,F5,f1,(F5++(Ks++R))),?_,On.u4.u4.u4.u4.u4.u1,(Hp.conv (nU.sub (sQ sR)) RR),(aK I xZ),?_,?_,aL,?_,?_,?_,?_,?_,?_,?_,?_⟩
   .exact(Lq (Lt ‹k<(ak.length:Int)›)).2 (Lo (LF _) _)
   .exact B9 h0
   .exact‹k<(ak.length:Int)›
   ·(rw[CR h0,<-hs,S7 h0 (by rintro⟨a,b⟩;omega)])
   .exact OZ
   .exact JZ
   .exact hcj.more (fh _) (fh _) aaZ
   .exact OL
   .exact akT
   .exact kL aAK (Nat.mul_le_mul_left _ (XR (B9 (lY k))))
   exact aoz
  refine an<|SR<|have hlk:=hlr k.toNat J;have hlc:=hlv.at hlk.1 hlk.2;aE acN<|V (af O)<|V (fA cr 3 O jq O)<|lV bU nU 3 O O rfl<|mI rfl<|V (ah (nU.sl (i:=9) O) bU fl O O J)<|V (gz (nU.sl (i:=9) O) bI O O O J)<|lK nU (aS eZ)<|fun b69 w67 kG=>bk kG (i:=0) O (cR O O O (kG.blk (i:=0) O))<|fun w72 uX=> ?_
  simp only[z2,dr,pull]at uX
  refine aa<|ai<|SR<| ?_
  refine V (run_move bA) ?_
  refine V (gD (uX.sl (i:=1) O) bD aO O O J)<|V (aC (Sl.frI (uX.sl (i:=1) O) 1 J) O bD O)<|aE (v:=I 0) rfl<|aa<|aA<|bt (G:=Int×Ct×(List bu)×(List bu)) (fun⟨j,f2,Xt,Z2⟩ s' w'=>(Fr (12::(rg 75 38 [])) _ s')/\(Hp W0 w' (.blk b69 (.cells (Value.agg (iM (wu (aq.getD (bf.getD k.toNat 0).toNat pT).p.sh dc (dc.getD k.toNat dg) (((bP (bB (s5 cs (pz (cz ak.length qs)) ak.length)) k).drop 1).take j.toNat)))).cells 37 (0,0))::_::_::_::_::_::_::_::_::_::_::_::_::_::_::_::_::_::_::Z2))/\(s' 75=I j)/\(0<=j)/\(j<=((bP (bB (s5 cs (pz (cz ak.length qs)) ak.length)) k).drop 1).length)/\(Z2=Xt++(Ks++R))/\(kU (BG fr) ids f2 tl Xt)/\(pU f f2 0 0 (coJ (bB (s5 cs (pz (cz ak.length qs)) ak.length)) k.toNat+j.toNat))) (fun⟨j,f2,Xt,Z2⟩=>(((bP (bB (s5 cs (pz (cz ak.length qs)) ak.length)) k).drop 1).length-j).toNat) ((0,f1,F5,(F5++(Ks++R)))) ⟨Fr.refl _ _,uX,rfl,J,J,rfl,JZ,hcj⟩<| ?_
  rintro⟨j,f2,Xt,Z2⟩ aQq w74 ⟨akU,uZ,TQ,j0,j1,hz2,hZ2,hc2⟩
  obtain⟨akV,TR,auQ,auR⟩:=akU.w4 8 10 73 74
  obtain⟨Xd,aAM,aAN,auS⟩:=akU.t4 0 acN 1 Ht 7 WL 47 OK
  subst hz2
  have hdl:=yE (i:=1) (l:=(bP (bB (s5 cs (pz (cz ak.length qs)) ak.length)) k))
  refine SR<|V (aN TQ auR)<|aa<|ai<|aF O (fun h76=> ?_) (fun h76=> ?_)
  .refine an<|ai<|aA<|SR<|V (ah (Sl.frI (uZ.sl (i:=1) O) 1 J) bD aO auQ TQ J)<|have hkm:=mL (sw (dy (d:=0) j0 ‹j<_›));V (aG bx O O ((Sl.frI (uZ.sl (i:=1) O) 1 J).cell _ _ (eS J)))<|aI rfl<|aa<|ai<|ed aP uZ<|fun w77 zk=>have Dg:=zk;AQ 0 O Dg (run_move Xd)<|AQ 1 O Dg (af O)<|AQ 2 O Dg (fA cr 3 O jq O)<|tV 3 O Dg bU 4 O O rfl<|AQ 4 O Dg (mV (I _) O)<|AT 5 O Dg (fun w hS=>ah (hS.sl (i:=10) O) bU fl O O J)<|AT 6 O Dg (fun w hS=>gz (hS.sl (i:=10) O) bI O O O J)<|AT 7 O Dg (fun w hS=>cN bI O O TR (hS.blk (i:=0) O))<|AQ 8 O Dg (PX CZ O O)<|AD<|bW O (fun h80=> ?_) (fun h80=> ?_)
   .refine fW (z:=⟨none,_,_,_,_,none⟩) aP O aP zk (sP (sP (sP (sP (sP (sP (sP (sP (sP (sP (sP (sP (sP (sP (sP (sP (sP (sP (sP (sA sR))))))))))))))))))))<|fun w81 oZ=>have wG:=oZ.sub (sP (sP (sP (sP (sP (sP (sP (sP (sP (sP (sP (sP (sP (sP (sP (sP (sP (sP (sP (sA sR))))))))))))))))))));AQ 0 O wG (run_move Xd)<|AQ 1 O wG (af O)<|AQ 2 O wG (fA cr 1 O uq O)<|tV 3 O wG o5 4 O O rfl<|AQ 4 O wG (run_move Xd)<|AQ 5 O wG (af O)<|AQ 6 O wG (fA cr 2 O dH O)<|tV 7 O wG bD 4 O O rfl<|AQ 8 O wG (run_move akV)<|AT 9 O wG (fun w hS=>ah (hS.sl (i:=9) O) bD aO O O J)<|AT 10 O wG (fun w hS=>aG bx O O ((hS.sl (i:=9) O).cell _ _ (eS J)))<|AT 11 O wG (fun w hS=>ah (hS.sl (i:=8) O) o5 sizeOf119 O O J)<|AQ 12 O wG (fA Cb 2 O sizeOf117 O)<|AQ 13 O wG (fA qX 2 O sizeOf115 O)<|AT 14 O wG (fun w hS=>gC (dv:=pT) (off:=4) rF (hS.sl (i:=8) O) Lz O O J O)<|AT 15 O wG (fun w hS=>cN bI O O TR (hS.blk (i:=0) O))<|AQ 16 O wG (run_move Xd)<|AQ 17 O wG (af O)<|AQ 18 O wG (fA cr 3 O jq O)<|tV 19 O wG bU 4 O O rfl<|AQ 20 O wG (mV (I _) O)<|AT 21 O wG (fun w hS=>ah (hS.sl (i:=10) O) bU fl O O J)<|AT 22 O wG (fun w hS=>gz (hS.sl (i:=10) O) bI O O O J)<|A1 23<| ?_
    obtain⟨aQt,aG7,aG8,aAO,aAP⟩:=aku W0 ids tl hT _ _ _ _ f2 Xt ([_,_,_,_,_,_,_,_,_,_,_,_,_,_,_,_,_,_,_]++(Ks++R)) _ _ _ _ (hlc.ops.mono (Le.zz (fun x hx=>bH _ (bH _ hx)))) hlc.Fp hZ2 (hc2.ok hf) Ia (Hp.sN (A:=[_,_,_,_,_,_,_,_,_,_,_,_,_,_,_,_,_,_,_]) (Zf:=Xt) (R:=(Ks++R)) oZ)
    refine ye O aD O aAP (jb aAO (cs:=aG7) aG8 O O) (fun u w' ⟨_,Z',_,h⟩=>Hp.sub (L:=_::_::_::_::_::_::_::_::_::_::_::_::_::_::_::_::_::_::_::(Z'++(Ks++R))) (Hp.pc (A:=[_,_,_,_,_,_,_,_,_,_,_,_,_,_,_,_,_,_,_]) h) (sP (sP (sP (sP (sP (sP (sP (sP (sP (sP (sP (sP (sP (sP (sP (sP (sP (sP (sP (sA sR))))))))))))))))))))) ?_
    rintro x95 w90 ⟨aAQ,Z93,aG9,h91⟩
    have Jh:Hp _ w90 (_::_::_::_::_::_::_::_::_::_::_::_::_::_::_::_::_::_::_::(Z93++(Ks++R))):=Hp.pc (A:=[_,_,_,_,_,_,_,_,_,_,_,_,_,_,_,_,_,_,_]) h91
    rw[apR hlc.Fp hlc.sh]at aAQ
    subst aAQ
    refine AD<|bk Jh (i:=0) O (cR O TR O (Jh.blk (i:=0) O))<|fun auk EY=> ?_
    simp only[z2,dr,pull]at EY
    refine aa<|au<|V (ax TQ O J)<|mI rfl<|aa<|have hqq:¬rR (dc.getD (((bP (bB (s5 cs (pz (cz ak.length qs)) ak.length)) k).drop 1).getD j.toNat 0).toNat dg) (wu (aq.getD (bf.getD k.toNat 0).toNat pT).p.sh dc (dc.getD k.toNat dg) (((bP (bB (s5 cs (pz (cz ak.length qs)) ak.length)) k).drop 1).take j.toNat)):=ku;?_
    refine⟨(j+1,(Wr.tick .j (aq.getD (bf.getD k.toNat 0).toNat pT).d f2),Z93,(Z93++(Ks++R))),?_,akU.u4.u4.u4.u4.u4.u4.u4.u4.u4.u1.u1.u1,(Hp.conv EY afF),(aK I xZ),?_,?_,aL,?_,?_⟩
    .exact(Lq (Lt ‹j<_›)).2 (Lo (LF _) _)
    .exact B9 j0
    .exact‹j<_›
    .exact aG9
    exact(hc2.trans (yU hlc.dep _).2.2).more (fh _) (fh _) (by rw[Int.toNat_add j0 az];exact fh _)
   refine an<|au<|V (ax TQ O J)<|mI rfl<|aa<|have hqq:rR (dc.getD (((bP (bB (s5 cs (pz (cz ak.length qs)) ak.length)) k).drop 1).getD j.toNat 0).toNat dg) (wu (aq.getD (bf.getD k.toNat 0).toNat pT).p.sh dc (dc.getD k.toNat dg) (((bP (bB (s5 cs (pz (cz ak.length qs)) ak.length)) k).drop 1).take j.toNat)):=ku;?_
   refine⟨(j+1,f2,Xt,(Xt++(Ks++R))),?_,akU.u4.u4.u4.u1.u1.u1,(Hp.conv zk afF),(aK I xZ),?_,?_,aL,?_,?_⟩
   .exact(Lq (Lt ‹j<_›)).2 (Lo (LF _) _)
   .exact B9 j0
   .exact‹j<_›
   .exact hZ2
   exact hc2.more (fh _) (fh _) (Nat.add_le_add_left (XR (B9 (lY j))) _)
  refine a8 (id:=4) rfl<|have ej:(wu (aq.getD (bf.getD k.toNat 0).toNat pT).p.sh dc (dc.getD k.toNat dg) (((bP (bB (s5 cs (pz (cz ak.length qs)) ak.length)) k).drop 1).take j.toNat))=(wu (aq.getD (bf.getD k.toNat 0).toNat pT).p.sh dc (dc.getD k.toNat dg) ((bP (bB (s5 cs (pz (cz ak.length qs)) ak.length)) k).drop 1)):=(by rw[jm J]);have hrb:(CQ (bB (s5 cs (pz (cz ak.length qs)) ak.length)) bq ak.length qs).length=ak.length:=(by unfold CQ VT;rw[D0 (VU _),D0 (Nu _ _)];simp);fW (z:=⟨some _,_,_,_,_,none⟩) aP O aP uZ sR<|fun aAR OM=>have J1:=OM;AQ 0 O J1 (run_move Xd)<|AQ 1 O J1 (run_move aAM)<|AQ 2 O J1 (run_move akV)<|AT 3 O J1 (fun w hS=>cN bI O O TR (hS.blk (i:=0) O))<|AQ 4 O J1 (run_move aAN)<|AQ 5 O J1 (run_move akV)<|AT 6 O J1 (fun w hS=>ah (hS.sl (i:=2) O) dh cQ O O J)<|AT 7 O J1 (fun w hS=>aG dM O O ((hS.sl (i:=2) O).cell _ _ (lN (dv:=0#64) J)))<|AD<|cD O (Bw _ _ _ J J J J J Fi J (fun k hk=>⟨by(repeat apply fX);exact bH _ (bH _ (yh k hk).1),(yh k hk).2.1,fun i hi=>by have:=(yh k hk).2.2 i hi;omega⟩) _ (OL.mono fun e he=>by(repeat apply fX);exact bH _ he) OZ (OM.pj [4,4,4,4,4,4,4,4,4,4,4,4,4,4,4])) (sE call130 O O O O O)<| ?_
  rintro _ auT ⟨rfl,aAS,aHa,aHb,aAT,acO,aqX,aAU,aAV,akz,aAW⟩
  simp only[nE,wE]at aAW
  have aqY:=Hp.mK (A:=[_,_,_,_,_,_,_,_,_,_,_,_,_,_,_]) (R:=[_,_,_,_]) aAW
  simp only[gB,eN]at aqY
  have zo:=aqY.pk [15,15,15,15]
  have Rb:Hp W0 _ (_::_::_::_::_::_::_::_::_::_::_::_::_::_::_::_::_::_::_::(Xt++(acO++(Ks++R)))):=Hp.mK (A:=[_,_,_,_,_,_,_,_,_,_,_,_,_,_,_,_,_,_,_]) (B:=acO) (R:=Xt) zo
  refine aa<|au<|V (ax auS O J)<|mI rfl<|aa<| ?_
  refine⟨(k+1,aAS,aHa,aHb,(yg dc us (qp,mX) (bP (bB (s5 cs (pz (cz ak.length qs)) ak.length)) k) (wu (aq.getD (bf.getD k.toNat 0).toNat pT).p.sh dc (dc.getD k.toNat dg) (((bP (bB (s5 cs (pz (cz ak.length qs)) ak.length)) k).drop 1).take j.toNat))).1,gE eK (bP (bB (s5 cs (pz (cz ak.length qs)) ak.length)) k) ((CQ (bB (s5 cs (pz (cz ak.length qs)) ak.length)) bq ak.length qs).getD k.toNat 0),(yg dc us (qp,mX) (bP (bB (s5 cs (pz (cz ak.length qs)) ak.length)) k) (wu (aq.getD (bf.getD k.toNat 0).toNat pT).p.sh dc (dc.getD k.toNat dg) (((bP (bB (s5 cs (pz (cz ak.length qs)) ak.length)) k).drop 1).take j.toNat))).2.1,(yg dc us (qp,mX) (bP (bB (s5 cs (pz (cz ak.length qs)) ak.length)) k) (wu (aq.getD (bf.getD k.toNat 0).toNat pT).p.sh dc (dc.getD k.toNat dg) (((bP (bB (s5 cs (pz (cz ak.length qs)) ak.length)) k).drop 1).take j.toNat))).2.2,Pz++aAT,acO++Ks,Xt,f2,(Xt++(acO++(Ks++R)))),?_,(((On.u4.u4.u4.u4.u4.u4.u4.u1.u1.u1).t akU O)).u4.u4.u4,(Hp.conv (Rb.sub (sQ (sQ sR))) RR),(aK I xZ),?_,?_,?_,?_,?_,?_,?_,?_,?_,?_,?_⟩
  .exact(Lq (Lt ‹k<(ak.length:Int)›)).2 (Lo (LF _) _)
  .exact B9 h0
  .exact‹k<(ak.length:Int)›
  ·(simp only[dG])
  ·(rw[CR h0,<-hs,abZ h0 J J];simp only[ej])
  .exact akz
  .exact hZ2
  ·(rw[Ui h0,aX (HJ ‹¬fN _ _≠k›)];exact hc2.more (fh _) (fh _) (Nat.add_le_add_left (Int.toNat_le.2 (by rw[<-yE];exact j1)) _))
  .exact OL.mono fun e he=>(by rw[dG];exact bH _ he)
  .exact(fun x hx=>by rw[<-dG]at hx;rcases e8.1 hx with q|q;exact⟨(akT x q).1.mono (fun e he=>bH _ he),(akT x q).2⟩;exact⟨(aqX x q).1.mono (fun e he=>dL _ he),(aqX x q).2⟩)
  ·(have:=aAU;rw[ec];omega)
  exact aoz.trans aAV
 refine a8 (id:=2) rfl<|have ek2:k.toNat=ak.length:=J;rh O ⟨⟨(s5 cs (pz (cz ak.length qs)) ak.length),⟨dc,eK,qp,mX⟩,coJ (bB (s5 cs (pz (cz ak.length qs)) ak.length)) ak.length⟩,vW1,vU1,vT1,cW1,cU1,W1,mv,ts1,cn1,vd2,yD,B3,(new++Pz),Ks,F5,f1,?_,rfl,?_,?_,?_,?_,?_,?_,?_,(jC.sub (sQ (sQ sR)))⟩
 .exact(aX ku).trans ((aT hne).trans (by rw[hs,ek2]))
 .exact OL
 .exact akT
 ·(rw[ec];omega)
 .exact hbk.trans aoz
 .exact JZ
 ·(rw[ek2]at hcj;exact hcj)
 exact OZ
end
end Go.Proofs.YtlhjdflgjbkpmaaGreatDoor.W

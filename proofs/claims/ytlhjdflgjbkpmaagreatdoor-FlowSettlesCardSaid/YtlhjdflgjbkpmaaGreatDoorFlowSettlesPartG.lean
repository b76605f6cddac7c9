/- Part 7 of the proof of FlowSettles: its plain laws and the walks of its functions. -/
import Derived.Test.YtlhjdflgjbkpmaaGreatDoorFlowSettlesPartF
set_option linter.all false
namespace Go.Proofs.YtlhjdflgjbkpmaaGreatDoor.W
section
open Go Go.RowKit Go.Proofs.YtlhjdflgjbkpmaaGreatDoor.E Go.Proofs.YtlhjdflgjbkpmaaGreatDoor.M
set_option maxRecDepth 100000
open Go.Proofs.Tryz
variable{fr:List bu}
variable{W0 w:World}{n m:Nat}{cs:List (List Nat)}{wr:Value}{vL:Value}{vt:Value}{vv:Value}{vy:Value}{vu:Value}{vq:Value}{sn:Int}{vW:Value}{vU:Value}{vT:Value}{cn:Int}{sk:Bool}{wy:BitVec 64}{vd:Value}{vm:Value}{cW:Option (Nat×Array Value)}{cU:Option (Nat×Array Value)}{W:List (BitVec 64)}{ul:List (Value×jQ)}{ts:List Int}{aq:List pO}{a8:List Int}{ak:List El}{bq:List (BitVec 64)}{us:List jY}{qs:List dD}{lg:List (Value×my)}{tm:List Int}{L:List bu}
set_option maxHeartbeats 4000000 in
theorem Ef{b:Nat}{ql qi:Value}{cq:Option (Nat×Array Value)}{wl:List Int}{wi:List Bool}{ids:List Nat}{tl:List (Nat×Rl)}{f:Ct}{nk:Nat}{Zf R:List bu}(hm:m+ak.length<=100000)(T3:bq.length=ak.length)(OQ:us.length=ak.length)(ov:(bB cs).length=ak.length)(Qw:ak.length<=1000)(hlg:lg.length<=450000000000)(hwq:uW wl wi)(hwi:wi.length<=1000)(yf:∀k:Nat,k<us.length->dQ 3 (us.getD k de)∈R/\(us.getD k de).l.length<=1000/\∀i∈(us.getD k de).l,0<=i/\i<wi.length)(hf:Fy nk f)(hnk:nk<=100000000000)(Xj:0<=sn/\sn<=qs.length)(hqn:qs.length<=1000)(hpl:VN ak.length qs)(hlt:a8.length=ak.length)(hlr:∀k:Nat,k<a8.length->0<=a8.getD k 0/\a8.getD k 0<aq.length)(w:World)(hT:o3 W0)(hlv:VV TX (Kz (Kw W0) R) ids tl aq)(hZ:kR (BE fr) ids f tl Zf)(Jh:ZA (Kz (Kw W0) R) qs)(h:xn FX n m cs vW vU cW cU W ul ts cn R)(hq:qO cq ql (wl.map I))(hH:Hp W0 w (nE n wr vL vt vv vy vu vq sn vW vU vT cn sk wy vd vm cW cU W ul ts aq a8 ak bq us qs lg tm ((wE b ql qi cq wl wi ((Zf++R)))))):Calls Tryz.prog 84 #[pt n,pt b] w (jW fun u w'=>∃(r:CoO) (Ox Oy Xo:Value) (QY QZ:Option (Nat×Array Value)) (W':List (BitVec 64)) (zk:List (Value×jQ)) (ts':List Int) (Q0:Int) (vd':Value) (T8:Value) (T9:Option (Nat×Array Value)) (new:List (Value×my)) (Lb Z':List bu) (f':Ct),sU cs us aq a8 qs sn ak.length ⟨ak,bq,wl,wi⟩=r/\u= .tuple #[]/\xn FX n (m+ak.length) r.cs Ox Oy QY QZ W' zk ts' Q0 (Lb++R)/\(∀x∈new,nh NX n Lb x/\IW x.2)/\new.length<=1001*ak.length/\iN new (NP.mk aq a8 ak bq ((qf us)) qs sn cs sk wy wr) (NP.mk aq a8 (r.s.ak) (r.s.bq) ((qf us)) qs sn (r.cs) sk wy wr)/\kR (BE fr) ids f' tl Z'/\pT f f' 0 0 r.j/\qO T9 T8 (r.s.wl.map I)/\Hp W0 w' (nE n wr vL vt vv vy vu vq sn (Ox) (Oy) (Xo) (Q0) sk wy (vd') vm (QY) (QZ) (W') (zk) (ts') aq a8 (r.s.ak) (r.s.bq) us qs (lg++new) tm ((wE b (T8) qi (T9) (r.s.wl) (r.s.wi) ((Z'++(Lb++R))))))):=by
 simp only[wE]at hH
 simp only[nE]at hH
 have aPN:=hwq.len
 refine en func84 rfl rfl<|ai<|SR<|aE (v:=Pn _ _) rfl<|aH O hH (Jg J _ (hH.blk (i:=0) O) (hH.sl (i:=9) O) (Jh.mono (hH.kz (Le.refl _) (fun x hx=>(mT (mT (mT (mT (mT (mT (mT (mT (mT (mT (mT (mT (mT (mT (mT (bH _ hx)))))))))))))))))))) (ay call122 O)<|fun w1 bp=>V (bJ O)<|aa<|bW O (fun h5=> ?_) (fun h5=> ?_)
 .refine aj<|rf O ⟨⟨cs,⟨ak,bq,wl,wi⟩,0⟩,vW,vU,vT,cW,cU,W,ul,ts,cn,vd,ql,cq,[],[],Zf,f,?_,rfl,?_,?_,?_,?_,?_,?_,?_,(by rw[mY];exact(bp))⟩
  .exact aT kp
  .exact h.more J
  .exact fun x hx=>by cases hx
  .exact nM _
  .exact iN.nil _
  .exact hZ
  .exact pT.refl f
  exact hq
 refine an<|SR<|aE (v:=Pn _ _) rfl<|V (af O)<|V (fA cr 8 O pc O)<|aH O bp (acB h J (bp.blk (i:=0) O) (bp.yQ (i:=1) O h.hW)) (ay call123 O)<|fun w6 eC=>aI rfl<|aa<|ai<|SR<|aE (v:=Pn _ _) rfl<|IA O eC (Ji (Kw W0) J J (hpl) _ (eC.blk (i:=0) O) (eC.sl (i:=6) O) (eC.sl (i:=9) O) (Jh.mono (eC.kz (Le.refl _) (fun x hx=>(mT (mT (mT (mT (mT (mT (mT (mT (mT (mT (mT (mT (mT (mT (mT (bH _ hx)))))))))))))))))))) (ay call125 O)<|fun v10 I2 Z13 cN aGJ=>have gS:Hp _ I2 (_::_::_::_::_::_::_::_::_::_::_::_::_::_::_::(Z13++(Zf++R))):=cN.Iz (L:=[_,_,_,_,_,_,_,_,_,_,_,_,_,_,_]) (L':=(Zf++R));?_
 obtain⟨aeX,aAr,aGK⟩:=aGJ
 have hgl:aeX.length=ak.length:=by have:=aK List.length aAr;rw[gz,FD]at this;exact this
 refine Cq O gS (aeV _ aeX J _ (aGK.mono (gS.kz (Le.refl _) (fun x hx=>(mT (mT (mT (mT (mT (mT (mT (mT (mT (mT (mT (mT (mT (mT (mT (dL _ hx)))))))))))))))))))) (ay call124 O)<|fun v21 Tj cT=>V (aC (cT.sl (i:=0) O) O bD O)<|aE (v:=I 0) rfl<|aa<|aA<| ?_
 obtain⟨Y,hY⟩:∃Y,Y=Z13++Zf:=⟨_,rfl⟩
 have cD:=cT
 rw[<-dG Z13 Zf R,<-hY]at cD
 have hks:pw (qf aeX)=(pw (cz ak.length qs)):=by rw[aAr]
 have hkl:(pw (qf aeX)).length=ak.length:=by rw[ani,gz];exact hgl
 refine bt (G:=Int×Value×Value×Value×(Option (Nat×Array Value))×(Option (Nat×Array Value))×(List (BitVec 64))×(List (Value×jQ))×(List Int)×Int×Value×(List (Value×my))×(List bu)×(List bu)) (fun⟨k,vW1,vU1,vT1,cW1,cU1,W1,mw,ts1,cn1,W5,new,Lb,Z1⟩ s' w'=>(Fr (5::6::(rg 24 10 [])) _ s')/\(Hp W0 w' (.row v21 3 1 aeX.length ((pw (qf aeX)).map I):: .blk n (.cells #[wr,vL,vt,vv,vy,vu,vq,I sn,vW1,vU1,vT1,I cn1,B sk,U wy,W5,vm] 111 (0,0))::cE cW1 vW1 35 (W1.map U)::cE cU1 vU1 1 (mw.map Prod.fst)::jU I vT1 3 ts1::we Xk 13 vL 119 aq::jU I vt 3 a8::we pH 8 vv 37 ak::jU U vy 35 bq::jU jY.v vu 99 us::we qh 13 vq 128 qs::jU Prod.fst W5 1 (lg++new)::jU I vm 3 tm::_::_::_::Z1))/\(s' 24=I k)/\(0<=k)/\(k<=ak.length)/\(Z1=Y++(Lb++R))/\(xn FX n (m+k.toNat) ((s3 cs (pw (cz ak.length qs)) k.toNat)) vW1 vU1 cW1 cU1 W1 mw ts1 cn1 (Lb++R))/\(∀x∈new,nh NX n Lb x/\IW x.2)/\(new.length<=k.toNat)/\(iN new (NP.mk aq a8 ak bq ((qf us)) qs sn cs sk wy wr) (NP.mk aq a8 ak bq ((qf us)) qs sn ((s3 cs (pw (cz ak.length qs)) k.toNat)) sk wy wr))) (fun⟨k,vW1,vU1,vT1,cW1,cU1,W1,mw,ts1,cn1,W5,new,Lb,Z1⟩=>(ak.length-k).toNat) ((0,vW,vU,vT,cW,cU,W,ul,ts,cn,vd,[],[],(Y++([]++R)))) ⟨Fr.refl _ _,(by rw[mY];exact cD),rfl,J,J,rfl,h.more J,(fun x hx=>by cases hx),nM _,iN.nil _⟩ ?_
 rintro⟨k,vW1,vU1,vT1,cW1,cU1,W1,mw,ts1,cn1,W5,new,Lb,Z1⟩ aET w23 ⟨aeL,eM,TH,h0,hk,hz,hfo,Xp,hnl,hbk⟩
 obtain⟨W7,QM,aAs,auC,auD⟩:=aeL.w5 0 1 4 22 23
 subst hz
 refine SR<|V (aN TH auD)<|aa<|ai<|aF O (fun I6=> ?_) (fun I6=> ?_)
 .refine an<|ai<|aA<|SR<|aE TH<|V (ah (eM.sl (i:=0) O) bD aO auC TH J)<|V (aG bx O O ((eM.sl (i:=0) O).cell _ _ (eS J)))<|aI rfl<|aI rfl<|aa<|au<|aE W7<|mI rfl<|mI rfl<|cw O (Jl _ _ J E9 _ hfo (R:=[_,_,_,_]++Y) (eM.pj [1,1,1,1,1,1,1,1,1,1,1,1])) (bz call126 O O O)<| ?_
  rintro _ w44 ⟨rfl,aGL,aGM,aGN,aGO,aGP,W33,at9,aGQ,aGR,aGS,aGT,aAt,aqO,aAu,aPP,aAv,rZ⟩
  simp only[nE,gA,eN]at rZ
  have oa:=rZ.pk [12]
  rw[hks]at aqO aAv
  refine aa<|au<|V (ax TH O J)<|mI rfl<|aa<| ?_
  refine⟨(k+1,aGL,aGM,aGN,aGO,aGP,W33,at9,aGQ,aGR,aGS,new++aGT,aAt++Lb,(Y++(aAt++(Lb++R)))),aW,aeL.u4.u4.u4,(Hp.conv oa RI),(aK I HZ),J,J,?_,?_,?_,?_,?_⟩
  ·(simp only[dG])
  ·(rw[GQ h0,dG];exact aqO.more (by split<;>omega))
  .exact(fun x hx=>by rcases fg.1 hx with q|q;exact⟨(Xp x q).1.mono (fun e he=>bH _ he),(Xp x q).2⟩;exact⟨(aAu x q).1.mono (fun e he=>dL _ he),(aAu x q).2⟩)
  ·(rw[dZ];omega)
  (rw[GQ h0];exact hbk.trans aAv)
 refine a7 (id:=0) rfl<|ai<|SR<|have ek:k.toNat=ak.length:=J;?_
 rw[ek]at hfo hbk
 have aoq:(bB (s3 cs (pw (cz ak.length qs)) ak.length)).length=ak.length:=by rw[xo];omega
 have oS:Hp W0 _ (_::_::_::_::_::_::_::_::_::_::_::_::_::_::_::_::(Zf++(Lb++R))):=eM.sub (sP (sP (sP (sP (sP (sP (sP (sP (sP (sP (sP (sP (sP (sP (sP (sP (List.Sublist.append (hY▸Xx _ _) sR)))))))))))))))))
 refine aE W7<|V (af O)<|V (fA cr 8 O pc O)<|aH O oS (acB hfo J (oS.blk (i:=1) O) (oS.yQ (i:=2) O hfo.hW)) (ay call123 O)<|fun w48 FL=>aE aAs<|V (bU O O)<|aa<|aF O (fun h51=> ?_) (fun h51=> ?_)
 .refine aj<|rf O ⟨⟨(s3 cs (pw (cz ak.length qs)) ak.length),⟨ak,bq,wl,wi⟩,0⟩,vW1,vU1,vT1,cW1,cU1,W1,mw,ts1,cn1,W5,ql,cq,new,Lb,Zf,f,?_,rfl,?_,?_,J,?_,?_,?_,?_,(FL.sub (sQ sR))⟩
  .exact(aX kp).trans (aX J)
  .exact hfo
  .exact Xp
  .exact hbk
  .exact hZ
  .exact pT.refl f
  exact hq
 refine an<|SR<|aE W7<|Cq O FL (FR J J J J J (hpl) _ (FL.blk (i:=1) O) (FL.sl (i:=7) O) (FL.sl (i:=8) O) (FL.sl (i:=10) O) (FL.yQ (i:=2) O hfo.hW) (Jh.mono (FL.kz (Le.refl _) (fun x hx=>(mT (mT (mT (mT (mT (mT (mT (mT (mT (mT (mT (mT (mT (mT (mT (mT (bH _ (bH _ hx))))))))))))))))))))) hfo) (ay call127 O)<|fun v54 w52 jA=> ?_
 refine V (run_assign bA) ?_
 refine aa<|SR<|aE W7<|V (af O)<|V (fA cr 3 O jm O)<|lV bV jA 2 O O rfl<|V (aC (jA.sl (i:=8) O) O bV O)<|aE (v:=I 0) rfl<|aa<|aA<|have hfr:=hfo.find aoq;have hne:¬leads (bB (s3 cs (pw (cz ak.length qs)) ak.length))=leads (bB cs):=J;bt (G:=Int×Value×Value×(Option (Nat×Array Value))×(List El)×(List (BitVec 64))×(List Int)×(List Bool)×(List (Value×my))×(List bu)×(List bu)×Ct×(List bu)) (fun⟨k,vd2,yA,BZ,dc,eK,qn,mX,Pr,Kj,FV,f1,Z1⟩ s' w'=>(Fr (rg 8 3 (12::(rg 47 76 []))) _ s')/\(Hp W0 w' (_::_:: .blk n (.cells #[wr,vL,vt,vv,vy,vu,vq,I sn,vW1,vU1,vT1,I cn1,B sk,U wy,vd2,vm] 111 (0,0))::cE cW1 vW1 35 (W1.map U)::cE cU1 vU1 1 (mw.map Prod.fst)::jU I vT1 3 ts1::we Xk 13 vL 119 aq::jU I vt 3 a8::we pH 8 vv 37 dc::jU U vy 35 eK::jU jY.v vu 99 us::we qh 13 vq 128 qs::jU Prod.fst vd2 1 (lg++(new++Pr))::jU I vm 3 tm:: .blk b (.cells #[yA,qi] 156 (0,0))::qE BZ yA 3 (qn.map I)::jU B qi 4 mX::Z1))/\(s' 47=I k)/\(0<=k)/\(k<=ak.length)/\(Z1=FV++(Kj++R))/\((⟨dc,eK,qn,mX⟩:yU)=(coA (bB (s3 cs (pw (cz ak.length qs)) ak.length)) us aq a8 (CN (bB (s3 cs (pw (cz ak.length qs)) ak.length)) bq ak.length qs) ⟨ak,bq,wl,wi⟩ k.toNat))/\(qO BZ yA (qn.map I))/\(kR (BE fr) ids f1 tl FV)/\(pT f f1 0 0 (coJ (bB (s3 cs (pw (cz ak.length qs)) ak.length)) k.toNat))/\(xn FX n (m+ak.length) ((s3 cs (pw (cz ak.length qs)) ak.length)) vW1 vU1 cW1 cU1 W1 mw ts1 cn1 (Kj++R))/\(∀x∈new++Pr,nh NX n Kj x/\IW x.2)/\(Pr.length<=1000*k.toNat)/\(iN Pr (NP.mk aq a8 ak bq ((qf us)) qs sn ((s3 cs (pw (cz ak.length qs)) ak.length)) sk wy wr) (NP.mk aq a8 dc eK ((qf us)) qs sn ((s3 cs (pw (cz ak.length qs)) ak.length)) sk wy wr))) (fun⟨k,vd2,yA,BZ,dc,eK,qn,mX,Pr,Kj,FV,f1,Z1⟩=>(ak.length-k).toNat) ((0,W5,ql,cq,ak,bq,wl,wi,[],Lb,Zf,f,(Zf++(Lb++R)))) ⟨Fr.refl _ _,(by rw[mY];exact jA),rfl,J,J,rfl,rfl,hq,hZ,pT.refl f,hfo,(by rw[mY];exact Xp),nM _,iN.nil _⟩<| ?_
 rintro⟨k,vd2,yA,BZ,dc,eK,qn,mX,Pr,Kj,FV,f1,Z1⟩ ayh w55 ⟨Od,jz,OC,h0,hk,hz,hs,OS,K4,hcj,OD,akP,aAw,aos⟩
 obtain⟨WJ,auF⟩:=Od.w2 7 46
 obtain⟨acG,Ho⟩:=Od.t2 0 W7 1 QM
 subst hz
 have ok1:=ZE (cl:=(bB (s3 cs (pw (cz ak.length qs)) ak.length))) (us:=us) (aq:=aq) (a8:=a8) (rs:=(CN (bB (s3 cs (pw (cz ak.length qs)) ak.length)) bq ak.length qs)) (fun k hk=>(yf k hk).2.2) J (⟨rfl,rfl,rfl,hwq⟩:Qu wi.length ak.length bq.length ⟨ak,bq,wl,wi⟩) k.toNat
 rw[<-hs]at ok1
 have lv1:dc.length=ak.length:=ok1.lv
 have ly1:eK.length=bq.length:=ok1.ly
 have li1:mX.length=wi.length:=ok1.li
 have wq1:=ok1.wq.len
 simp only at wq1
 have aGV:=ZD (cl:=(bB (s3 cs (pw (cz ak.length qs)) ak.length))) k.toNat
 have aPR:coJ (bB (s3 cs (pw (cz ak.length qs)) ak.length)) k.toNat<=1000*1000:=kX aGV (xQ J J)
 refine SR<|V (aN OC auF)<|aa<|ai<|aF O (fun Pm=> ?_) (fun Pm=> ?_)
 .refine an<|ai<|aA<|SR<|aE OC<|aI rfl<|aa<|ai<|SR<|aE acG<|V (af O)<|V (fA cr 8 O pc O)<|mI rfl<|aH O jz (FO _ OD J (jz.blk (i:=2) O) (jz.yQ (i:=3) O hfo.hW)) (aL E6 O O)<|fun w58 BR=>mI rfl<|V (kG O O)<|aa<|aF O (fun h61=> ?_) (fun h61=> ?_)
  .refine a7 (id:=3) rfl<|au<|V (ax OC O J)<|mI rfl<|aa<| ?_
   refine⟨(k+1,vd2,yA,BZ,dc,eK,qn,mX,Pr,Kj,FV,f1,(FV++(Kj++R))),?_,Od.u4.u4.u4,(Hp.conv BR RI),(aK I HZ),?_,?_,aM,?_,?_,?_,?_,?_,?_,?_,?_⟩
   .exact(Lh (Lk ‹k<(ak.length:Int)›)).2 (Lf (Lu _) _)
   .exact B7 h0
   .exact‹k<(ak.length:Int)›
   ·(rw[CO h0,<-hs,S1 h0 (by rintro⟨a,b⟩;omega)])
   .exact OS
   .exact K4
   .exact hcj.more (eU _) (eU _) aaT
   .exact OD
   .exact akP
   .exact kX aAw (Nat.mul_le_mul_left _ (XP (B7 (lW k))))
   exact aos
  refine an<|SR<|aE acG<|V (af O)<|V (fA cr 8 O pc O)<|mI rfl<|Cq O BR (acC _ OD J (BR.blk (i:=2) O) (BR.yQ (i:=3) O hfo.hW)) (aL call129 O O)<|fun v64 w62 oV=> ?_
  refine V (run_assign bA) ?_
  refine aa<|ai<|SR<|have aPS:=aiN (cl:=(bB (s3 cs (pw (cz ak.length qs)) ak.length))) (k:=k) ⟨h0,J⟩;have ana:=wk (cl:=(bB (s3 cs (pw (cz ak.length qs)) ak.length))) (i:=k);?_
  refine V (run_move bA) ?_
  refine V (aC (oV.sl (i:=0) O) O bD O)<|V (bU O O)<|aa<|aF O (fun G9=> ?_) (fun G9=> ?_)
  .refine a7 (id:=3) rfl<|au<|V (ax OC O J)<|mI rfl<|aa<| ?_
   refine⟨(k+1,vd2,yA,BZ,dc,eK,qn,mX,Pr,Kj,FV,f1,(FV++(Kj++R))),?_,Od.u4.u4.u4.u4.u4.u1,(Hp.conv (oV.sub (sQ sR)) RI),(aK I HZ),?_,?_,aM,?_,?_,?_,?_,?_,?_,?_,?_⟩
   .exact(Lh (Lk ‹k<(ak.length:Int)›)).2 (Lf (Lu _) _)
   .exact B7 h0
   .exact‹k<(ak.length:Int)›
   ·(rw[CO h0,<-hs,S1 h0 (by rintro⟨a,b⟩;omega)])
   .exact OS
   .exact K4
   .exact hcj.more (eU _) (eU _) aaT
   .exact OD
   .exact akP
   .exact kX aAw (Nat.mul_le_mul_left _ (XP (B7 (lW k))))
   exact aos
  refine an<|SR<|have hlk:=hlr k.toNat J;have hlc:=hlv.at hlk.1 hlk.2;aE acG<|V (af O)<|V (fA cr 3 O jm O)<|lV bV oV 3 O O rfl<|mI rfl<|V (ah (oV.sl (i:=9) O) bV fh O O J)<|V (gy (oV.sl (i:=9) O) bI O O O J)<|lJ oV (aS e8)<|fun b69 w67 kE=>bg kE (i:=0) O (cR O O O (kE.blk (i:=0) O))<|fun w72 uY=> ?_
  simp only[z2,dx,pull]at uY
  refine aa<|ai<|SR<| ?_
  refine V (run_move bA) ?_
  refine V (gC (uY.sl (i:=1) O) bD aO O O J)<|V (aC (Sl.frI (uY.sl (i:=1) O) 1 J) O bD O)<|aE (v:=I 0) rfl<|aa<|aA<|bt (G:=Int×Ct×(List bu)×(List bu)) (fun⟨j,f2,Xq,Z2⟩ s' w'=>(Fr (12::(rg 75 38 [])) _ s')/\(Hp W0 w' (.blk b69 (.cells (Value.agg (iM (wm (aq.getD (a8.getD k.toNat 0).toNat pQ).p.sh dc (dc.getD k.toNat dg) (((bP (bB (s3 cs (pw (cz ak.length qs)) ak.length)) k).drop 1).take j.toNat)))).cells 37 (0,0))::_::_::_::_::_::_::_::_::_::_::_::_::_::_::_::_::_::_::Z2))/\(s' 75=I j)/\(0<=j)/\(j<=((bP (bB (s3 cs (pw (cz ak.length qs)) ak.length)) k).drop 1).length)/\(Z2=Xq++(Kj++R))/\(kR (BE fr) ids f2 tl Xq)/\(pT f f2 0 0 (coJ (bB (s3 cs (pw (cz ak.length qs)) ak.length)) k.toNat+j.toNat))) (fun⟨j,f2,Xq,Z2⟩=>(((bP (bB (s3 cs (pw (cz ak.length qs)) ak.length)) k).drop 1).length-j).toNat) ((0,f1,FV,(FV++(Kj++R)))) ⟨Fr.refl _ _,uY,rfl,J,J,rfl,K4,hcj⟩<| ?_
  rintro⟨j,f2,Xq,Z2⟩ aPT w74 ⟨akQ,wS,TI,j0,j1,hz2,hZ2,hc2⟩
  obtain⟨akR,TJ,auG,auH⟩:=akQ.w4 8 10 73 74
  obtain⟨W8,aAy,aAz,auI⟩:=akQ.t4 0 acG 1 Ho 7 WJ 47 OC
  subst hz2
  have hdl:=yB (i:=1) (l:=(bP (bB (s3 cs (pw (cz ak.length qs)) ak.length)) k))
  refine SR<|V (aN TI auH)<|aa<|ai<|aF O (fun h76=> ?_) (fun h76=> ?_)
  .refine an<|ai<|aA<|SR<|V (ah (Sl.frI (wS.sl (i:=1) O) 1 J) bD aO auG TI J)<|have hkm:=mM (sw (dw (d:=0) j0 ‹j<_›));V (aG bx O O ((Sl.frI (wS.sl (i:=1) O) 1 J).cell _ _ (eS J)))<|aI rfl<|aa<|ai<|ec aP wS<|fun w77 zh=>have De:=zh;AQ 0 O De (run_move W8)<|AQ 1 O De (af O)<|AQ 2 O De (fA cr 3 O jm O)<|tV 3 O De bV 4 O O rfl<|AQ 4 O De (mV (I _) O)<|AT 5 O De (fun w hS=>ah (hS.sl (i:=10) O) bV fh O O J)<|AT 6 O De (fun w hS=>gy (hS.sl (i:=10) O) bI O O O J)<|AT 7 O De (fun w hS=>cM bI O O TJ (hS.blk (i:=0) O))<|AQ 8 O De (PL CX O O)<|AD<|bW O (fun h80=> ?_) (fun h80=> ?_)
   .refine fW (z:=⟨none,_,_,_,_,none⟩) aP O aP zh (sP (sP (sP (sP (sP (sP (sP (sP (sP (sP (sP (sP (sP (sP (sP (sP (sP (sP (sP (sA sR))))))))))))))))))))<|fun w81 oT=>have wF:=oT.sub (sP (sP (sP (sP (sP (sP (sP (sP (sP (sP (sP (sP (sP (sP (sP (sP (sP (sP (sP (sA sR))))))))))))))))))));AQ 0 O wF (run_move W8)<|AQ 1 O wF (af O)<|AQ 2 O wF (fA cr 1 O ur O)<|tV 3 O wF oY 4 O O rfl<|AQ 4 O wF (run_move W8)<|AQ 5 O wF (af O)<|AQ 6 O wF (fA cr 2 O dH O)<|tV 7 O wF bD 4 O O rfl<|AQ 8 O wF (run_move akR)<|AT 9 O wF (fun w hS=>ah (hS.sl (i:=9) O) bD aO O O J)<|AT 10 O wF (fun w hS=>aG bx O O ((hS.sl (i:=9) O).cell _ _ (eS J)))<|AT 11 O wF (fun w hS=>ah (hS.sl (i:=8) O) oY sizeOf119 O O J)<|AQ 12 O wF (fA B9 2 O sizeOf117 O)<|AQ 13 O wF (fA qW 2 O sizeOf115 O)<|AT 14 O wF (fun w hS=>gB (dv:=pQ) (off:=4) rF (hS.sl (i:=8) O) Lp O O J O)<|AT 15 O wF (fun w hS=>cM bI O O TJ (hS.blk (i:=0) O))<|AQ 16 O wF (run_move W8)<|AQ 17 O wF (af O)<|AQ 18 O wF (fA cr 3 O jm O)<|tV 19 O wF bV 4 O O rfl<|AQ 20 O wF (mV (I _) O)<|AT 21 O wF (fun w hS=>ah (hS.sl (i:=10) O) bV fh O O J)<|AT 22 O wF (fun w hS=>gy (hS.sl (i:=10) O) bI O O O J)<|A1 23<| ?_
    obtain⟨aPW,aGW,aGX,aAA,aAB⟩:=akn W0 ids tl hT _ _ _ _ f2 Xq ([_,_,_,_,_,_,_,_,_,_,_,_,_,_,_,_,_,_,_]++(Kj++R)) _ _ _ _ (hlc.ops.mono (Le.zz (fun x hx=>bH _ (bH _ hx)))) hlc.Fg hZ2 (hc2.ok hf) HX (Hp.sM (A:=[_,_,_,_,_,_,_,_,_,_,_,_,_,_,_,_,_,_,_]) (Zf:=Xq) (R:=(Kj++R)) oT)
    refine yc O aD O aAB (iZ aAA (cs:=aGW) aGX O O) (fun u w' ⟨_,Z',_,h⟩=>Hp.sub (L:=_::_::_::_::_::_::_::_::_::_::_::_::_::_::_::_::_::_::_::(Z'++(Kj++R))) (Hp.o7 (A:=[_,_,_,_,_,_,_,_,_,_,_,_,_,_,_,_,_,_,_]) h) (sP (sP (sP (sP (sP (sP (sP (sP (sP (sP (sP (sP (sP (sP (sP (sP (sP (sP (sP (sA sR))))))))))))))))))))) ?_
    rintro x95 w90 ⟨aAC,Z93,akS,h91⟩
    have Jb:Hp _ w90 (_::_::_::_::_::_::_::_::_::_::_::_::_::_::_::_::_::_::_::(Z93++(Kj++R))):=Hp.o7 (A:=[_,_,_,_,_,_,_,_,_,_,_,_,_,_,_,_,_,_,_]) h91
    rw[apI hlc.Fg hlc.sh]at aAC
    subst aAC
    refine AD<|bg Jb (i:=0) O (cR O TJ O (Jb.blk (i:=0) O))<|fun auc EO=> ?_
    simp only[z2,dx,pull]at EO
    refine aa<|au<|V (ax TI O J)<|mI rfl<|aa<|have hqq:¬rS (dc.getD (((bP (bB (s3 cs (pw (cz ak.length qs)) ak.length)) k).drop 1).getD j.toNat 0).toNat dg) (wm (aq.getD (a8.getD k.toNat 0).toNat pQ).p.sh dc (dc.getD k.toNat dg) (((bP (bB (s3 cs (pw (cz ak.length qs)) ak.length)) k).drop 1).take j.toNat)):=kp;?_
    refine⟨(j+1,(Wr.tick .j (aq.getD (a8.getD k.toNat 0).toNat pQ).d f2),Z93,(Z93++(Kj++R))),?_,akQ.u4.u4.u4.u4.u4.u4.u4.u4.u4.u1.u1.u1,(Hp.conv EO afw),(aK I HZ),?_,?_,aM,?_,?_⟩
    .exact(Lh (Lk ‹j<_›)).2 (Lf (Lu _) _)
    .exact B7 j0
    .exact‹j<_›
    .exact akS
    exact(hc2.trans (yT hlc.dep _).2.2).more (eU _) (eU _) (by rw[Int.toNat_add j0 az];exact eU _)
   refine an<|au<|V (ax TI O J)<|mI rfl<|aa<|have hqq:rS (dc.getD (((bP (bB (s3 cs (pw (cz ak.length qs)) ak.length)) k).drop 1).getD j.toNat 0).toNat dg) (wm (aq.getD (a8.getD k.toNat 0).toNat pQ).p.sh dc (dc.getD k.toNat dg) (((bP (bB (s3 cs (pw (cz ak.length qs)) ak.length)) k).drop 1).take j.toNat)):=kp;?_
   refine⟨(j+1,f2,Xq,(Xq++(Kj++R))),?_,akQ.u4.u4.u4.u1.u1.u1,(Hp.conv zh afw),(aK I HZ),?_,?_,aM,?_,?_⟩
   .exact(Lh (Lk ‹j<_›)).2 (Lf (Lu _) _)
   .exact B7 j0
   .exact‹j<_›
   .exact hZ2
   exact hc2.more (eU _) (eU _) (Nat.add_le_add_left (XP (B7 (lW j))) _)
  refine a7 (id:=4) rfl<|have ej:(wm (aq.getD (a8.getD k.toNat 0).toNat pQ).p.sh dc (dc.getD k.toNat dg) (((bP (bB (s3 cs (pw (cz ak.length qs)) ak.length)) k).drop 1).take j.toNat))=(wm (aq.getD (a8.getD k.toNat 0).toNat pQ).p.sh dc (dc.getD k.toNat dg) ((bP (bB (s3 cs (pw (cz ak.length qs)) ak.length)) k).drop 1)):=(by rw[ji J]);have hrb:(CN (bB (s3 cs (pw (cz ak.length qs)) ak.length)) bq ak.length qs).length=ak.length:=(by unfold CN VO;rw[DU (VP _),DU (Nk _ _)];simp);fW (z:=⟨some _,_,_,_,_,none⟩) aP O aP wS sR<|fun aAD OE=>have JS:=OE;AQ 0 O JS (run_move W8)<|AQ 1 O JS (run_move aAy)<|AQ 2 O JS (run_move akR)<|AT 3 O JS (fun w hS=>cM bI O O TJ (hS.blk (i:=0) O))<|AQ 4 O JS (run_move aAz)<|AQ 5 O JS (run_move akR)<|AT 6 O JS (fun w hS=>ah (hS.sl (i:=2) O) dh cP O O J)<|AT 7 O JS (fun w hS=>aG dM O O ((hS.sl (i:=2) O).cell _ _ (lK (dv:=0#64) J)))<|AD<|cw O (Bt _ _ _ J J J J J E9 J (fun k hk=>⟨by(repeat apply fX);exact bH _ (bH _ (yf k hk).1),(yf k hk).2.1,fun i hi=>by have:=(yf k hk).2.2 i hi;omega⟩) _ (OD.mono fun e he=>by(repeat apply fX);exact bH _ he) OS (OE.pj [4,4,4,4,4,4,4,4,4,4,4,4,4,4,4])) (sD call130 O O O O O)<| ?_
  rintro _ auJ ⟨rfl,aAE,aGY,aGZ,aAF,acH,aqP,aAG,aAH,aks,aAI⟩
  simp only[nE,wE]at aAI
  have aqQ:=Hp.mL (A:=[_,_,_,_,_,_,_,_,_,_,_,_,_,_,_]) (R:=[_,_,_,_]) aAI
  simp only[gA,eN]at aqQ
  have zl:=aqQ.pk [15,15,15,15]
  have Q3:Hp W0 _ (_::_::_::_::_::_::_::_::_::_::_::_::_::_::_::_::_::_::_::(Xq++(acH++(Kj++R)))):=Hp.mL (A:=[_,_,_,_,_,_,_,_,_,_,_,_,_,_,_,_,_,_,_]) (B:=acH) (R:=Xq) zl
  refine aa<|au<|V (ax auI O J)<|mI rfl<|aa<| ?_
  refine⟨(k+1,aAE,aGY,aGZ,(ye dc us (qn,mX) (bP (bB (s3 cs (pw (cz ak.length qs)) ak.length)) k) (wm (aq.getD (a8.getD k.toNat 0).toNat pQ).p.sh dc (dc.getD k.toNat dg) (((bP (bB (s3 cs (pw (cz ak.length qs)) ak.length)) k).drop 1).take j.toNat))).1,gE eK (bP (bB (s3 cs (pw (cz ak.length qs)) ak.length)) k) ((CN (bB (s3 cs (pw (cz ak.length qs)) ak.length)) bq ak.length qs).getD k.toNat 0),(ye dc us (qn,mX) (bP (bB (s3 cs (pw (cz ak.length qs)) ak.length)) k) (wm (aq.getD (a8.getD k.toNat 0).toNat pQ).p.sh dc (dc.getD k.toNat dg) (((bP (bB (s3 cs (pw (cz ak.length qs)) ak.length)) k).drop 1).take j.toNat))).2.1,(ye dc us (qn,mX) (bP (bB (s3 cs (pw (cz ak.length qs)) ak.length)) k) (wm (aq.getD (a8.getD k.toNat 0).toNat pQ).p.sh dc (dc.getD k.toNat dg) (((bP (bB (s3 cs (pw (cz ak.length qs)) ak.length)) k).drop 1).take j.toNat))).2.2,Pr++aAF,acH++Kj,Xq,f2,(Xq++(acH++(Kj++R)))),?_,(((Od.u4.u4.u4.u4.u4.u4.u4.u1.u1.u1).t akQ O)).u4.u4.u4,(Hp.conv (Q3.sub (sQ (sQ sR))) RI),(aK I HZ),?_,?_,?_,?_,?_,?_,?_,?_,?_,?_,?_⟩
  .exact(Lh (Lk ‹k<(ak.length:Int)›)).2 (Lf (Lu _) _)
  .exact B7 h0
  .exact‹k<(ak.length:Int)›
  ·(simp only[dG])
  ·(rw[CO h0,<-hs,abT h0 J J];simp only[ej])
  .exact aks
  .exact hZ2
  ·(rw[Ud h0,aX (HD ‹¬fN _ _≠k›)];exact hc2.more (eU _) (eU _) (Nat.add_le_add_left (Int.toNat_le.2 (by rw[<-yB];exact j1)) _))
  .exact OD.mono fun e he=>(by rw[dG];exact bH _ he)
  .exact(fun x hx=>by rw[<-dG]at hx;rcases fg.1 hx with q|q;exact⟨(akP x q).1.mono (fun e he=>bH _ he),(akP x q).2⟩;exact⟨(aqP x q).1.mono (fun e he=>dL _ he),(aqP x q).2⟩)
  ·(have:=aAG;rw[dZ];omega)
  exact aos.trans aAH
 refine a7 (id:=2) rfl<|have ek2:k.toNat=ak.length:=J;rf O ⟨⟨(s3 cs (pw (cz ak.length qs)) ak.length),⟨dc,eK,qn,mX⟩,coJ (bB (s3 cs (pw (cz ak.length qs)) ak.length)) ak.length⟩,vW1,vU1,vT1,cW1,cU1,W1,mw,ts1,cn1,vd2,yA,BZ,(new++Pr),Kj,FV,f1,?_,rfl,?_,?_,?_,?_,?_,?_,?_,(jz.sub (sQ (sQ sR)))⟩
 .exact(aX kp).trans ((aT hne).trans (by rw[hs,ek2]))
 .exact OD
 .exact akP
 ·(rw[dZ];omega)
 .exact hbk.trans aos
 .exact K4
 ·(rw[ek2]at hcj;exact hcj)
 exact OS
end
end Go.Proofs.YtlhjdflgjbkpmaaGreatDoor.W

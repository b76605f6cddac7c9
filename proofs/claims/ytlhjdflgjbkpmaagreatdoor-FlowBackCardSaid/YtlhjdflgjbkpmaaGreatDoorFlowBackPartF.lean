/- Part 6 of the proof of FlowBack: its plain laws and the walks of its functions. -/
import Derived.Test.YtlhjdflgjbkpmaaGreatDoorFlowBackPartE
set_option linter.all false
namespace Go.Proofs.YtlhjdflgjbkpmaaGreatDoor.W
section
open Go Go.RowKit Go.Proofs.YtlhjdflgjbkpmaaGreatDoor.E Go.Proofs.YtlhjdflgjbkpmaaGreatDoor.M
set_option maxRecDepth 100000
open Go.Proofs.Tryz
variable{fr:List a8}
variable{W0 w:World}{n m:Nat}{cs:List (List Nat)}{wr:Value}{vL:Value}{vt:Value}{vv:Value}{vy:Value}{vu:Value}{vq:Value}{sn:Int}{vW:Value}{vU:Value}{vT:Value}{cn:Int}{sk:Bool}{wy:BitVec 64}{vd:Value}{vm:Value}{cW:Option (Nat×Array Value)}{cU:Option (Nat×Array Value)}{W:List (BitVec 64)}{ul:List (Value×jo)}{ts:List Int}{an:List oJ}{aT:List Int}{ai:List El}{aX:List (BitVec 64)}{us:List iW}{qs:List de}{lg:List (Value×jj)}{tm:List Int}{L:List a8}
set_option maxHeartbeats 4000000 in
theorem Di{b:Nat}{ql qi:Value}{cq:Option (Nat×Array Value)}{wl:List Int}{wi:List Bool}{ids:List Nat}{tl:List (Nat×Rl)}{f:Ct}{nk:Nat}{Zf R:List a8}(hm:m+ai.length<=100000)(S2:aX.length=ai.length)(NU:us.length=ai.length)(ni:(bk cs).length=ai.length)(NV:ai.length<=1000)(hlg:lg.length<=450000000000)(hwq:ud wl wi)(hwi:wi.length<=1000)(vN:∀k:Nat,k<us.length->dr 3 (us.getD k cD)∈R/\(us.getD k cD).l.length<=1000/\∀i∈(us.getD k cD).l,0<=i/\i<wi.length)(hf:EC nk f)(hnk:nk<=100000000000)(Wc:0<=sn/\sn<=qs.length)(hqn:qs.length<=1000)(hpl:UJ ai.length qs)(hlt:aT.length=ai.length)(hlr:∀k:Nat,k<aT.length->0<=aT.getD k 0/\aT.getD k 0<an.length)(w:World)(hT:oh W0)(hlv:UQ TX (Kz (Kw W0) R) ids tl an)(hZ:kA (AH fr) ids f tl Zf)(HY:Yp (Kz (Kw W0) R) qs)(h:vF FX n m cs vW vU cW cU W ul ts cn R)(hq:qO cq ql (wl.map I))(hH:Hp W0 w (nE n wr vL vt vv vy vu vq sn vW vU vT cn sk wy vd vm cW cU W ul ts an aT ai aX us qs lg tm ((wE b ql qi cq wl wi ((Zf++R)))))):Calls Tryz.prog 84 #[pt n,pt b] w (iA fun u w'=>∃(r:CoO) (IJ IK S7:Value) (Nu Nv:Option (Nat×Array Value)) (W':List (BitVec 64)) (wK:List (Value×jo)) (ts':List Int) (Nw:Int) (vd':Value) (S8:Value) (S9:Option (Nat×Array Value)) (new:List (Value×jj)) (Lb Z':List a8) (f':Ct),rP cs us an aT qs sn ai.length ⟨ai,aX,wl,wi⟩=r/\u= .tuple #[]/\vF FX n (m+ai.length) r.cs IJ IK Nu Nv W' wK ts' Nw (Lb++R)/\(∀x∈new,ku NX n Lb x/\EH x.2)/\new.length<=1001*ai.length/\gh new (NP.mk an aT ai aX ((mO us)) qs sn cs sk wy wr) (NP.mk an aT (r.s.ai) (r.s.aX) ((mO us)) qs sn (r.cs) sk wy wr)/\kA (AH fr) ids f' tl Z'/\oV f f' 0 0 r.j/\qO S9 S8 (r.s.wl.map I)/\Hp W0 w' (nE n wr vL vt vv vy vu vq sn (IJ) (IK) (S7) (Nw) sk wy (vd') vm (Nu) (Nv) (W') (wK) (ts') an aT (r.s.ai) (r.s.aX) us qs (lg++new) tm ((wE b (S8) qi (S9) (r.s.wl) (r.s.wi) ((Z'++(Lb++R))))))):=by
 simp only[wE]at hH
 simp only[nE]at hH
 have aRx:=hwq.len
 refine en func84 rfl rfl<|ah<|SR<|aE (v:=Pn _ _) rfl<|aG O hH (HX J _ (hH.blk (i:=0) O) (hH.sl (i:=9) O) (HY.mono (hH.kz (Le.refl _) (fun x hx=>(mT (mT (mT (mT (mT (mT (mT (mT (mT (mT (mT (mT (mT (mT (mT (bt _ hx)))))))))))))))))))) (aq call122 O)<|fun w1 aW=>V (bO O)<|aa<|bY O (fun h5=> ?_) (fun h5=> ?_)
 .refine aj<|nW O ⟨⟨cs,⟨ai,aX,wl,wi⟩,0⟩,vW,vU,vT,cW,cU,W,ul,ts,cn,vd,ql,cq,[],[],Zf,f,?_,rfl,?_,?_,?_,?_,?_,?_,?_,(by rw[kV];exact(aW))⟩
  .exact aP jV
  .exact h.more J
  .exact fun x hx=>by cases hx
  .exact lW _
  .exact gh.nil _
  .exact hZ
  .exact oV.refl f
  exact hq
 refine ak<|SR<|aE (v:=Pn _ _) rfl<|V (af O)<|V (fA bM 8 O m4 O)<|aG O aW (abg h J (aW.blk (i:=0) O) (aW.xY (i:=1) O h.hW)) (aq call123 O)<|fun w6 eD=>aI rfl<|aa<|ah<|SR<|aE (v:=Pn _ _) rfl<|XK O eD (HZ (Kw W0) J J (hpl) _ (eD.blk (i:=0) O) (eD.sl (i:=6) O) (eD.sl (i:=9) O) (HY.mono (eD.kz (Le.refl _) (fun x hx=>(mT (mT (mT (mT (mT (mT (mT (mT (mT (mT (mT (mT (mT (mT (mT (bt _ hx)))))))))))))))))))) (aq call125 O)<|fun v10 ID Z13 cK aGU=>have iX:Hp _ ID (_::_::_::_::_::_::_::_::_::_::_::_::_::_::_::(Z13++(Zf++R))):=cK.JI (L:=[_,_,_,_,_,_,_,_,_,_,_,_,_,_,_]) (L':=(Zf++R));?_
 obtain⟨adE,az4,aGV⟩:=aGU
 have hgl:adE.length=ai.length:=by have:=aK List.length az4;rw[eM,EG]at this;exact this
 refine Bt O iX (adA _ adE J _ (aGV.mono (iX.kz (Le.refl _) (fun x hx=>(mT (mT (mT (mT (mT (mT (mT (mT (mT (mT (mT (mT (mT (mT (mT (dx _ hx)))))))))))))))))))) (aq call124 O)<|fun v21 Vo cL=>V (aA (cL.sl (i:=0) O) O bg O)<|aE (v:=I 0) rfl<|aa<|aC<| ?_
 obtain⟨Y,hY⟩:∃Y,Y=Z13++Zf:=⟨_,rfl⟩
 have dm:=cL
 rw[<-dg Z13 Zf R,<-hY]at dm
 have hks:oA (mO adE)=(oA (cr ai.length qs)):=by rw[az4]
 have hkl:(oA (mO adE)).length=ai.length:=by rw[amv,eM];exact hgl
 refine bj (G:=Int×Value×Value×Value×(Option (Nat×Array Value))×(Option (Nat×Array Value))×(List (BitVec 64))×(List (Value×jo))×(List Int)×Int×Value×(List (Value×jj))×(List a8)×(List a8)) (fun⟨k,vW1,vU1,vT1,cW1,cU1,W1,lK,ts1,cn1,VQ,new,Lb,Z1⟩ s' w'=>(Fr (5::6::(rg 24 10 [])) _ s')/\(Hp W0 w' (.row v21 3 1 adE.length ((oA (mO adE)).map I):: .blk n (.cells #[wr,vL,vt,vv,vy,vu,vq,I sn,vW1,vU1,vT1,I cn1,B sk,U wy,VQ,vm] 111 (0,0))::cE cW1 vW1 35 (W1.map U)::cE cU1 vU1 1 (lK.map Prod.fst)::jq I vT1 3 ts1::uV We 13 vL 119 an::jq I vt 3 aT::uV sU 8 vv 37 ai::jq U vy 35 aX::jq iW.v vu 99 us::uV oT 13 vq 128 qs::jq Prod.fst VQ 1 (lg++new)::jq I vm 3 tm::_::_::_::Z1))/\(s' 24=I k)/\(0<=k)/\(k<=ai.length)/\(Z1=Y++(Lb++R))/\(vF FX n (m+k.toNat) ((rX cs (oA (cr ai.length qs)) k.toNat)) vW1 vU1 cW1 cU1 W1 lK ts1 cn1 (Lb++R))/\(∀x∈new,ku NX n Lb x/\EH x.2)/\(new.length<=k.toNat)/\(gh new (NP.mk an aT ai aX ((mO us)) qs sn cs sk wy wr) (NP.mk an aT ai aX ((mO us)) qs sn ((rX cs (oA (cr ai.length qs)) k.toNat)) sk wy wr))) (fun⟨k,vW1,vU1,vT1,cW1,cU1,W1,lK,ts1,cn1,VQ,new,Lb,Z1⟩=>(ai.length-k).toNat) ((0,vW,vU,vT,cW,cU,W,ul,ts,cn,vd,[],[],(Y++([]++R)))) ⟨Fr.refl _ _,(by rw[kV];exact dm),rfl,J,J,rfl,h.more J,(fun x hx=>by cases hx),lW _,gh.nil _⟩ ?_
 rintro⟨k,vW1,vU1,vT1,cW1,cU1,W1,lK,ts1,cn1,VQ,new,Lb,Z1⟩ aE8 w23 ⟨adt,eN,SD,h0,hk,hz,hfo,Ta,hnl,hbk⟩
 obtain⟨VT,PX,az5,auh,aui⟩:=adt.w5 0 1 4 22 23
 subst hz
 refine SR<|V (aL SD aui)<|aa<|ah<|aF O (fun HN=> ?_) (fun HN=> ?_)
 .refine ak<|ah<|aC<|SR<|aE SD<|V (ag (eN.sl (i:=0) O) bg bz auh SD J)<|V (au bx O O ((eN.sl (i:=0) O).cell _ _ (dZ J)))<|aI rfl<|aI rfl<|aa<|ax<|aE VT<|mI rfl<|mI rfl<|bV O (H9 _ _ J Ec _ hfo (R:=[_,_,_,_]++Y) (eN.pj [1,1,1,1,1,1,1,1,1,1,1,1])) (bB call126 O O O)<| ?_
  rintro _ w44 ⟨rfl,aGW,aGX,aGY,aGZ,aG0,W33,atH,aG1,aG2,aG3,aG4,az6,ap5,az7,aRz,az8,qR⟩
  simp only[nE,fH,er]at qR
  have rT:=qR.pk [12]
  rw[hks]at ap5 az8
  refine aa<|ax<|V (ay SD O J)<|mI rfl<|aa<| ?_
  refine⟨(k+1,aGW,aGX,aGY,aGZ,aG0,W33,atH,aG1,aG2,aG3,new++aG4,az6++Lb,(Y++(az6++(Lb++R)))),aZ,adt.u4.u4.u4,(Hp.conv rT QR),(aK I qe),J,J,?_,?_,?_,?_,?_⟩
  ·(simp only[dg])
  ·(rw[FK h0,dg];exact ap5.more (by split<;>omega))
  .exact(fun x hx=>by rcases eP.1 hx with q|q;exact⟨(Ta x q).1.mono (fun e he=>bt _ he),(Ta x q).2⟩;exact⟨(az7 x q).1.mono (fun e he=>dx _ he),(az7 x q).2⟩)
  ·(rw[cV];omega)
  (rw[FK h0];exact hbk.trans az8)
 refine a7 (id:=0) rfl<|ah<|SR<|have ek:k.toNat=ai.length:=J;?_
 rw[ek]at hfo hbk
 have anL:(bk (rX cs (oA (cr ai.length qs)) ai.length)).length=ai.length:=by rw[wD];omega
 have oa:Hp W0 _ (_::_::_::_::_::_::_::_::_::_::_::_::_::_::_::_::(Zf++(Lb++R))):=eN.sub (sP (sP (sP (sP (sP (sP (sP (sP (sP (sP (sP (sP (sP (sP (sP (sP (Wz (hY▸Wm _ _) sR)))))))))))))))))
 refine aE VT<|V (af O)<|V (fA bM 8 O m4 O)<|aG O oa (abg hfo J (oa.blk (i:=1) O) (oa.xY (i:=2) O hfo.hW)) (aq call123 O)<|fun w48 HT=>aE az5<|V (bX O O)<|aa<|aF O (fun h51=> ?_) (fun h51=> ?_)
 .refine aj<|nW O ⟨⟨(rX cs (oA (cr ai.length qs)) ai.length),⟨ai,aX,wl,wi⟩,0⟩,vW1,vU1,vT1,cW1,cU1,W1,lK,ts1,cn1,VQ,ql,cq,new,Lb,Zf,f,?_,rfl,?_,?_,J,?_,?_,?_,?_,(HT.sub (sQ sR))⟩
  .exact(aQ jV).trans (aQ J)
  .exact hfo
  .exact Ta
  .exact hbk
  .exact hZ
  .exact oV.refl f
  exact hq
 refine ak<|SR<|aE VT<|Bt O HT (EU J J J J J (hpl) _ (HT.blk (i:=1) O) (HT.sl (i:=7) O) (HT.sl (i:=8) O) (HT.sl (i:=10) O) (HT.xY (i:=2) O hfo.hW) (HY.mono (HT.kz (Le.refl _) (fun x hx=>(mT (mT (mT (mT (mT (mT (mT (mT (mT (mT (mT (mT (mT (mT (mT (mT (bt _ (bt _ hx))))))))))))))))))))) hfo) (aq call127 O)<|fun v54 w52 jO=> ?_
 refine V (run_assign bG) ?_
 refine aa<|SR<|aE VT<|V (af O)<|V (fA bM 3 O lz O)<|lV dJ jO 2 O O rfl<|V (aA (jO.sl (i:=8) O) O dJ O)<|aE (v:=I 0) rfl<|aa<|aC<|have hfr:=hfo.find anL;have hne:¬leads (bk (rX cs (oA (cr ai.length qs)) ai.length))=leads (bk cs):=J;bj (G:=Int×Value×Value×(Option (Nat×Array Value))×(List El)×(List (BitVec 64))×(List Int)×(List Bool)×(List (Value×jj))×(List a8)×(List a8)×Ct×(List a8)) (fun⟨k,vd2,xH,A5,cX,eA,pD,me,Ow,Jh,CZ,f1,Z1⟩ s' w'=>(Fr (rg 8 3 (12::(rg 47 76 []))) _ s')/\(Hp W0 w' (_::_:: .blk n (.cells #[wr,vL,vt,vv,vy,vu,vq,I sn,vW1,vU1,vT1,I cn1,B sk,U wy,vd2,vm] 111 (0,0))::cE cW1 vW1 35 (W1.map U)::cE cU1 vU1 1 (lK.map Prod.fst)::jq I vT1 3 ts1::uV We 13 vL 119 an::jq I vt 3 aT::uV sU 8 vv 37 cX::jq U vy 35 eA::jq iW.v vu 99 us::uV oT 13 vq 128 qs::jq Prod.fst vd2 1 (lg++(new++Ow))::jq I vm 3 tm:: .blk b (.cells #[xH,qi] 156 (0,0))::qE A5 xH 3 (pD.map I)::jq B qi 4 me::Z1))/\(s' 47=I k)/\(0<=k)/\(k<=ai.length)/\(Z1=CZ++(Jh++R))/\((⟨cX,eA,pD,me⟩:x9)=(coA (bk (rX cs (oA (cr ai.length qs)) ai.length)) us an aT (BP (bk (rX cs (oA (cr ai.length qs)) ai.length)) aX ai.length qs) ⟨ai,aX,wl,wi⟩ k.toNat))/\(qO A5 xH (pD.map I))/\(kA (AH fr) ids f1 tl CZ)/\(oV f f1 0 0 (coJ (bk (rX cs (oA (cr ai.length qs)) ai.length)) k.toNat))/\(vF FX n (m+ai.length) ((rX cs (oA (cr ai.length qs)) ai.length)) vW1 vU1 cW1 cU1 W1 lK ts1 cn1 (Jh++R))/\(∀x∈new++Ow,ku NX n Jh x/\EH x.2)/\(Ow.length<=1000*k.toNat)/\(gh Ow (NP.mk an aT ai aX ((mO us)) qs sn ((rX cs (oA (cr ai.length qs)) ai.length)) sk wy wr) (NP.mk an aT cX eA ((mO us)) qs sn ((rX cs (oA (cr ai.length qs)) ai.length)) sk wy wr))) (fun⟨k,vd2,xH,A5,cX,eA,pD,me,Ow,Jh,CZ,f1,Z1⟩=>(ai.length-k).toNat) ((0,VQ,ql,cq,ai,aX,wl,wi,[],Lb,Zf,f,(Zf++(Lb++R)))) ⟨Fr.refl _ _,(by rw[kV];exact jO),rfl,J,J,rfl,rfl,hq,hZ,oV.refl f,hfo,(by rw[kV];exact Ta),lW _,gh.nil _⟩<| ?_
 rintro⟨k,vd2,xH,A5,cX,eA,pD,me,Ow,Jh,CZ,f1,Z1⟩ axU w55 ⟨Ng,iY,NC,h0,hk,hz,hs,MA,J2,hcj,ND,ajR,az9,anO⟩
 obtain⟨VE,auk⟩:=Ng.w2 7 46
 obtain⟨abj,Gf⟩:=Ng.t2 0 VT 1 PX
 subst hz
 have ok1:=Yt (cl:=(bk (rX cs (oA (cr ai.length qs)) ai.length))) (us:=us) (an:=an) (aT:=aT) (rs:=(BP (bk (rX cs (oA (cr ai.length qs)) ai.length)) aX ai.length qs)) (fun k hk=>(vN k hk).2.2) J (⟨rfl,rfl,rfl,hwq⟩:PB wi.length ai.length aX.length ⟨ai,aX,wl,wi⟩) k.toNat
 rw[<-hs]at ok1
 have lv1:cX.length=ai.length:=ok1.lv
 have ly1:eA.length=aX.length:=ok1.ly
 have li1:me.length=wi.length:=ok1.li
 have wq1:=ok1.wq.len
 simp only at wq1
 have aG6:=Ys (cl:=(bk (rX cs (oA (cr ai.length qs)) ai.length))) k.toNat
 have aRB:coJ (bk (rX cs (oA (cr ai.length qs)) ai.length)) k.toNat<=1000*1000:=jP aG6 (wX J J)
 refine SR<|V (aL NC auk)<|aa<|ah<|aF O (fun Ni=> ?_) (fun Ni=> ?_)
 .refine ak<|ah<|aC<|SR<|aE NC<|aI rfl<|aa<|ah<|SR<|aE abj<|V (af O)<|V (fA bM 8 O m4 O)<|mI rfl<|aG O iY (ER _ ND J (iY.blk (i:=2) O) (iY.xY (i:=3) O hfo.hW)) (aJ D9 O O)<|fun w58 sS=>mI rfl<|V (jB O O)<|aa<|aF O (fun h61=> ?_) (fun h61=> ?_)
  .refine a7 (id:=3) rfl<|ax<|V (ay NC O J)<|mI rfl<|aa<| ?_
   refine⟨(k+1,vd2,xH,A5,cX,eA,pD,me,Ow,Jh,CZ,f1,(CZ++(Jh++R))),?_,Ng.u4.u4.u4,(Hp.conv sS QR),(aK I qe),?_,?_,aN,?_,?_,?_,?_,?_,?_,?_,?_⟩
   .exact(Kg (Kj ‹k<(ai.length:Int)›)).2 (Kc (Ky _) _)
   .exact Bb h0
   .exact‹k<(ai.length:Int)›
   ·(rw[BR h0,<-hs,RQ h0 (by rintro⟨a,b⟩;omega)])
   .exact MA
   .exact J2
   .exact hcj.more (eG _) (eG _) aeK
   .exact ND
   .exact ajR
   .exact jP az9 (Nat.mul_le_mul_left _ (WG (Bb (lm k))))
   exact anO
  refine ak<|SR<|aE abj<|V (af O)<|V (fA bM 8 O m4 O)<|mI rfl<|Bt O sS (abh _ ND J (sS.blk (i:=2) O) (sS.xY (i:=3) O hfo.hW)) (aJ call129 O O)<|fun v64 w62 pC=> ?_
  refine V (run_assign bG) ?_
  refine aa<|ah<|SR<|have aRD:=ahK (cl:=(bk (rX cs (oA (cr ai.length qs)) ai.length))) (k:=k) ⟨h0,J⟩;have amq:=uZ (cl:=(bk (rX cs (oA (cr ai.length qs)) ai.length))) (i:=k);?_
  refine V (run_move bG) ?_
  refine V (aA (pC.sl (i:=0) O) O bg O)<|V (bX O O)<|aa<|aF O (fun F9=> ?_) (fun F9=> ?_)
  .refine a7 (id:=3) rfl<|ax<|V (ay NC O J)<|mI rfl<|aa<| ?_
   refine⟨(k+1,vd2,xH,A5,cX,eA,pD,me,Ow,Jh,CZ,f1,(CZ++(Jh++R))),?_,Ng.u4.u4.u4.u4.u4.u1,(Hp.conv (pC.sub (sQ sR)) QR),(aK I qe),?_,?_,aN,?_,?_,?_,?_,?_,?_,?_,?_⟩
   .exact(Kg (Kj ‹k<(ai.length:Int)›)).2 (Kc (Ky _) _)
   .exact Bb h0
   .exact‹k<(ai.length:Int)›
   ·(rw[BR h0,<-hs,RQ h0 (by rintro⟨a,b⟩;omega)])
   .exact MA
   .exact J2
   .exact hcj.more (eG _) (eG _) aeK
   .exact ND
   .exact ajR
   .exact jP az9 (Nat.mul_le_mul_left _ (WG (Bb (lm k))))
   exact anO
  refine ak<|SR<|have hlk:=hlr k.toNat J;have hlc:=hlv.at hlk.1 hlk.2;aE abj<|V (af O)<|V (fA bM 3 O lz O)<|lV dJ pC 3 O O rfl<|mI rfl<|V (ag (pC.sl (i:=9) O) dJ gM O O J)<|V (lC (pC.sl (i:=9) O) cI O O O J)<|oY pC (bf jH)<|fun b69 w67 mA=>bu mA (i:=0) O (ey O O O (mA.blk (i:=0) O))<|fun w72 vS=> ?_
  simp only[z2,gL,pull]at vS
  refine aa<|ah<|SR<| ?_
  refine V (run_move bG) ?_
  refine V (fW (vS.sl (i:=1) O) bg bz O O J)<|V (aA (Sl.frI (vS.sl (i:=1) O) 1 J) O bg O)<|aE (v:=I 0) rfl<|aa<|aC<|bj (G:=Int×Ct×(List a8)×(List a8)) (fun⟨j,f2,VU,Z2⟩ s' w'=>(Fr (12::(rg 75 38 [])) _ s')/\(Hp W0 w' (.blk b69 (.cells (Value.agg (jg (u5 (an.getD (aT.getD k.toNat 0).toNat oK).p.sh cX (cX.getD k.toNat dy) (((bK (bk (rX cs (oA (cr ai.length qs)) ai.length)) k).drop 1).take j.toNat)))).cells 37 (0,0))::_::_::_::_::_::_::_::_::_::_::_::_::_::_::_::_::_::_::Z2))/\(s' 75=I j)/\(0<=j)/\(j<=((bK (bk (rX cs (oA (cr ai.length qs)) ai.length)) k).drop 1).length)/\(Z2=VU++(Jh++R))/\(kA (AH fr) ids f2 tl VU)/\(oV f f2 0 0 (coJ (bk (rX cs (oA (cr ai.length qs)) ai.length)) k.toNat+j.toNat))) (fun⟨j,f2,VU,Z2⟩=>(((bK (bk (rX cs (oA (cr ai.length qs)) ai.length)) k).drop 1).length-j).toNat) ((0,f1,CZ,(CZ++(Jh++R)))) ⟨Fr.refl _ _,vS,rfl,J,J,rfl,J2,hcj⟩<| ?_
  rintro⟨j,f2,VU,Z2⟩ aRF w74 ⟨ajS,zS,SE,j0,j1,hz2,hZ2,hc2⟩
  obtain⟨ajT,SF,aul,aum⟩:=ajS.w4 8 10 73 74
  obtain⟨VV,aAb,aAc,aun⟩:=ajS.t4 0 abj 1 Gf 7 VE 47 NC
  subst hz2
  have hdl:=xJ (i:=1) (l:=(bK (bk (rX cs (oA (cr ai.length qs)) ai.length)) k))
  refine SR<|V (aL SE aum)<|aa<|ah<|aF O (fun h76=> ?_) (fun h76=> ?_)
  .refine ak<|ah<|aC<|SR<|V (ag (Sl.frI (zS.sl (i:=1) O) 1 J) bg bz aul SE J)<|have hkm:=lY (xK (dc (d:=0) j0 ‹j<_›));V (au bx O O ((Sl.frI (zS.sl (i:=1) O) 1 J).cell _ _ (dZ J)))<|aI rfl<|aa<|ah<|eF aM zS<|fun w77 Jf=>have SG:=Jf;AQ 0 O SG (run_move VV)<|AQ 1 O SG (af O)<|AQ 2 O SG (fA bM 3 O lz O)<|tV 3 O SG dJ 4 O O rfl<|AQ 4 O SG (mV (I _) O)<|AT 5 O SG (fun w hS=>ag (hS.sl (i:=10) O) dJ gM O O J)<|AT 6 O SG (fun w hS=>lC (hS.sl (i:=10) O) cI O O O J)<|AT 7 O SG (fun w hS=>dR cI O O SF (hS.blk (i:=0) O))<|AQ 8 O SG (OS B3 O O)<|AD<|bY O (fun h80=> ?_) (fun h80=> ?_)
   .refine ez (z:=⟨none,_,_,_,_,none⟩) aM O aM Jf (sP (sP (sP (sP (sP (sP (sP (sP (sP (sP (sP (sP (sP (sP (sP (sP (sP (sP (sP (sA sR))))))))))))))))))))<|fun w81 tC=>have vC:=tC.sub (sP (sP (sP (sP (sP (sP (sP (sP (sP (sP (sP (sP (sP (sP (sP (sP (sP (sP (sP (sA sR))))))))))))))))))));AQ 0 O vC (run_move VV)<|AQ 1 O vC (af O)<|AQ 2 O vC (fA bM 1 O qd O)<|tV 3 O vC mN 4 O O rfl<|AQ 4 O vC (run_move VV)<|AQ 5 O vC (af O)<|AQ 6 O vC (fA bM 2 O cP O)<|tV 7 O vC bg 4 O O rfl<|AQ 8 O vC (run_move ajT)<|AT 9 O vC (fun w hS=>ag (hS.sl (i:=9) O) bg bz O O J)<|AT 10 O vC (fun w hS=>au bx O O ((hS.sl (i:=9) O).cell _ _ (dZ J)))<|AT 11 O vC (fun w hS=>ag (hS.sl (i:=8) O) mN KB O O J)<|AQ 12 O vC (fA Bc 2 O sizeOf117 O)<|AQ 13 O vC (fA p9 2 O sizeOf115 O)<|AT 14 O vC (fun w hS=>gp (dv:=oK) (off:=4) o7 (hS.sl (i:=8) O) Kq O O J O)<|AT 15 O vC (fun w hS=>dR cI O O SF (hS.blk (i:=0) O))<|AQ 16 O vC (run_move VV)<|AQ 17 O vC (af O)<|AQ 18 O vC (fA bM 3 O lz O)<|tV 19 O vC dJ 4 O O rfl<|AQ 20 O vC (mV (I _) O)<|AT 21 O vC (fun w hS=>ag (hS.sl (i:=10) O) dJ gM O O J)<|AT 22 O vC (fun w hS=>lC (hS.sl (i:=10) O) cI O O O J)<|A1 23<| ?_
    obtain⟨aRI,aG7,aG8,aAd,aAe⟩:=ajp W0 ids tl hT _ _ _ _ f2 VU ([_,_,_,_,_,_,_,_,_,_,_,_,_,_,_,_,_,_,_]++(Jh++R)) _ _ _ _ (hlc.ops.mono (Le.zz (fun x hx=>bt _ (bt _ hx)))) hlc.Ek hZ2 (hc2.ok hf) GQ (Hp.rK (A:=[_,_,_,_,_,_,_,_,_,_,_,_,_,_,_,_,_,_,_]) (Zf:=VU) (R:=(Jh++R)) tC)
    refine th O aH O aAe (iH aAd (cs:=aG7) aG8 O O) (fun u w' ⟨_,Z',_,h⟩=>Hp.sub (L:=_::_::_::_::_::_::_::_::_::_::_::_::_::_::_::_::_::_::_::(Z'++(Jh++R))) (Hp.oq (A:=[_,_,_,_,_,_,_,_,_,_,_,_,_,_,_,_,_,_,_]) h) (sP (sP (sP (sP (sP (sP (sP (sP (sP (sP (sP (sP (sP (sP (sP (sP (sP (sP (sP (sA sR))))))))))))))))))))) ?_
    rintro x95 w90 ⟨aAf,Z93,aG9,h91⟩
    have aAg:Hp _ w90 (_::_::_::_::_::_::_::_::_::_::_::_::_::_::_::_::_::_::_::(Z93++(Jh++R))):=Hp.oq (A:=[_,_,_,_,_,_,_,_,_,_,_,_,_,_,_,_,_,_,_]) h91
    rw[aoY hlc.Ek hlc.sh]at aAf
    subst aAf
    refine AD<|bu aAg (i:=0) O (ey O SF O (aAg.blk (i:=0) O))<|fun atL DQ=> ?_
    simp only[z2,gL,pull]at DQ
    refine aa<|ax<|V (ay SE O J)<|mI rfl<|aa<|have hqq:¬qL (cX.getD (((bK (bk (rX cs (oA (cr ai.length qs)) ai.length)) k).drop 1).getD j.toNat 0).toNat dy) (u5 (an.getD (aT.getD k.toNat 0).toNat oK).p.sh cX (cX.getD k.toNat dy) (((bK (bk (rX cs (oA (cr ai.length qs)) ai.length)) k).drop 1).take j.toNat)):=jV;?_
    refine⟨(j+1,(Wr.tick .j (an.getD (aT.getD k.toNat 0).toNat oK).d f2),Z93,(Z93++(Jh++R))),?_,ajS.u4.u4.u4.u4.u4.u4.u4.u4.u4.u1.u1.u1,(Hp.conv DQ aeo),(aK I qe),?_,?_,aN,?_,?_⟩
    .exact(Kg (Kj ‹j<_›)).2 (Kc (Ky _) _)
    .exact Bb j0
    .exact‹j<_›
    .exact aG9
    exact(hc2.trans (x8 hlc.dep _).2.2).more (eG _) (eG _) (by rw[Int.toNat_add j0 aD];exact eG _)
   refine ak<|ax<|V (ay SE O J)<|mI rfl<|aa<|have hqq:qL (cX.getD (((bK (bk (rX cs (oA (cr ai.length qs)) ai.length)) k).drop 1).getD j.toNat 0).toNat dy) (u5 (an.getD (aT.getD k.toNat 0).toNat oK).p.sh cX (cX.getD k.toNat dy) (((bK (bk (rX cs (oA (cr ai.length qs)) ai.length)) k).drop 1).take j.toNat)):=jV;?_
   refine⟨(j+1,f2,VU,(VU++(Jh++R))),?_,ajS.u4.u4.u4.u1.u1.u1,(Hp.conv Jf aeo),(aK I qe),?_,?_,aN,?_,?_⟩
   .exact(Kg (Kj ‹j<_›)).2 (Kc (Ky _) _)
   .exact Bb j0
   .exact‹j<_›
   .exact hZ2
   exact hc2.more (eG _) (eG _) (Nat.add_le_add_left (WG (Bb (lm j))) _)
  refine a7 (id:=4) rfl<|have ej:(u5 (an.getD (aT.getD k.toNat 0).toNat oK).p.sh cX (cX.getD k.toNat dy) (((bK (bk (rX cs (oA (cr ai.length qs)) ai.length)) k).drop 1).take j.toNat))=(u5 (an.getD (aT.getD k.toNat 0).toNat oK).p.sh cX (cX.getD k.toNat dy) ((bK (bk (rX cs (oA (cr ai.length qs)) ai.length)) k).drop 1)):=(by rw[iP J]);have hrb:(BP (bk (rX cs (oA (cr ai.length qs)) ai.length)) aX ai.length qs).length=ai.length:=(by unfold BP UK;rw[CX (UL _),CX (Mm _ _)];simp);ez (z:=⟨some _,_,_,_,_,none⟩) aM O aM zS sR<|fun aAh NE=>have IS:=NE;AQ 0 O IS (run_move VV)<|AQ 1 O IS (run_move aAb)<|AQ 2 O IS (run_move ajT)<|AT 3 O IS (fun w hS=>dR cI O O SF (hS.blk (i:=0) O))<|AQ 4 O IS (run_move aAc)<|AQ 5 O IS (run_move ajT)<|AT 6 O IS (fun w hS=>ag (hS.sl (i:=2) O) cS c8 O O J)<|AT 7 O IS (fun w hS=>au dW O O ((hS.sl (i:=2) O).cell _ _ (ke (dv:=0#64) J)))<|AD<|bV O (Aq _ _ _ J J J J J Ec J (fun k hk=>⟨by(repeat apply fw);exact bt _ (bt _ (vN k hk).1),(vN k hk).2.1,fun i hi=>by have:=(vN k hk).2.2 i hi;omega⟩) _ (ND.mono fun e he=>by(repeat apply fw);exact bt _ he) MA (NE.pj [4,4,4,4,4,4,4,4,4,4,4,4,4,4,4])) (ru call130 O O O O O)<| ?_
  rintro _ auo ⟨rfl,aAi,aHb,aHc,aAj,abk,ap6,aAk,aAl,aju,aAm⟩
  simp only[nE,wE]at aAm
  have ap7:=Hp.lN (A:=[_,_,_,_,_,_,_,_,_,_,_,_,_,_,_]) (R:=[_,_,_,_]) aAm
  simp only[fH,er]at ap7
  have yp:=ap7.pk [15,15,15,15]
  have aAn:Hp W0 _ (_::_::_::_::_::_::_::_::_::_::_::_::_::_::_::_::_::_::_::(VU++(abk++(Jh++R)))):=Hp.lN (A:=[_,_,_,_,_,_,_,_,_,_,_,_,_,_,_,_,_,_,_]) (B:=abk) (R:=VU) yp
  refine aa<|ax<|V (ay aun O J)<|mI rfl<|aa<| ?_
  refine⟨(k+1,aAi,aHb,aHc,(xn cX us (pD,me) (bK (bk (rX cs (oA (cr ai.length qs)) ai.length)) k) (u5 (an.getD (aT.getD k.toNat 0).toNat oK).p.sh cX (cX.getD k.toNat dy) (((bK (bk (rX cs (oA (cr ai.length qs)) ai.length)) k).drop 1).take j.toNat))).1,fY eA (bK (bk (rX cs (oA (cr ai.length qs)) ai.length)) k) ((BP (bk (rX cs (oA (cr ai.length qs)) ai.length)) aX ai.length qs).getD k.toNat 0),(xn cX us (pD,me) (bK (bk (rX cs (oA (cr ai.length qs)) ai.length)) k) (u5 (an.getD (aT.getD k.toNat 0).toNat oK).p.sh cX (cX.getD k.toNat dy) (((bK (bk (rX cs (oA (cr ai.length qs)) ai.length)) k).drop 1).take j.toNat))).2.1,(xn cX us (pD,me) (bK (bk (rX cs (oA (cr ai.length qs)) ai.length)) k) (u5 (an.getD (aT.getD k.toNat 0).toNat oK).p.sh cX (cX.getD k.toNat dy) (((bK (bk (rX cs (oA (cr ai.length qs)) ai.length)) k).drop 1).take j.toNat))).2.2,Ow++aAj,abk++Jh,VU,f2,(VU++(abk++(Jh++R)))),?_,(((Ng.u4.u4.u4.u4.u4.u4.u4.u1.u1.u1).t ajS O)).u4.u4.u4,(Hp.conv (aAn.sub (sQ (sQ sR))) QR),(aK I qe),?_,?_,?_,?_,?_,?_,?_,?_,?_,?_,?_⟩
  .exact(Kg (Kj ‹k<(ai.length:Int)›)).2 (Kc (Ky _) _)
  .exact Bb h0
  .exact‹k<(ai.length:Int)›
  ·(simp only[dg])
  ·(rw[BR h0,<-hs,aaI h0 J J];simp only[ej])
  .exact aju
  .exact hZ2
  ·(rw[Te h0,aQ (Gr ‹¬fl _ _≠k›)];exact hc2.more (eG _) (eG _) (Nat.add_le_add_left (Int.toNat_le.2 (by rw[<-xJ];exact j1)) _))
  .exact ND.mono fun e he=>(by rw[dg];exact bt _ he)
  .exact(fun x hx=>by rw[<-dg]at hx;rcases eP.1 hx with q|q;exact⟨(ajR x q).1.mono (fun e he=>bt _ he),(ajR x q).2⟩;exact⟨(ap6 x q).1.mono (fun e he=>dx _ he),(ap6 x q).2⟩)
  ·(have:=aAk;rw[cV];omega)
  exact anO.trans aAl
 refine a7 (id:=2) rfl<|have ek2:k.toNat=ai.length:=J;nW O ⟨⟨(rX cs (oA (cr ai.length qs)) ai.length),⟨cX,eA,pD,me⟩,coJ (bk (rX cs (oA (cr ai.length qs)) ai.length)) ai.length⟩,vW1,vU1,vT1,cW1,cU1,W1,lK,ts1,cn1,vd2,xH,A5,(new++Ow),Jh,CZ,f1,?_,rfl,?_,?_,?_,?_,?_,?_,?_,(iY.sub (sQ (sQ sR)))⟩
 .exact(aQ jV).trans ((aP hne).trans (by rw[hs,ek2]))
 .exact ND
 .exact ajR
 ·(rw[cV];omega)
 .exact hbk.trans anO
 .exact J2
 ·(rw[ek2]at hcj;exact hcj)
 exact MA
end
end Go.Proofs.YtlhjdflgjbkpmaaGreatDoor.W

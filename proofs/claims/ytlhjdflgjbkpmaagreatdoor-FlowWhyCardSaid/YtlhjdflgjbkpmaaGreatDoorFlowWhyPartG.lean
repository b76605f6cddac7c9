/- Part 7 of the proof of FlowWhy: its plain laws and the walks of its functions. -/
import Derived.Test.YtlhjdflgjbkpmaaGreatDoorFlowWhyPartF
set_option linter.all false
namespace Go.Proofs.YtlhjdflgjbkpmaaGreatDoor.W
section
open Go Go.RowKit Go.Proofs.YtlhjdflgjbkpmaaGreatDoor.E Go.Proofs.YtlhjdflgjbkpmaaGreatDoor.M
set_option maxRecDepth 100000
open Go.Proofs.Tryz
variable{fr:List bu}
variable{W0 w:World}{n m:Nat}{cs:List (List Nat)}{wr:Value}{vL:Value}{vt:Value}{vv:Value}{vy:Value}{vu:Value}{vq:Value}{sn:Int}{vW:Value}{vU:Value}{vT:Value}{cn:Int}{sk:Bool}{wy:BitVec 64}{vd:Value}{vm:Value}{cW:Option (Nat×Array Value)}{cU:Option (Nat×Array Value)}{W:List (BitVec 64)}{ul:List (Value×jU)}{ts:List Int}{aq:List pY}{bf:List Int}{ak:List El}{bp:List (BitVec 64)}{us:List j5}{qs:List dD}{lg:List (Value×mE)}{tm:List Int}{L:List bu}
set_option maxHeartbeats 4000000 in
theorem Ez{b:Nat}{ql qi:Value}{cq:Option (Nat×Array Value)}{wl:List Int}{wi:List Bool}{ids:List Nat}{tl:List (Nat×Rl)}{f:Ct}{nk:Nat}{Zf R:List bu}(hm:m+ak.length<=100000)(QL:bp.length=ak.length)(O4:us.length=ak.length)(oF:(bB cs).length=ak.length)(QM:ak.length<=1000)(hlg:lg.length<=450000000000)(hwq:u9 wl wi)(hwi:wi.length<=1000)(yp:∀k:Nat,k<us.length->dS 3 (us.getD k de)∈R/\(us.getD k de).l.length<=1000/\∀i∈(us.getD k de).l,0<=i/\i<wi.length)(hf:FO nk f)(hnk:nk<=100000000000)(XB:0<=sn/\sn<=qs.length)(hqn:qs.length<=1000)(hpl:V7 ak.length qs)(hlt:bf.length=ak.length)(hlr:∀k:Nat,k<bf.length->0<=bf.getD k 0/\bf.getD k 0<aq.length)(w:World)(hT:pc W0)(hlv:Wf TX (Kz (Kw W0) R) ids tl aq)(hZ:kY (BN fr) ids f tl Zf)(Ju:ZN (Kz (Kw W0) R) qs)(h:xA FX n m cs vW vU cW cU W ul ts cn R)(hq:qO cq ql (wl.map I))(hH:Hp W0 w (nE n wr vL vt vv vy vu vq sn vW vU vT cn sk wy vd vm cW cU W ul ts aq bf ak bp us qs lg tm ((wE b ql qi cq wl wi ((Zf++R)))))):Calls Tryz.prog 84 #[pt n,pt b] w (j3 fun u w'=>∃(r:CoO) (ON OO XG:Value) (Re Rf:Option (Nat×Array Value)) (W':List (BitVec 64)) (zB:List (Value×jU)) (ts':List Int) (Rg:Int) (vd':Value) (Us:Value) (Ut:Option (Nat×Array Value)) (new:List (Value×mE)) (Lb Z':List bu) (f':Ct),s5 cs us aq bf qs sn ak.length ⟨ak,bp,wl,wi⟩=r/\u= .tuple #[]/\xA FX n (m+ak.length) r.cs ON OO Re Rf W' zB ts' Rg (Lb++R)/\(∀x∈new,nr NX n Lb x/\I8 x.2)/\new.length<=1001*ak.length/\iO new (NP.mk aq bf ak bp ((qu us)) qs sn cs sk wy wr) (NP.mk aq bf (r.s.ak) (r.s.bp) ((qu us)) qs sn (r.cs) sk wy wr)/\kY (BN fr) ids f' tl Z'/\p6 f f' 0 0 r.j/\qO Ut Us (r.s.wl.map I)/\Hp W0 w' (nE n wr vL vt vv vy vu vq sn (ON) (OO) (XG) (Rg) sk wy (vd') vm (Re) (Rf) (W') (zB) (ts') aq bf (r.s.ak) (r.s.bp) us qs (lg++new) tm ((wE b (Us) qi (Ut) (r.s.wl) (r.s.wi) ((Z'++(Lb++R))))))):=by
 simp only[wE]at hH
 simp only[nE]at hH
 have aQu:=hwq.len
 refine en func84 rfl rfl<|ai<|SR<|aF (v:=Pn _ _) rfl<|aH O hH (Jt J _ (hH.blk (i:=0) O) (hH.sl (i:=9) O) (Ju.mono (hH.kz (Le.refl _) (fun x hx=>(mT (mT (mT (mT (mT (mT (mT (mT (mT (mT (mT (mT (mT (mT (mT (bH _ hx)))))))))))))))))))) (ay call122 O)<|fun w1 bq=>V (bJ O)<|aa<|bX O (fun h5=> ?_) (fun h5=> ?_)
 .refine aj<|rC O ⟨⟨cs,⟨ak,bp,wl,wi⟩,0⟩,vW,vU,vT,cW,cU,W,ul,ts,cn,vd,ql,cq,[],[],Zf,f,?_,rfl,?_,?_,?_,?_,?_,?_,?_,(by rw[mG];exact(bq))⟩
  .exact aW kD
  .exact h.more J
  .exact fun x hx=>by cases hx
  .exact nQ _
  .exact iO.nil _
  .exact hZ
  .exact p6.refl f
  exact hq
 refine an<|SR<|aF (v:=Pn _ _) rfl<|V (af O)<|V (fA ct 8 O pu O)<|aH O bq (acO h J (bq.blk (i:=0) O) (bq.yY (i:=1) O h.hW)) (ay call123 O)<|fun w6 eE=>aI rfl<|aa<|ai<|SR<|aF (v:=Pn _ _) rfl<|IN O eE (Jv (Kw W0) J J (hpl) _ (eE.blk (i:=0) O) (eE.sl (i:=6) O) (eE.sl (i:=9) O) (Ju.mono (eE.kz (Le.refl _) (fun x hx=>(mT (mT (mT (mT (mT (mT (mT (mT (mT (mT (mT (mT (mT (mT (mT (bH _ hx)))))))))))))))))))) (ay call125 O)<|fun v10 Je Z13 cM aHp=>have gW:Hp _ Je (_::_::_::_::_::_::_::_::_::_::_::_::_::_::_::(Z13++(Zf++R))):=cM.Gh (L:=[_,_,_,_,_,_,_,_,_,_,_,_,_,_,_]) (L':=(Zf++R));?_
 obtain⟨afd,aAX,aHq⟩:=aHp
 have hgl:afd.length=ak.length:=by have:=aK List.length aAX;rw[gz,FU]at this;exact this
 refine CA O gW (afb _ afd J _ (aHq.mono (gW.kz (Le.refl _) (fun x hx=>(mT (mT (mT (mT (mT (mT (mT (mT (mT (mT (mT (mT (mT (mT (mT (dI _ hx)))))))))))))))))))) (ay call124 O)<|fun v21 Q2 cP=>V (aD (cP.sl (i:=0) O) O bD O)<|aF (v:=I 0) rfl<|aa<|aA<| ?_
 obtain⟨Y,hY⟩:∃Y,Y=Z13++Zf:=⟨_,rfl⟩
 have cK:=cP
 rw[<-dH Z13 Zf R,<-hY]at cK
 have hks:pF (qu afd)=(pF (cw ak.length qs)):=by rw[aAX]
 have hkl:(pF (qu afd)).length=ak.length:=by rw[anD,gz];exact hgl
 refine bt (G:=Int×Value×Value×Value×(Option (Nat×Array Value))×(Option (Nat×Array Value))×(List (BitVec 64))×(List (Value×jU))×(List Int)×Int×Value×(List (Value×mE))×(List bu)×(List bu)) (fun⟨k,vW1,vU1,vT1,cW1,cU1,W1,mD,ts1,cn1,Xn,new,Lb,Z1⟩ s' w'=>(Fr (5::6::(rg 24 10 [])) _ s')/\(Hp W0 w' (.row v21 3 1 afd.length ((pF (qu afd)).map I):: .blk n (.cells #[wr,vL,vt,vv,vy,vu,vq,I sn,vW1,vU1,vT1,I cn1,B sk,U wy,Xn,vm] 111 (0,0))::cE cW1 vW1 35 (W1.map U)::cE cU1 vU1 1 (mD.map Prod.fst)::jY I vT1 3 ts1::wu XC 13 vL 119 aq::jY I vt 3 bf::wu pM 8 vv 37 ak::jY U vy 35 bp::jY j5.v vu 99 us::wu qw 13 vq 128 qs::jY Prod.fst Xn 1 (lg++new)::jY I vm 3 tm::_::_::_::Z1))/\(s' 24=I k)/\(0<=k)/\(k<=ak.length)/\(Z1=Y++(Lb++R))/\(xA FX n (m+k.toNat) ((tw cs (pF (cw ak.length qs)) k.toNat)) vW1 vU1 cW1 cU1 W1 mD ts1 cn1 (Lb++R))/\(∀x∈new,nr NX n Lb x/\I8 x.2)/\(new.length<=k.toNat)/\(iO new (NP.mk aq bf ak bp ((qu us)) qs sn cs sk wy wr) (NP.mk aq bf ak bp ((qu us)) qs sn ((tw cs (pF (cw ak.length qs)) k.toNat)) sk wy wr))) (fun⟨k,vW1,vU1,vT1,cW1,cU1,W1,mD,ts1,cn1,Xn,new,Lb,Z1⟩=>(ak.length-k).toNat) ((0,vW,vU,vT,cW,cU,W,ul,ts,cn,vd,[],[],(Y++([]++R)))) ⟨Fr.refl _ _,(by rw[mG];exact cK),rfl,J,J,rfl,h.more J,(fun x hx=>by cases hx),nQ _,iO.nil _⟩ ?_
 rintro⟨k,vW1,vU1,vT1,cW1,cU1,W1,mD,ts1,cn1,Xn,new,Lb,Z1⟩ aFy w23 ⟨ae3,eP,T3,h0,hk,hz,hfo,XH,hnl,hbk⟩
 obtain⟨Xp,Q6,aAY,au4,au5⟩:=ae3.w5 0 1 4 22 23
 subst hz
 refine SR<|V (aN T3 au5)<|aa<|ai<|aG O (fun Ji=> ?_) (fun Ji=> ?_)
 .refine an<|ai<|aA<|SR<|aF T3<|V (ah (eP.sl (i:=0) O) bD aP au4 T3 J)<|V (aE bx O O ((eP.sl (i:=0) O).cell _ _ (eU J)))<|aI rfl<|aI rfl<|aa<|au<|aF Xp<|mI rfl<|mI rfl<|cG O (Jy _ _ J Fu _ hfo (R:=[_,_,_,_]++Y) (eP.pj [1,1,1,1,1,1,1,1,1,1,1,1])) (bA call126 O O O)<| ?_
  rintro _ w44 ⟨rfl,aHr,aHs,aHt,aHu,aHv,W33,auA,aHw,aHx,aHy,aHz,aAZ,arl,aA0,aQw,aA1,r9⟩
  simp only[nE,gB,eR]at r9
  have oq:=r9.pk [12]
  rw[hks]at arl aA1
  refine aa<|au<|V (ax T3 O J)<|mI rfl<|aa<| ?_
  refine⟨(k+1,aHr,aHs,aHt,aHu,aHv,W33,auA,aHw,aHx,aHy,new++aHz,aAZ++Lb,(Y++(aAZ++(Lb++R)))),aX,ae3.u4.u4.u4,(Hp.conv oq R3),(aK I uD),J,J,?_,?_,?_,?_,?_⟩
  ·(simp only[dH])
  ·(rw[G8 h0,dH];exact arl.more (by split<;>omega))
  .exact(fun x hx=>by rcases fh.1 hx with q|q;exact⟨(XH x q).1.mono (fun e he=>bH _ he),(XH x q).2⟩;exact⟨(aA0 x q).1.mono (fun e he=>dI _ he),(aA0 x q).2⟩)
  ·(rw[ed];omega)
  (rw[G8 h0];exact hbk.trans aA1)
 refine a8 (id:=0) rfl<|ai<|SR<|have ek:k.toNat=ak.length:=J;?_
 rw[ek]at hfo hbk
 have aoK:(bB (tw cs (pF (cw ak.length qs)) ak.length)).length=ak.length:=by rw[xB];omega
 have o4:Hp W0 _ (_::_::_::_::_::_::_::_::_::_::_::_::_::_::_::_::(Zf++(Lb++R))):=eP.sub (sP (sP (sP (sP (sP (sP (sP (sP (sP (sP (sP (sP (sP (sP (sP (sP (RA (hY▸XO _ _) sR)))))))))))))))))
 refine aF Xp<|V (af O)<|V (fA ct 8 O pu O)<|aH O o4 (acO hfo J (o4.blk (i:=1) O) (o4.yY (i:=2) O hfo.hW)) (ay call123 O)<|fun w48 F7=>aF aAY<|V (bW O O)<|aa<|aG O (fun h51=> ?_) (fun h51=> ?_)
 .refine aj<|rC O ⟨⟨(tw cs (pF (cw ak.length qs)) ak.length),⟨ak,bp,wl,wi⟩,0⟩,vW1,vU1,vT1,cW1,cU1,W1,mD,ts1,cn1,Xn,ql,cq,new,Lb,Zf,f,?_,rfl,?_,?_,J,?_,?_,?_,?_,(F7.sub (sQ sR))⟩
  .exact(aY kD).trans (aY J)
  .exact hfo
  .exact XH
  .exact hbk
  .exact hZ
  .exact p6.refl f
  exact hq
 refine an<|SR<|aF Xp<|CA O F7 (Gd J J J J J (hpl) _ (F7.blk (i:=1) O) (F7.sl (i:=7) O) (F7.sl (i:=8) O) (F7.sl (i:=10) O) (F7.yY (i:=2) O hfo.hW) (Ju.mono (F7.kz (Le.refl _) (fun x hx=>(mT (mT (mT (mT (mT (mT (mT (mT (mT (mT (mT (mT (mT (mT (mT (mT (bH _ (bH _ hx))))))))))))))))))))) hfo) (ay call127 O)<|fun v54 w52 jA=> ?_
 refine V (run_assign bz) ?_
 refine aa<|SR<|aF Xp<|V (af O)<|V (fA ct 3 O ji O)<|lV bU jA 2 O O rfl<|V (aD (jA.sl (i:=8) O) O bU O)<|aF (v:=I 0) rfl<|aa<|aA<|have hfr:=hfo.find aoK;have hne:¬leads (bB (tw cs (pF (cw ak.length qs)) ak.length))=leads (bB cs):=J;bt (G:=Int×Value×Value×(Option (Nat×Array Value))×(List El)×(List (BitVec 64))×(List Int)×(List Bool)×(List (Value×mE))×(List bu)×(List bu)×Ct×(List bu)) (fun⟨k,vd2,yJ,B9,dc,eN,qz,m6,PG,KB,HL,f1,Z1⟩ s' w'=>(Fr (rg 8 3 (12::(rg 47 76 []))) _ s')/\(Hp W0 w' (_::_:: .blk n (.cells #[wr,vL,vt,vv,vy,vu,vq,I sn,vW1,vU1,vT1,I cn1,B sk,U wy,vd2,vm] 111 (0,0))::cE cW1 vW1 35 (W1.map U)::cE cU1 vU1 1 (mD.map Prod.fst)::jY I vT1 3 ts1::wu XC 13 vL 119 aq::jY I vt 3 bf::wu pM 8 vv 37 dc::jY U vy 35 eN::jY j5.v vu 99 us::wu qw 13 vq 128 qs::jY Prod.fst vd2 1 (lg++(new++PG))::jY I vm 3 tm:: .blk b (.cells #[yJ,qi] 156 (0,0))::qE B9 yJ 3 (qz.map I)::jY B qi 4 m6::Z1))/\(s' 47=I k)/\(0<=k)/\(k<=ak.length)/\(Z1=HL++(KB++R))/\((⟨dc,eN,qz,m6⟩:za)=(coA (bB (tw cs (pF (cw ak.length qs)) ak.length)) us aq bf (CZ (bB (tw cs (pF (cw ak.length qs)) ak.length)) bp ak.length qs) ⟨ak,bp,wl,wi⟩ k.toNat))/\(qO B9 yJ (qz.map I))/\(kY (BN fr) ids f1 tl HL)/\(p6 f f1 0 0 (coJ (bB (tw cs (pF (cw ak.length qs)) ak.length)) k.toNat))/\(xA FX n (m+ak.length) ((tw cs (pF (cw ak.length qs)) ak.length)) vW1 vU1 cW1 cU1 W1 mD ts1 cn1 (KB++R))/\(∀x∈new++PG,nr NX n KB x/\I8 x.2)/\(PG.length<=1000*k.toNat)/\(iO PG (NP.mk aq bf ak bp ((qu us)) qs sn ((tw cs (pF (cw ak.length qs)) ak.length)) sk wy wr) (NP.mk aq bf dc eN ((qu us)) qs sn ((tw cs (pF (cw ak.length qs)) ak.length)) sk wy wr))) (fun⟨k,vd2,yJ,B9,dc,eN,qz,m6,PG,KB,HL,f1,Z1⟩=>(ak.length-k).toNat) ((0,Xn,ql,cq,ak,bp,wl,wi,[],Lb,Zf,f,(Zf++(Lb++R)))) ⟨Fr.refl _ _,(by rw[mG];exact jA),rfl,J,J,rfl,rfl,hq,hZ,p6.refl f,hfo,(by rw[mG];exact XH),nQ _,iO.nil _⟩<| ?_
 rintro⟨k,vd2,yJ,B9,dc,eN,qz,m6,PG,KB,HL,f1,Z1⟩ ayK w55 ⟨Ox,jz,OS,h0,hk,hz,hs,O6,Lj,hcj,OT,ak4,aA2,aoM⟩
 obtain⟨W5,au7⟩:=Ox.w2 7 46
 obtain⟨acT,HE⟩:=Ox.t2 0 Xp 1 Q6
 subst hz
 have ok1:=ZR (cl:=(bB (tw cs (pF (cw ak.length qs)) ak.length))) (us:=us) (aq:=aq) (bf:=bf) (rs:=(CZ (bB (tw cs (pF (cw ak.length qs)) ak.length)) bp ak.length qs)) (fun k hk=>(yp k hk).2.2) J (⟨rfl,rfl,rfl,hwq⟩:QJ wi.length ak.length bp.length ⟨ak,bp,wl,wi⟩) k.toNat
 rw[<-hs]at ok1
 have lv1:dc.length=ak.length:=ok1.lv
 have ly1:eN.length=bp.length:=ok1.ly
 have li1:m6.length=wi.length:=ok1.li
 have wq1:=ok1.wq.len
 simp only at wq1
 have aHB:=ZQ (cl:=(bB (tw cs (pF (cw ak.length qs)) ak.length))) k.toNat
 have aQy:coJ (bB (tw cs (pF (cw ak.length qs)) ak.length)) k.toNat<=1000*1000:=kf aHB (xV J J)
 refine SR<|V (aN OS au7)<|aa<|ai<|aG O (fun PC=> ?_) (fun PC=> ?_)
 .refine an<|ai<|aA<|SR<|aF OS<|aI rfl<|aa<|ai<|SR<|aF acT<|V (af O)<|V (fA ct 8 O pu O)<|mI rfl<|aH O jz (Ga _ OT J (jz.blk (i:=2) O) (jz.yY (i:=3) O hfo.hW)) (aL Fq O O)<|fun w58 B3=>mI rfl<|V (kL O O)<|aa<|aG O (fun h61=> ?_) (fun h61=> ?_)
  .refine a8 (id:=3) rfl<|au<|V (ax OS O J)<|mI rfl<|aa<| ?_
   refine⟨(k+1,vd2,yJ,B9,dc,eN,qz,m6,PG,KB,HL,f1,(HL++(KB++R))),?_,Ox.u4.u4.u4,(Hp.conv B3 R3),(aK I uD),?_,?_,aM,?_,?_,?_,?_,?_,?_,?_,?_⟩
   .exact(LA (LD ‹k<(ak.length:Int)›)).2 (Lu (LO _) _)
   .exact Cf h0
   .exact‹k<(ak.length:Int)›
   ·(rw[C0 h0,<-hs,Tj h0 (by rintro⟨a,b⟩;omega)])
   .exact O6
   .exact Lj
   .exact hcj.more (eu _) (eu _) aa7
   .exact OT
   .exact ak4
   .exact kf aA2 (Nat.mul_le_mul_left _ (X5 (Cf (mc k))))
   exact aoM
  refine an<|SR<|aF acT<|V (af O)<|V (fA ct 8 O pu O)<|mI rfl<|CA O B3 (acP _ OT J (B3.blk (i:=2) O) (B3.yY (i:=3) O hfo.hW)) (aL call129 O O)<|fun v64 w62 o6=> ?_
  refine V (run_assign bz) ?_
  refine aa<|ai<|SR<|have aQA:=ai4 (cl:=(bB (tw cs (pF (cw ak.length qs)) ak.length))) (k:=k) ⟨h0,J⟩;have anv:=wz (cl:=(bB (tw cs (pF (cw ak.length qs)) ak.length))) (i:=k);?_
  refine V (run_move bz) ?_
  refine V (aD (o6.sl (i:=0) O) O bD O)<|V (bW O O)<|aa<|aG O (fun Hy=> ?_) (fun Hy=> ?_)
  .refine a8 (id:=3) rfl<|au<|V (ax OS O J)<|mI rfl<|aa<| ?_
   refine⟨(k+1,vd2,yJ,B9,dc,eN,qz,m6,PG,KB,HL,f1,(HL++(KB++R))),?_,Ox.u4.u4.u4.u4.u4.u1,(Hp.conv (o6.sub (sQ sR)) R3),(aK I uD),?_,?_,aM,?_,?_,?_,?_,?_,?_,?_,?_⟩
   .exact(LA (LD ‹k<(ak.length:Int)›)).2 (Lu (LO _) _)
   .exact Cf h0
   .exact‹k<(ak.length:Int)›
   ·(rw[C0 h0,<-hs,Tj h0 (by rintro⟨a,b⟩;omega)])
   .exact O6
   .exact Lj
   .exact hcj.more (eu _) (eu _) aa7
   .exact OT
   .exact ak4
   .exact kf aA2 (Nat.mul_le_mul_left _ (X5 (Cf (mc k))))
   exact aoM
  refine an<|SR<|have hlk:=hlr k.toNat J;have hlc:=hlv.at hlk.1 hlk.2;aF acT<|V (af O)<|V (fA ct 3 O ji O)<|lV bU o6 3 O O rfl<|mI rfl<|V (ah (o6.sl (i:=9) O) bU fl O O J)<|V (gy (o6.sl (i:=9) O) bI O O O J)<|lN o6 (aT fg)<|fun b69 w67 kJ=>bg kJ (i:=0) O (cR O O O (kJ.blk (i:=0) O))<|fun w72 vc=> ?_
  simp only[z2,dm,pull]at vc
  refine aa<|ai<|SR<| ?_
  refine V (run_move bz) ?_
  refine V (gD (vc.sl (i:=1) O) bD aP O O J)<|V (aD (Sl.frI (vc.sl (i:=1) O) 1 J) O bD O)<|aF (v:=I 0) rfl<|aa<|aA<|bt (G:=Int×Ct×(List bu)×(List bu)) (fun⟨j,f2,XI,Z2⟩ s' w'=>(Fr (12::(rg 75 38 [])) _ s')/\(Hp W0 w' (.blk b69 (.cells (Value.agg (iM (wA (aq.getD (bf.getD k.toNat 0).toNat p5).p.sh dc (dc.getD k.toNat df) (((bP (bB (tw cs (pF (cw ak.length qs)) ak.length)) k).drop 1).take j.toNat)))).cells 37 (0,0))::_::_::_::_::_::_::_::_::_::_::_::_::_::_::_::_::_::_::Z2))/\(s' 75=I j)/\(0<=j)/\(j<=((bP (bB (tw cs (pF (cw ak.length qs)) ak.length)) k).drop 1).length)/\(Z2=XI++(KB++R))/\(kY (BN fr) ids f2 tl XI)/\(p6 f f2 0 0 (coJ (bB (tw cs (pF (cw ak.length qs)) ak.length)) k.toNat+j.toNat))) (fun⟨j,f2,XI,Z2⟩=>(((bP (bB (tw cs (pF (cw ak.length qs)) ak.length)) k).drop 1).length-j).toNat) ((0,f1,HL,(HL++(KB++R)))) ⟨Fr.refl _ _,vc,rfl,J,J,rfl,Lj,hcj⟩<| ?_
  rintro⟨j,f2,XI,Z2⟩ aQB w74 ⟨ak5,xb,T4,j0,j1,hz2,hZ2,hc2⟩
  obtain⟨ak6,T5,au8,au9⟩:=ak5.w4 8 10 73 74
  obtain⟨Xq,aA4,aA5,ava⟩:=ak5.t4 0 acT 1 HE 7 W5 47 OS
  subst hz2
  have hdl:=yK (i:=1) (l:=(bP (bB (tw cs (pF (cw ak.length qs)) ak.length)) k))
  refine SR<|V (aN T4 au9)<|aa<|ai<|aG O (fun h76=> ?_) (fun h76=> ?_)
  .refine an<|ai<|aA<|SR<|V (ah (Sl.frI (xb.sl (i:=1) O) 1 J) bD aP au8 T4 J)<|have hkm:=mR (sF (dy (d:=0) j0 ‹j<_›));V (aE bx O O ((Sl.frI (xb.sl (i:=1) O) 1 J).cell _ _ (eU J)))<|aI rfl<|aa<|ai<|ew aQ xb<|fun w77 zx=>have Dp:=zx;AQ 0 O Dp (run_move Xq)<|AQ 1 O Dp (af O)<|AQ 2 O Dp (fA ct 3 O ji O)<|tV 3 O Dp bU 4 O O rfl<|AQ 4 O Dp (mV (I _) O)<|AT 5 O Dp (fun w hS=>ah (hS.sl (i:=10) O) bU fl O O J)<|AT 6 O Dp (fun w hS=>gy (hS.sl (i:=10) O) bI O O O J)<|AT 7 O Dp (fun w hS=>cN bI O O T5 (hS.blk (i:=0) O))<|AQ 8 O Dp (adR Hi O O)<|AD<|bX O (fun h80=> ?_) (fun h80=> ?_)
   .refine fZ (z:=⟨none,_,_,_,_,none⟩) aQ O aQ zx (sP (sP (sP (sP (sP (sP (sP (sP (sP (sP (sP (sP (sP (sP (sP (sP (sP (sP (sP (sA sR))))))))))))))))))))<|fun w81 o5=>have wN:=o5.sub (sP (sP (sP (sP (sP (sP (sP (sP (sP (sP (sP (sP (sP (sP (sP (sP (sP (sP (sP (sA sR))))))))))))))))))));AQ 0 O wN (run_move Xq)<|AQ 1 O wN (af O)<|AQ 2 O wN (fA ct 1 O uA O)<|tV 3 O wN o9 4 O O rfl<|AQ 4 O wN (run_move Xq)<|AQ 5 O wN (af O)<|AQ 6 O wN (fA ct 2 O dJ O)<|tV 7 O wN bD 4 O O rfl<|AQ 8 O wN (run_move ak6)<|AT 9 O wN (fun w hS=>ah (hS.sl (i:=9) O) bD aP O O J)<|AT 10 O wN (fun w hS=>aE bx O O ((hS.sl (i:=9) O).cell _ _ (eU J)))<|AT 11 O wN (fun w hS=>ah (hS.sl (i:=8) O) o9 sizeOf119 O O J)<|AQ 12 O wN (fA Ch 2 O sizeOf117 O)<|AQ 13 O wN (fA ru 2 O sizeOf115 O)<|AT 14 O wN (fun w hS=>gC (dv:=p5) (off:=4) rP (hS.sl (i:=8) O) LJ O O J O)<|AT 15 O wN (fun w hS=>cN bI O O T5 (hS.blk (i:=0) O))<|AQ 16 O wN (run_move Xq)<|AQ 17 O wN (af O)<|AQ 18 O wN (fA ct 3 O ji O)<|tV 19 O wN bU 4 O O rfl<|AQ 20 O wN (mV (I _) O)<|AT 21 O wN (fun w hS=>ah (hS.sl (i:=10) O) bU fl O O J)<|AT 22 O wN (fun w hS=>gy (hS.sl (i:=10) O) bI O O O J)<|A1 23<| ?_
    obtain⟨aQE,aHC,aHD,aA6,aA7⟩:=akE W0 ids tl hT _ _ _ _ f2 XI ([_,_,_,_,_,_,_,_,_,_,_,_,_,_,_,_,_,_,_]++(KB++R)) _ _ _ _ (hlc.ops.mono (Le.zz (fun x hx=>bH _ (bH _ hx)))) hlc.Fz hZ2 (hc2.ok hf) Ii (Hp.sZ (A:=[_,_,_,_,_,_,_,_,_,_,_,_,_,_,_,_,_,_,_]) (Zf:=XI) (R:=(KB++R)) o5)
    refine yl O aC O aA7 (iY aA6 (cs:=aHC) aHD O O) (fun u w' ⟨_,Z',_,h⟩=>Hp.sub (L:=_::_::_::_::_::_::_::_::_::_::_::_::_::_::_::_::_::_::_::(Z'++(KB++R))) (Hp.pn (A:=[_,_,_,_,_,_,_,_,_,_,_,_,_,_,_,_,_,_,_]) h) (sP (sP (sP (sP (sP (sP (sP (sP (sP (sP (sP (sP (sP (sP (sP (sP (sP (sP (sP (sA sR))))))))))))))))))))) ?_
    rintro x95 w90 ⟨aA8,Z93,aHE,h91⟩
    have Jo:Hp _ w90 (_::_::_::_::_::_::_::_::_::_::_::_::_::_::_::_::_::_::_::(Z93++(KB++R))):=Hp.pn (A:=[_,_,_,_,_,_,_,_,_,_,_,_,_,_,_,_,_,_,_]) h91
    rw[ap6 hlc.Fz hlc.sh]at aA8
    subst aA8
    refine AD<|bg Jo (i:=0) O (cR O T5 O (Jo.blk (i:=0) O))<|fun auD E6=> ?_
    simp only[z2,dm,pull]at E6
    refine aa<|au<|V (ax T4 O J)<|mI rfl<|aa<|have hqq:¬sx (dc.getD (((bP (bB (tw cs (pF (cw ak.length qs)) ak.length)) k).drop 1).getD j.toNat 0).toNat df) (wA (aq.getD (bf.getD k.toNat 0).toNat p5).p.sh dc (dc.getD k.toNat df) (((bP (bB (tw cs (pF (cw ak.length qs)) ak.length)) k).drop 1).take j.toNat)):=kD;?_
    refine⟨(j+1,(Wr.tick .j (aq.getD (bf.getD k.toNat 0).toNat p5).d f2),Z93,(Z93++(KB++R))),?_,ak5.u4.u4.u4.u4.u4.u4.u4.u4.u4.u1.u1.u1,(Hp.conv E6 afR),(aK I uD),?_,?_,aM,?_,?_⟩
    .exact(LA (LD ‹j<_›)).2 (Lu (LO _) _)
    .exact Cf j0
    .exact‹j<_›
    .exact aHE
    exact(hc2.trans (y9 hlc.dep _).2.2).more (eu _) (eu _) (by rw[Int.toNat_add j0 az];exact eu _)
   refine an<|au<|V (ax T4 O J)<|mI rfl<|aa<|have hqq:sx (dc.getD (((bP (bB (tw cs (pF (cw ak.length qs)) ak.length)) k).drop 1).getD j.toNat 0).toNat df) (wA (aq.getD (bf.getD k.toNat 0).toNat p5).p.sh dc (dc.getD k.toNat df) (((bP (bB (tw cs (pF (cw ak.length qs)) ak.length)) k).drop 1).take j.toNat)):=kD;?_
   refine⟨(j+1,f2,XI,(XI++(KB++R))),?_,ak5.u4.u4.u4.u1.u1.u1,(Hp.conv zx afR),(aK I uD),?_,?_,aM,?_,?_⟩
   .exact(LA (LD ‹j<_›)).2 (Lu (LO _) _)
   .exact Cf j0
   .exact‹j<_›
   .exact hZ2
   exact hc2.more (eu _) (eu _) (Nat.add_le_add_left (X5 (Cf (mc j))) _)
  refine a8 (id:=4) rfl<|have ej:(wA (aq.getD (bf.getD k.toNat 0).toNat p5).p.sh dc (dc.getD k.toNat df) (((bP (bB (tw cs (pF (cw ak.length qs)) ak.length)) k).drop 1).take j.toNat))=(wA (aq.getD (bf.getD k.toNat 0).toNat p5).p.sh dc (dc.getD k.toNat df) ((bP (bB (tw cs (pF (cw ak.length qs)) ak.length)) k).drop 1)):=(by rw[jg J]);have hrb:(CZ (bB (tw cs (pF (cw ak.length qs)) ak.length)) bp ak.length qs).length=ak.length:=(by unfold CZ V8;rw[Eb (V9 _),Eb (NB _ _)];simp);fZ (z:=⟨some _,_,_,_,_,none⟩) aQ O aQ xb sR<|fun aA9 OU=>have J7:=OU;AQ 0 O J7 (run_move Xq)<|AQ 1 O J7 (run_move aA4)<|AQ 2 O J7 (run_move ak6)<|AT 3 O J7 (fun w hS=>cN bI O O T5 (hS.blk (i:=0) O))<|AQ 4 O J7 (run_move aA5)<|AQ 5 O J7 (run_move ak6)<|AT 6 O J7 (fun w hS=>ah (hS.sl (i:=2) O) dg cQ O O J)<|AT 7 O J7 (fun w hS=>aE dO O O ((hS.sl (i:=2) O).cell _ _ (lT (dv:=0#64) J)))<|AD<|cG O (BE _ _ _ J J J J J Fu J (fun k hk=>⟨by(repeat apply gd);exact bH _ (bH _ (yp k hk).1),(yp k hk).2.1,fun i hi=>by have:=(yp k hk).2.2 i hi;omega⟩) _ (OT.mono fun e he=>by(repeat apply gd);exact bH _ he) O6 (OU.pj [4,4,4,4,4,4,4,4,4,4,4,4,4,4,4])) (sL call130 O O O O O)<| ?_
  rintro _ avb ⟨rfl,aBa,aHF,aHG,aBb,acU,arm,arn,aBc,akJ,aBd⟩
  simp only[nE,wE]at aBd
  have aro:=Hp.mQ (A:=[_,_,_,_,_,_,_,_,_,_,_,_,_,_,_]) (R:=[_,_,_,_]) aBd
  simp only[gB,eR]at aro
  have wO:=aro.pk [15,15,15,15]
  have Rk:Hp W0 _ (_::_::_::_::_::_::_::_::_::_::_::_::_::_::_::_::_::_::_::(XI++(acU++(KB++R)))):=Hp.mQ (A:=[_,_,_,_,_,_,_,_,_,_,_,_,_,_,_,_,_,_,_]) (B:=acU) (R:=XI) wO
  refine aa<|au<|V (ax ava O J)<|mI rfl<|aa<| ?_
  refine⟨(k+1,aBa,aHF,aHG,(yo dc us (qz,m6) (bP (bB (tw cs (pF (cw ak.length qs)) ak.length)) k) (wA (aq.getD (bf.getD k.toNat 0).toNat p5).p.sh dc (dc.getD k.toNat df) (((bP (bB (tw cs (pF (cw ak.length qs)) ak.length)) k).drop 1).take j.toNat))).1,gF eN (bP (bB (tw cs (pF (cw ak.length qs)) ak.length)) k) ((CZ (bB (tw cs (pF (cw ak.length qs)) ak.length)) bp ak.length qs).getD k.toNat 0),(yo dc us (qz,m6) (bP (bB (tw cs (pF (cw ak.length qs)) ak.length)) k) (wA (aq.getD (bf.getD k.toNat 0).toNat p5).p.sh dc (dc.getD k.toNat df) (((bP (bB (tw cs (pF (cw ak.length qs)) ak.length)) k).drop 1).take j.toNat))).2.1,(yo dc us (qz,m6) (bP (bB (tw cs (pF (cw ak.length qs)) ak.length)) k) (wA (aq.getD (bf.getD k.toNat 0).toNat p5).p.sh dc (dc.getD k.toNat df) (((bP (bB (tw cs (pF (cw ak.length qs)) ak.length)) k).drop 1).take j.toNat))).2.2,PG++aBb,acU++KB,XI,f2,(XI++(acU++(KB++R)))),?_,(((Ox.u4.u4.u4.u4.u4.u4.u4.u1.u1.u1).t ak5 O)).u4.u4.u4,(Hp.conv (Rk.sub (sQ (sQ sR))) R3),(aK I uD),?_,?_,?_,?_,?_,?_,?_,?_,?_,?_,?_⟩
  .exact(LA (LD ‹k<(ak.length:Int)›)).2 (Lu (LO _) _)
  .exact Cf h0
  .exact‹k<(ak.length:Int)›
  ·(simp only[dH])
  ·(rw[C0 h0,<-hs,ab7 h0 J J];simp only[ej])
  .exact akJ
  .exact hZ2
  ·(rw[Ux h0,aY (HQ ‹¬fP _ _≠k›)];exact hc2.more (eu _) (eu _) (Nat.add_le_add_left (Int.toNat_le.2 (by rw[<-yK];exact j1)) _))
  .exact OT.mono fun e he=>(by rw[dH];exact bH _ he)
  .exact(fun x hx=>by rw[<-dH]at hx;rcases fh.1 hx with q|q;exact⟨(ak4 x q).1.mono (fun e he=>bH _ he),(ak4 x q).2⟩;exact⟨(arm x q).1.mono (fun e he=>dI _ he),(arm x q).2⟩)
  ·(have:=arn;rw[ed];omega)
  exact aoM.trans aBc
 refine a8 (id:=2) rfl<|have ek2:k.toNat=ak.length:=J;rC O ⟨⟨(tw cs (pF (cw ak.length qs)) ak.length),⟨dc,eN,qz,m6⟩,coJ (bB (tw cs (pF (cw ak.length qs)) ak.length)) ak.length⟩,vW1,vU1,vT1,cW1,cU1,W1,mD,ts1,cn1,vd2,yJ,B9,(new++PG),KB,HL,f1,?_,rfl,?_,?_,?_,?_,?_,?_,?_,(jz.sub (sQ (sQ sR)))⟩
 .exact(aY kD).trans ((aW hne).trans (by rw[hs,ek2]))
 .exact OT
 .exact ak4
 ·(rw[ed];omega)
 .exact hbk.trans aoM
 .exact Lj
 ·(rw[ek2]at hcj;exact hcj)
 exact O6
end
end Go.Proofs.YtlhjdflgjbkpmaaGreatDoor.W

/- Part 8 of the proof of FlowSteps: its plain laws and the walks of its functions. -/
import Derived.Test.YtlhjdflgjbkpmaaGreatDoorFlowStepsPartG
set_option linter.all false
namespace Go.Proofs.YtlhjdflgjbkpmaaGreatDoor.W
section
open Go Go.RowKit Go.Proofs.YtlhjdflgjbkpmaaGreatDoor.E Go.Proofs.YtlhjdflgjbkpmaaGreatDoor.M
set_option maxRecDepth 100000
open Go.Proofs.Tryz
variable{fr:List bu}
variable{W0 w:World}{n m:Nat}{cs:List (List Nat)}{wr:Value}{vL:Value}{vt:Value}{vv:Value}{vy:Value}{vu:Value}{vq:Value}{sn:Int}{vW:Value}{vU:Value}{vT:Value}{cn:Int}{sk:Bool}{wy:BitVec 64}{vd:Value}{vm:Value}{cW:Option (Nat×Array Value)}{cU:Option (Nat×Array Value)}{W:List (BitVec 64)}{ul:List (Value×jS)}{ts:List Int}{aq:List pP}{bf:List Int}{ak:List El}{bq:List (BitVec 64)}{us:List j4}{qs:List dD}{lg:List (Value×mw)}{tm:List Int}{L:List bu}
set_option maxHeartbeats 4000000 in
theorem Hu{ids:List Nat}{tl:List (Nat×Rl)}{f:Ct}{nk:Nat}{Zf R:List bu}(Jzz:yV->Prop)(mu:yV->Nat)(hm:m+ak.length<=100000)(T9:bq.length=ak.length)(OX:us.length=ak.length)(oy:(bB cs).length=ak.length)(QF:ak.length<=1000)(hlg:lg.length+1000*mu (V3 (sV cs us aq bf qs sn ak.length ⟨ak,bq,[],List.replicate qs.length false⟩).s sn qs.length)<=400000000000)(yh:∀k:Nat,k<us.length->dR 3 (us.getD k de)∈R/\(us.getD k de).l.length<=1000/\∀i∈(us.getD k de).l,0<=i/\i<(qs.length:Int))(hf:FF nk f)(hnk:nk+3*mu (V3 (sV cs us aq bf qs sn ak.length ⟨ak,bq,[],List.replicate qs.length false⟩).s sn qs.length)<=90000000000)(Xm:0<=sn/\sn<=qs.length)(hqn:qs.length<=1000)(hqo:ZJ aq.length ak.length qs)(hlt:bf.length=ak.length)(hlr:∀k:Nat,k<bf.length->0<=bf.getD k 0/\bf.getD k 0<aq.length)(hI0:Jzz (V3 (sV cs us aq bf qs sn ak.length ⟨ak,bq,[],List.replicate qs.length false⟩).s sn qs.length))(hst:∀dc eK Kh mX x,Jzz ⟨dc,eK,x::Kh,mX⟩->∀r,n8 (bB (sV cs us aq bf qs sn ak.length ⟨ak,bq,[],List.replicate qs.length false⟩).cs) us (aq.getD (qs.getD x.toNat cX).bf.toNat pT).p.sh (qs.getD x.toNat cX) dc eK Kh (mX.set x.toNat false) wy=r->r.ok=true->Jzz ⟨r.ak,r.bq,r.wl,r.wi⟩/\mu ⟨r.ak,r.bq,r.wl,r.wi⟩<mu ⟨dc,eK,x::Kh,mX⟩)(w:World)(hT:o6 W0)(hlv:VZ TX (Kz (Kw W0) R) ids tl aq)(hZ:kU (BG fr) ids f tl Zf)(Jn:ZE (Kz (Kw W0) R) qs)(h:xn FX n m cs vW vU cW cU W ul ts cn R)(hH:Hp W0 w (nE n wr vL vt vv vy vu vq sn vW vU vT cn sk wy vd vm cW cU W ul ts aq bf ak bq us qs lg tm ((Zf++R)))):Calls Tryz.prog 42 #[pt n] w (jY fun u w'=>∃(ok:Bool) (s:yV) (Ua:BitVec 64) (a:Nat) (OF OG Xr:Value) (Q6 Q7:Option (Nat×Array Value)) (W':List (BitVec 64)) (zn:List (Value×jS)) (ts':List Int) (Q8:Int) (vd':Value) (new:List (Value×mw)) (Lb Z':List bu) (f':Ct),u=B ok/\SpR (bB (sV cs us aq bf qs sn ak.length ⟨ak,bq,[],List.replicate qs.length false⟩).cs) us aq qs s ok wy Ua/\Jzz s/\a+mu s<=mu (V3 (sV cs us aq bf qs sn ak.length ⟨ak,bq,[],List.replicate qs.length false⟩).s sn qs.length)+(if ok then 0 else 1)/\xn FX n (m+ak.length) (sV cs us aq bf qs sn ak.length ⟨ak,bq,[],List.replicate qs.length false⟩).cs OF OG Q6 Q7 W' zn ts' Q8 (Lb++R)/\(∀x∈new,nh NX n Lb x/\(ok=false->I2 x.2))/\new.length<=1001*ak.length+1000*a+1/\iP new (NP.mk aq bf ak bq ((qh us)) qs sn cs sk Ua wr) (NP.mk aq bf (s.ak) (s.bq) ((qh us)) qs ((if ok then(qs.length:Int)else sn)) ((sV cs us aq bf qs sn ak.length ⟨ak,bq,[],List.replicate qs.length false⟩).cs) sk Ua wr)/\kU (BG fr) ids f' tl Z'/\pU f f' a a (a+(sV cs us aq bf qs sn ak.length ⟨ak,bq,[],List.replicate qs.length false⟩).j)/\Hp W0 w' (nE n wr vL vt vv vy vu vq ((if ok then(qs.length:Int)else sn)) (OF) (OG) (Xr) (Q8) sk Ua (vd') vm (Q6) (Q7) (W') (zn) (ts') aq bf (s.ak) (s.bq) us qs (lg++new) tm ((Z'++(Lb++R))))):=by
 simp only[nE]at hH
 refine en func42 rfl rfl<|SR<|gN hH (v:=Pn _ _) rfl<|fun b3 w1 bp=>va (v:=B false) rfl<|aa<|Zk<|SR<| ?_
 obtain⟨R1,Xe⟩:∃R1:List bu,R1=[bu.blk b3 (.cells #[pt n] 31 (0,0))]++R:=⟨_,rfl⟩
 have iw:=Hp.mK (A:=[_,_,_,_,_,_,_,_,_,_,_,_]) (B:=[bu.blk b3 (.cells #[pt n] 31 (0,0))]) (R:=Zf) (bp.pj [1,1,1,1,1,1,1,1,1,1,1,1])
 rw[<-Xe]at iw
 simp only[gB,eN]at iw
 have hb5:bu.blk b3 (.cells #[pt n] 31 (0,0))∈R1:=by rw[Xe];simp
 have ae5:VZ TX (Kz (Kw W0) R1) ids tl aq:=hlv.mono (Le.zz fun x hx=>by rw[Xe];exact bH _ hx)
 have aoB:ZE (Kz (Kw W0) R1) qs:=Jn.mono (Le.zz fun x hx=>by rw[Xe];exact bH _ hx)
 have OL:=h.mono (L':=R1) fun e he=>by rw[Xe];exact bH _ he
 have Kx:∀k:Nat,k<us.length->dR 3 (us.getD k de)∈R1/\(us.getD k de).l.length<=1000/\∀i∈(us.getD k de).l,0<=i/\i<(qs.length:Int):=fun k hk=>⟨by rw[Xe];exact bH _ (yh k hk).1,(yh k hk).2⟩
 refine V (aG di O O (iw.px ((fun x hx=>(mT (mT (mT (mT (mT (mT (mT (mT (mT (mT (mT (mT (bH _ hx)))))))))))))) _ hb5) (v:=Pn _ _) O))<|V (af O)<|V (fA cr 6 O xT O)<|lV oh iw 0 O O rfl<|V (aC (iw.sl (i:=9) O) O oh O)<|tR (qs.length) (qs.length) iw (Ar (f:=B) (z0:=false) qY O O O O (show _=Value.int .i64 ((qs.length:Nat):Int)from O) (show _=Value.int .i64 ((qs.length:Nat):Int)from O) az J)<|fun b8 w6 eE=>have iE:=eE.Ka (i:=0) (n:=qs.length) (l:=List.replicate (qs.length) false) (f:=B) O aJ J;?_
 simp only[jh]at iE
 refine V (dI (vs:=[(1,(.slice (some ⟨b8,0,none⟩) (qs.length) (qs.length)))]) O (Px _ _ _))<|gN iE (v:= .agg _) rfl<|fun b12 EL df=>have bX:=df.eR 3 1;va (v:=Pn _ _) rfl<|aa<|SR<|V (aG di O O (bX.px ((fun x hx=>(mT (mT (mT (mT (mT (mT (mT (mT (mT (mT (mT (mT (mT (mT (mT (bH _ hx))))))))))))))))) _ hb5) (v:=Pn _ _) O))<|aE (v:=Pn _ _) rfl<|cD O (En (cq:=none) (ql:= .slice none 0 0) (wl:=[]) (wi:=List.replicate qs.length false) hm T9 OX oy QF J (I4 _) (by rw[Ro];omega) (fun k hk=>⟨(Kx k hk).1,(Kx k hk).2.1,fun i hi=>by have:=(Kx k hk).2.2 i hi;simp only[Ro,nY];omega⟩) hf J Xm hqn hqo.pl hlt hlr _ hT ae5 hZ aoB OL trivial (bX.pj [3,3,3,3,3,3,3,3,3,3,3,3,1])) (aM call84 O O)<| ?_
 rintro _ w32 ⟨c16,akX,akY,aoC,aoD,aoE,W39,aoF,aoG,aoH,aHc,q18,aHd,aHe,aAY,Z22,f23,aHf,rfl,acL,aHg,aHh,aHi,aHj,aHk,aHl,ko⟩
 subst aHf
 simp only[nE,wE]at ko
 have mo:=ko.pk [13,12,12]
 refine aa<|ai<|SR<|V (aG di O O (mo.px ((fun x hx=>(mT (mT (mT (mT (mT (mT (mT (mT (mT (mT (mT (mT (mT (mT (mT (bH _ (bH _ hx)))))))))))))))))) _ hb5) (v:=Pn _ _) O))<|V (af O)<|V (fA cr 7 O aO O)<|lI bx mo 3 O O rfl<|aI rfl<|aa<|aA<|have ok0:=asT (cs:=cs) (us:=us) (aq:=aq) (bf:=bf) (qs:=qs) (sn:=sn) (ak:=ak) (bq:=bq) J (fun k hk=>(Kx k hk).2.2) J;bt (G:=Int×Value×(Option (Nat×Array Value))×(List Int)×(List Bool)) (fun⟨k,yD,B3,qp,mX⟩ s' w'=>(Fr (4::(rg 21 12 [])) _ s')/\(Hp W0 w' (qE B3 yD 3 (qp.map I):: .blk b12 (.cells #[yD,(.slice (some ⟨b8,0,none⟩) (qs.length) (qs.length))] 156 (0,0))::jW B (.slice (some ⟨b8,0,none⟩) (qs.length) (qs.length)) 4 mX::_))/\(s' 4=I k)/\(sn<=k)/\(k<=qs.length)/\(qO B3 yD (qp.map I))/\((qp,mX)=(rU ((sV cs us aq bf qs sn ak.length ⟨ak,bq,[],List.replicate qs.length false⟩).s.wl,(sV cs us aq bf qs sn ak.length ⟨ak,bq,[],List.replicate qs.length false⟩).s.wi) (upI sn (k-sn).toNat)))) (fun⟨k,yD,B3,qp,mX⟩=>(qs.length-k).toNat) ((sn,q18,aHd,(sV cs us aq bf qs sn ak.length ⟨ak,bq,[],List.replicate qs.length false⟩).s.wl,(sV cs us aq bf qs sn ak.length ⟨ak,bq,[],List.replicate qs.length false⟩).s.wi)) ⟨Fr.refl _ _,mo,rfl,J,J,aHl,(by rw[Int.sub_self];rfl)⟩<| ?_
 rintro⟨k,yD,B3,qp,mX⟩ aQx w44 ⟨aAZ,qo,akZ,h0,hk,OZ,hp⟩
 obtain⟨aqZ,aq0⟩:=aAZ.w2 1 3
 have ok1:QD qs.length ak.length bq.length ⟨(sV cs us aq bf qs sn ak.length ⟨ak,bq,[],List.replicate qs.length false⟩).s.ak,(sV cs us aq bf qs sn ak.length ⟨ak,bq,[],List.replicate qs.length false⟩).s.bq,qp,mX⟩:=by have h1:=anu ok0 (l:=upI sn (k-sn).toNat) (fun i hi=>by obtain⟨j,hj,rfl⟩:=fZ.1 hi;have:=qv.1 hj;omega);rw[<-hp]at h1;exact h1
 have wq1:=ok1.wq.len
 have li1:=ok1.li
 simp only at wq1 li1
 refine ai<|SR<|aE akZ<|V (aG di O aqZ (qo.px ((fun x hx=>(mT (mT (mT (mT (mT (mT (mT (mT (mT (mT (mT (mT (mT (mT (mT (bH _ (bH _ hx)))))))))))))))))) _ hb5) (v:=Pn _ _) O))<|V (af O)<|V (fA cr 6 O xT O)<|lV oh qo 3 O O rfl<|V (aC (qo.sl (i:=12) O) O oh O)<|V (aN O O)<|aa<|aF O (fun h46=> ?_) (fun h46=> ?_)
 .refine an<|ai<|aA<|au<|aE aq0<|aE akZ<|cD O (qq _ J J _ OZ (qo.pj [1])) (aM call85 O O)<| ?_
  rintro _ w49 ⟨rfl,v51,c52,aHm,eL⟩
  simp only[wE]at eL
  have gR:=eL.pk [1]
  refine aa<|au<|aE akZ<|V (ax O O J)<|aI rfl<|aa<| ?_
  refine⟨(k+1,v51,c52,(pB (qp,mX) k).1,(pB (qp,mX) k).2),aW,aAZ.u4.u4.u4.u1,(Hp.conv gR aL),(aK I aL),J,J,?_,?_⟩
  .exact aHm
  (rw[aiW h0,aeq,<-hp])
 refine a8 (id:=0) rfl<|ai<|Zl<|ai<|aA<|have ek:k=qs.length:=J;?_
 rw[ek]at hp
 have e0:(⟨(sV cs us aq bf qs sn ak.length ⟨ak,bq,[],List.replicate qs.length false⟩).s.ak,(sV cs us aq bf qs sn ak.length ⟨ak,bq,[],List.replicate qs.length false⟩).s.bq,qp,mX⟩:yV)=(V3 (sV cs us aq bf qs sn ak.length ⟨ak,bq,[],List.replicate qs.length false⟩).s sn qs.length):=by unfold V3;rw[<-hp]
 have anf:(bB (sV cs us aq bf qs sn ak.length ⟨ak,bq,[],List.replicate qs.length false⟩).cs).length=ak.length:=by rw[anv];omega
 have aHn:=axA (cs:=cs) (us:=us) (aq:=aq) (bf:=bf) (qs:=qs) (sn:=sn) (n:=ak.length) (s:=⟨ak,bq,[],List.replicate qs.length false⟩)
 have aQz:(sV cs us aq bf qs sn ak.length ⟨ak,bq,[],List.replicate qs.length false⟩).j<=1000*1000:=kL aHn (xQ J J)
 refine bt (G:=Value×Value×(Option (Nat×Array Value))×(List El)×(List (BitVec 64))×(List Int)×(List Bool)×(List (Value×mw))×(List bu)×(List bu)×Ct×Nat×(List bu)) (fun⟨W9,yD,B3,dc,eK,qp,mX,new,Lb,F5,f1,a,Z1⟩ s' w'=>(Fr (2::(rg 33 17 [])) _ s')/\(Hp W0 w' (qE B3 yD 3 (qp.map I):: .blk b12 (.cells #[yD,(.slice (some ⟨b8,0,none⟩) (qs.length) (qs.length))] 156 (0,0))::jW B (.slice (some ⟨b8,0,none⟩) (qs.length) (qs.length)) 4 mX:: .blk n (.cells #[wr,vL,vt,vv,vy,vu,vq,I sn,akX,akY,aoC,I aoH,B sk,U wy,W9,vm] 111 (0,0))::cE aoD akX 35 (W39.map U)::cE aoE akY 1 (aoF.map Prod.fst)::jW I aoC 3 aoG::wh Xn 13 vL 119 aq::jW I vt 3 bf::wh pJ 8 vv 37 dc::jW U vy 35 eK::jW j4.v vu 99 us::wh qk 13 vq 128 qs::jW Prod.fst W9 1 (lg++new)::jW I vm 3 tm::Z1))/\(Jzz ⟨dc,eK,qp,mX⟩)/\(QD qs.length ak.length bq.length ⟨dc,eK,qp,mX⟩)/\(Z1=F5++(Lb++R1))/\(kU (BG fr) ids f1 tl F5)/\(pU f f1 a a (a+(sV cs us aq bf qs sn ak.length ⟨ak,bq,[],List.replicate qs.length false⟩).j))/\(a+mu ⟨dc,eK,qp,mX⟩<=mu (V3 (sV cs us aq bf qs sn ak.length ⟨ak,bq,[],List.replicate qs.length false⟩).s sn qs.length))/\(qO B3 yD (qp.map I))/\(xn FX n (m+ak.length) (sV cs us aq bf qs sn ak.length ⟨ak,bq,[],List.replicate qs.length false⟩).cs akX akY aoD aoE W39 aoF aoG aoH (Lb++R1))/\(∀x∈new,nh NX n Lb x/\I2 x.2)/\(new.length<=1001*ak.length+1000*a)/\(iP new (NP.mk aq bf ak bq ((qh us)) qs sn cs sk wy wr) (NP.mk aq bf dc eK ((qh us)) qs sn ((sV cs us aq bf qs sn ak.length ⟨ak,bq,[],List.replicate qs.length false⟩).cs) sk wy wr))) (fun⟨W9,yD,B3,dc,eK,qp,mX,new,Lb,F5,f1,a,Z1⟩=>mu ⟨dc,eK,qp,mX⟩) ((aHc,yD,B3,(sV cs us aq bf qs sn ak.length ⟨ak,bq,[],List.replicate qs.length false⟩).s.ak,(sV cs us aq bf qs sn ak.length ⟨ak,bq,[],List.replicate qs.length false⟩).s.bq,qp,mX,aHe,aAY,Z22,f23,0,(Z22++(aAY++R1)))) ⟨Fr.refl _ _,qo,(by rw[e0];exact hI0),ok1,rfl,aHj,(aHk.more (nM _) (nM _) J),(by rw[e0];omega),OZ,acL,aHg,(by have:=aHh;omega),aHi⟩ ?_
 rintro⟨W9,yD,B3,dc,eK,qp,mX,new,Lb,F5,f1,a,Z1⟩ ayt w55 ⟨On,jC,hI,PA,hz,JZ,hcj,ham,OZ,aoI,Xs,hnl,hbk⟩
 obtain⟨Ht,Oo⟩:=On.t2 1 aqZ 3 aq0
 subst hz
 have lv1:dc.length=ak.length:=PA.lv
 have ly1:eK.length=bq.length:=PA.ly
 have li1:mX.length=qs.length:=PA.li
 have wq1:=PA.wq.len
 simp only at wq1
 refine ai<|SR<|aE Oo<|V (af O)<|V (fA zJ 0 O dH O)<|lV bD jC 1 O O rfl<|V (aC (jC.slQ (i:=0) O OZ) O bD O)<|V (dN O O)<|aa<|aF O (fun Pu=> ?_) (fun Pu=> ?_)
 .refine an<|aA<|ai<|ai<| ?_
  obtain⟨x,Kh,hxw⟩:=List.exists_cons_of_length_pos (show 0<qp.length by have h9:=‹(0:Int)<_›;simpa using h9)
  subst hxw
  have htk:=PA.take
  have TS:=hqo.at htk.1.1 htk.1.2
  have wq2:=htk.2.wq.len
  simp only[nY]at wq2
  have hqx:D8 (Kz (Kw W0) (Lb++R1)) (qs.getD x.toNat cX):=(aoB.at htk.1.1 htk.1.2).mono (Le.zz fun y hy=>bH _ hy)
  have aHo:VZ TX (Kz (Kw W0) (Lb++R1)) ids tl aq:=ae5.mono (Le.zz fun y hy=>bH _ hy)
  refine fW (z:=⟨some _,_,_,_,_,none⟩) aP O aP jC (sQ (sQ (sQ sR)))<|fun w58 BT=>have aaN:=BT.sub (sQ (sQ (sQ sR)));AT 0 O aaN (fun w hS=>aG di O Ht (hS.px ((fun x hx=>(mT (mT (mT (mT (mT (mT (mT (mT (mT (mT (mT (mT (bH _ (bH _ hx))))))))))))))) _ hb5) (v:=Pn _ _) O))<|AQ 1 O aaN (run_move Oo)<|AT 2 O aaN (fun w hS=>aG di O Ht (hS.px ((fun x hx=>(mT (mT (mT (mT (mT (mT (mT (mT (mT (mT (mT (mT (bH _ (bH _ hx))))))))))))))) _ hb5) (v:=Pn _ _) O))<|AQ 3 O aaN (af O)<|AQ 4 O aaN (fA cr 6 O xT O)<|tV 5 O aaN oh 0 O O rfl<|AQ 6 O aaN (run_move Oo)<|A1 7<|ye O aD O (Em (wi:=mX) x (by have:=htk.1;omega) _ OZ (BT.pj [1])) (ay call87 O) (fun u w' ⟨_,Ud,Ue,_,h⟩=>((show Hp _ w' (wE _ _ _ _ _ _ (_::_::_::_::_::_::_::_::_::_::_::_::(F5++(Lb++R1))))from h).pj [1]).sub (sQ (sQ (sQ sR))))<| ?_
  rintro _ w62 ⟨rfl,v64,c65,aHp,nU⟩
  simp only[wE]at nU
  have TU:=nU.pk [1]
  refine AT 8 O (TU.sub (sQ (sQ (sQ sR)))) (fun w hS=>ah (hS.sl (i:=9) O) oh LH O O J)<|AT 9 O (TU.sub (sQ (sQ (sQ sR)))) (fun w hS=>dZ (dv:=cX) pQ (hS.sl (i:=9) O) jo O O O J)<|AD<|cD O (Ku (qs.getD x.toNat cX) J J J J J Fi J (fun k hk=>⟨bH _ (Kx k hk).1,(Kx k hk).2.1,fun i hi=>by have:=(Kx k hk).2.2 i hi;simp only[Ro,nY];omega⟩) (hcj.ok hf) J TS.bf TS.code (by have:=TS.to;omega) (fun hp=>by have:=TS.pl hp;omega) (fun v hv=>by have:=TS.vars v hv;omega) _ hT aHo JZ hqx aoI aHp (TU.pj [3,3,3,3,3,3,3,3,3,3,3,3,1])) (bz call86 O O O)<| ?_
  rintro _ w83 ⟨r70,aA0,q72,aHq,aA1,aeY,Z76,PB,rfl,aoJ,aA2,auV,aA3,aHs,lm⟩
  simp only[nE,wE]at lm
  have WJ:=lm.pk [13,12,12]
  refine aa<|bW O (fun h87=> ?_) (fun h87=> ?_)
  .refine a8 (id:=3) rfl<|have hok:r70.ok=true:=lA;have hwy:r70.wy=wy:=(by rw[<-PB];exact asQ (by rw[PB];exact hok));?_
   rw[hwy]at auV
   have hlo:=aiX (cl:=(bB (sV cs us aq bf qs sn ak.length ⟨ak,bq,[],List.replicate qs.length false⟩).cs)) (us:=us) (sh:=(aq.getD (qs.getD x.toNat cX).bf.toNat pT).p.sh) (q:=(qs.getD x.toNat cX)) (wy:=wy) (fun k hk=>(Kx k hk).2.2) J htk.2
   rw[PB]at hlo
   have auW:=hst dc eK Kh mX x hI r70 PB hok
   have W5:=V1 (ae5.at TS.bf.1 TS.bf.2).dep (bB (sV cs us aq bf qs sn ak.length ⟨ak,bq,[],List.replicate qs.length false⟩).cs) us (aq.getD (qs.getD x.toNat cX).bf.toNat pT).p.sh (qs.getD x.toNat cX) dc eK Kh (mX.set x.toNat false) wy f1
   rw[PB]at W5
   refine⟨(aA0,q72,aHq,r70.ak,r70.bq,r70.wl,r70.wi,new++aA1,aeY++Lb,Z76,V0 (aq.getD (qs.getD x.toNat cX).bf.toNat pT).d r70.ks f1,a+1,(Z76++(aeY++(Lb++R1)))),?_,On.u4.u4.u4.u4.u1,(Hp.conv WJ (by simp only[dG,hwy];done)),?_,?_,?_,?_,?_,?_,?_,?_,?_,?_,?_⟩
   .exact auW.2
   .exact auW.1
   .exact hlo
   ·(simp only[dG])
   .exact aA3
   .exact(hcj.trans W5).more J J J
   ·(have:=auW.2;omega)
   .exact aHs
   .exact aoI.mono fun e he=>(by rw[dG];exact bH _ he)
   .exact(fun x hx=>by rcases e8.1 hx with q|q;exact⟨(Xs x q).1.mono (fun e he=>bH _ he),(Xs x q).2⟩;exact⟨(aoJ x q).1.mono (fun e he=>dL _ he),(aoJ x q).2⟩)
   ·(have:=aA2;have:=wo (cl:=(bB (sV cs us aq bf qs sn ak.length ⟨ak,bq,[],List.replicate qs.length false⟩).cs)) (i:=(qs.getD x.toNat cX).to.var);rw[ec];omega)
   exact hbk.trans auV
  refine an<|SR<|va (v:=B false) rfl<|aa<|aj<|have hrf:r70.ok=false:=lA;have hno:=asR (cl:=(bB (sV cs us aq bf qs sn ak.length ⟨ak,bq,[],List.replicate qs.length false⟩).cs)) (us:=us) (sh:=(aq.getD (qs.getD x.toNat cX).bf.toNat pT).p.sh) (q:=(qs.getD x.toNat cX)) (ak:=dc) (bq:=eK) (wl:=Kh) (wi:=mX.set x.toNat false) (wy:=wy) (by rw[PB];exact hrf);?_
  rw[PB]at hno
  have W5:=V1 (ae5.at TS.bf.1 TS.bf.2).dep (bB (sV cs us aq bf qs sn ak.length ⟨ak,bq,[],List.replicate qs.length false⟩).cs) us (aq.getD (qs.getD x.toNat cX).bf.toNat pT).p.sh (qs.getD x.toNat cX) dc eK Kh (mX.set x.toNat false) wy f1
  rw[PB]at W5
  have hbw:=(hbk.wy (fun x hx=>(Xs x hx).2) r70.wy).trans auV
  have zh:=(WJ.sub (sQ (sQ (sQ sR))))
  rw[hno.1,hno.2]at zh hbw
  subst Xe
  refine jA (v:=B false) O O ⟨false,⟨dc,eK,x::Kh,mX⟩,r70.wy,a+1,akX,akY,aoC,aoD,aoE,W39,aoF,aoG,aoH,aA0,new++aA1,((aeY++Lb)++[bu.blk b3 (.cells #[pt n] 31 (0,0))]),Z76,_,rfl,.inr ⟨rfl,x,Kh,rfl,by rw[PB];exact hrf,by rw[PB]⟩,hI,iY,aoI.mono fun e he=> ?_,fun y hy=> ?_,?_,hbw,aA3,(hcj.trans W5).more J J J,Hp.conv (by rw[<-dG]at zh;exact zh) (by simp only[dG,gB,eN,ur,xU,uB];done)⟩
  .simp only[e8]at he⊢;rcases he with q|q|q;exact .inl (.inl (.inr q));exact .inl (.inr q);exact .inr q
  .rcases e8.1 hy with q|q;exact⟨(Xs y q).1.mono (fun e he=>dL _ (bH _ he)),fun _=>(Xs y q).2⟩;exact⟨(aoJ y q).1.mono (fun e he=>dL _ (dL _ he)),fun _=>(aoJ y q).2⟩
  (have:=aA2;have:=wo (cl:=(bB (sV cs us aq bf qs sn ak.length ⟨ak,bq,[],List.replicate qs.length false⟩).cs)) (i:=(qs.getD x.toNat cX).to.var);rw[ec];omega)
 refine a8 (id:=2) rfl<|SR<|V (aG di O Ht (jC.px ((fun x hx=>(mT (mT (mT (mT (mT (mT (mT (mT (mT (mT (mT (mT (mT (mT (mT (bH _ (bH _ hx)))))))))))))))))) _ hb5) (v:=Pn _ _) O))<|V (af O)<|V (fA cr 7 O aO O)<|lI bx jC 3 O O rfl<|lK jC (aS Tryz.zeroValue3)<|fun b91 w89 oM=>bk oM (i:=0) O (bM O O (v:=I _) O O O (oM.blk (i:=0) O) az)<|fun w94 Kt=>aa<|ai<|fW (z:=⟨none,_,_,_,_,none⟩) aP O aP Kt sR<|fun w96 TN=>have Xf:=TN;AT 0 O Xf (fun w hS=>aG di O Ht (hS.px ((fun x hx=>(mT (mT (mT (mT (mT (mT (mT (mT (mT (mT (mT (mT (mT (mT (mT (mT (bH _ (bH _ hx))))))))))))))))))) _ hb5) (v:=Pn _ _) O))<|AT 1 O Xf (fun w hS=>aG di O Ht (hS.px ((fun x hx=>(mT (mT (mT (mT (mT (mT (mT (mT (mT (mT (mT (mT (mT (mT (mT (mT (bH _ (bH _ hx))))))))))))))))))) _ hb5) (v:=Pn _ _) O))<|AQ 2 O Xf (af O)<|AQ 3 O Xf (fA cr 6 O xT O)<|tV 4 O Xf oh 4 O O rfl<|AT 5 O Xf (fun w hS=>aC (hS.sl (i:=13) O) O oh O)<|AQ 6 O Xf (af O)<|AQ 7 O Xf (fA cr 7 O aO O)<|AD<|bk TN (i:=4) O (bM O O (v:=I _) O O O (TN.blk (i:=4) O) aJ)<|fun w98 Pv=> ?_
 simp only[jh,kZ,nW,gO,Nat.reduceAdd]at Pv
 refine aa<|SR<|V (aG di O Ht (Pv.px ((fun x hx=>(mT (mT (mT (mT (mT (mT (mT (mT (mT (mT (mT (mT (mT (mT (mT (mT (bH _ (bH _ hx))))))))))))))))))) _ hb5) (v:=Pn _ _) O))<| ?_
 refine V (s6 bA Ht) ?_
 refine cD O (iL _ _ (.seen sn) Fi _ (Pv.pj [4,4,4,4,4,4,4,4,4,4,4,4])) (aM zP O O) ?_
 rintro _ aAR ⟨rfl,aHt,OM⟩
 simp only[nE]at OM
 have JY:=OM.pk [12,12,12,12]
 refine aa<|SR<|va (v:=B true) rfl<|aa<|aj<|have hnil:qp=[]:=List.length_eq_zero_iff.1 (by have h9:=‹¬(0:Int)<_›;simpa using h9);have nj:=Hp.mK (A:=[_,_,_,_,_,_,_,_,_,_,_,_]) (B:=[_]) (R:=F5) ((JY.sub (sP (sQ (sQ (sQ sR))))).pj [1,1,1,1,1,1,1,1,1,1,1,1]);?_
 subst Xe
 refine jA (v:=B true) O O ⟨true,⟨dc,eK,qp,mX⟩,wy,a,akX,akY,aoC,aoD,aoE,W39,aoF,aoG,aoH,aHt,new++[((jO 88 #[pt b91,pt b3]),.seen sn)],(([bu.blk b91 (.cells #[I sn] 3 (0,0))]++Lb)++[bu.blk b3 (.cells #[pt n] 31 (0,0))]),F5,f1,rfl,.inl ⟨rfl,hnil,rfl⟩,hI,iY,aoI.mono fun e he=> ?_,fun y hy=> ?_,?_,hbk.trans (aer (s:=(NP.mk aq bf dc eK ((qh us)) qs sn ((sV cs us aq bf qs sn ak.length ⟨ak,bq,[],List.replicate qs.length false⟩).cs) sk wy wr)) (k:=(qs.length:Int))),JZ,hcj,Hp.conv nj (by simp only[dG,gB,eN,ur,xU,uB];rfl)⟩
 .simp only[e8]at he⊢;rcases he with q|q|q;exact .inl (.inl (.inr q));exact .inl (.inr q);exact .inr q
 .rcases e8.1 hy with q|q;exact⟨(Xs y q).1.mono (fun e he=>dL _ (bH _ he)),fun _=>(Xs y q).2⟩;rw[gG.1 q];exact⟨⟨_,_,rfl,aJ,aJ⟩,fun q=>by cases q⟩
 (rw[ec,eA];omega)
theorem Js{s:NP}{R L0 Z:List bu}(o:Int)(ho:0<=o/\o<=lg.length)(hlg:lg.length<=600000000000)(hb:okB (CS lg o.toNat) s)(hu:∀s1:NP,∀k:Int,o<=k->k<lg.length->okN (lg.getD k.toNat ZK).2 s1->aow W0 n m R L0 (lg.getD k.toNat ZK) s1)(w:World)(hZ:wD n m s lg tm R L0 Z)(hH:Hp W0 w Z):Calls Tryz.prog 43 #[pt n,I o] w (jY fun u w'=>u= .tuple #[]/\∃Z',wD n m (D9 (CS lg o.toNat) s) (lg.take o.toNat) tm R L0 Z'/\Hp W0 w' Z'):=by
 refine enter func43 rfl ntmps43 rfl ?_
 obtain⟨F1,L2,zB,ON,rfl⟩:=hZ
 have bY:=hH
 simp only[NZ,nE]at bY
 refine ai<|SR<|aE (v:=Pn _ _) rfl<|V (af O)<|V (fA cr 14 O kq O)<|lV hG bY 0 O O rfl<|V (aC (bY.sl (i:=10) O) O hG O)<|V (eO O O J)<|aI rfl<|aa<|aA<| ?_
 obtain⟨Zc,hZc,hHc⟩:∃Z,wD n m s lg tm R L0 Z/\Hp W0 _ Z:=⟨_,⟨F1,L2,zB,ON,rfl⟩,bY⟩
 refine bt (G:=Int×(List bu)) (fun⟨k,Z1⟩ s' w'=>(Fr (4::(rg 11 13 [])) _ s')/\(Hp W0 w' (Z1))/\(s' 4=I (k-1))/\(o<=k)/\(k<=lg.length)/\(wD n m (D9 (CS lg k.toNat) s) lg tm R L0 Z1)) (fun⟨k,Z1⟩=>(k-o).toNat) ((lg.length,Zc)) ⟨Fr.refl _ _,hHc,rfl,J,J,(by rw[aiY J];exact hZc)⟩ ?_
 rintro⟨k,Z1⟩ sg7 w7 ⟨Ed,eE,Je,h0,hk,JZ⟩
 obtain⟨FY,aeQ⟩:=Ed.w2 0 1
 refine ai<|SR<|aE Je<|aE aeQ<|V (dF O O)<|aa<|aF O (fun h9=> ?_) (fun h9=> ?_)
 .refine an<|ai<|aA<|au<| ?_
  obtain⟨F10,L11,aHw,aHx,rfl⟩:=JZ
  have cG:=eE
  simp only[NZ,nE]at cG
  refine aE FY<|V (af O)<|V (fA cr 14 O kq O)<|lV hG cG 0 O O rfl<|aE Je<|V (ah (cG.sl (i:=10) O) hG sizeOf1 O O J)<|V (aG underlying1 O O ((cG.sl (i:=10) O).cell _ _ (lN (dv:=ZK) J)))<|have hkk:(k-1).toNat<lg.length:=J;have ek:(k-1).toNat+1=k.toNat:=J;have hok:=anw (o:=o.toNat) J hkk hb;?_
  rw[ek]at hok
  obtain⟨aQH,aHy,aHz,aA4,aA5⟩:=hu _ (k-1) J J hok lg tm _ _ ⟨F10,L11,aHw,aHx,rfl⟩ cG
  refine cD O aA5 (Mq aA4 (cs:=aHy) aHz) ?_
  rintro _ Z7 ⟨rfl,Z21,aHA,eM⟩
  have hzk:=aHA
  rw[<-ek,<-aes hkk]at hzk
  refine aa<|au<|aE Je<|V (eO O O J)<|aI rfl<|aa<| ?_
  refine⟨(k-1,Z21),aW,Ed.u4.u4.u4.u1.u1,(Hp.conv eM aL),(aK I aL),J,J,?_⟩
  exact hzk
 refine a8 (id:=0) rfl<|au<|have ek:k=o:=J;?_
 rw[ek]at JZ
 obtain⟨F24,L25,aA6,aHC,rfl⟩:=JZ
 have iJ:=eE
 simp only[NZ,nE]at iJ
 refine aE FY<|aE FY<|V (af O)<|V (fA cr 14 O kq O)<|lV hG iJ 0 O O rfl<|aE aeQ<|V (p5 (iJ.sl (i:=10) O) hG sizeOf1 O O J)<|V (af O)<|V (fA cr 14 O kq O)<|have gU:=Hp.aEh iJ (i:=10) O (m:=o.toNat) J;bk gU (i:=0) O (bM O O (v:=(uL F24.vd (o.toNat))) O (a6 (gU.get (i:=10) O)).1 (a6 (gU.get (i:=10) O)).2 (gU.blk (i:=0) O) aJ)<|fun w29 iW=> ?_
 simp only[jh,kZ,nW,gO,Nat.reduceAdd]at iW
 refine aa<|rh O ⟨rfl,_,⟨{F24 with vd:=(uL F24.vd (o.toNat))},L25,⟨aA6.fo,aA6.us⟩,aHC,rfl⟩,(iW)⟩
theorem OO(v:Int)(w:World)(hb:w.heap[n]?=some (.cells #[wr,vL,vt,vv,vy,vu,vq,I sn,vW,vU,vT,I cn,B sk,U wy,vd,vm] 111 (0,0)))(hy:Sl w vy 1 bq.length (bq.map U)):Calls Tryz.prog 21 #[pt n,I v] w (Pure (U (if 0<=v/\v<bq.length then bq.getD v.toNat 0 else 0)) w):=by
 refine eH func21 rfl rfl fun hH=>SR<|va (v:=U 0#64) rfl<|aa<|ai<|SR<|aE (v:=Pn _ _) rfl<|V (kX di O O)<|mB rfl<|cC O rfl<|mI rfl<|V (aN O O)<|mB rfl<|mB rfl<|bK 11 O (fun h2=> ?_) (fun h2=> ?_)
 .refine aE (v:=B true) rfl<|aa<|ct rfl<|SR<|va (v:=U 0#64) rfl<|aa<|aj<|oU O ?_ hH
  (rw[aT J]<;>rfl)
 refine mI rfl<|aE (v:=Pn _ _) rfl<|V (af O)<|V (fA cr 4 O jE O)<|V (aG dh O O (hH.eP hb O))<|V (aC (hy.hp hH) O dh O)<|V (dF O O)<|mB rfl<|aa<|aF O (fun h4=> ?_) (fun h4=> ?_)
 .refine SR<|va (v:=U 0#64) rfl<|aa<|aj<|oU O ?_ hH
  (rw[aT J]<;>rfl)
 refine an<|SR<|aE (v:=Pn _ _) rfl<|V (af O)<|V (fA cr 4 O jE O)<|V (aG dh O O (hH.eP hb O))<|mI rfl<|V (ah (hy.hp hH) dh cQ O O J)<|V (aG dM O O ((hy.hp hH).cell _ _ (lN (dv:=0#64) J)))<|aU rfl<|aa<|aj<|oU O ?_ hH
 (rw[aX ⟨J,J⟩]<;>rfl)
theorem Jt(w:World)(hb:w.heap[n]?=some (.cells #[wr,vL,vt,vv,vy,vu,vq,I sn,vW,vU,vT,I cn,B sk,U wy,vd,vm] 111 (0,0))):Calls Tryz.prog 16 #[pt n] w (Pure (.tuple #[U wy,B sk]) w):=by
 refine eH func16 rfl rfl fun hH=>SR<|va (v:=U 0#64) rfl<|va (v:=B false) rfl<|aa<|ai<|SR<|aE (v:=Pn _ _) rfl<|V (kX di O O)<|aa<|cL rfl<|an<|ai<|ed aP hH<|fun w1 bp=>have kV:=bp;AQ 0 O kV (mV (Pn _ _) O)<|AQ 1 O kV (af O)<|AQ 2 O kV (fA cr 13 O cQ O)<|AT 3 O kV (fun w hS=>aG dM O O (hS.eP hb (v:=U _) O))<|AQ 4 O kV (mV (Pn _ _) O)<|AQ 5 O kV (af O)<|AQ 6 O kV (fA cr 12 O oq O)<|AT 7 O kV (fun w hS=>aG qZ O O (hS.eP hb (v:=B _) O))<|AQ 8 O kV (aV (U _) O)<|AQ 9 O kV (aV (B _) O)<|AD<|aj<|kA O O O bp.below
theorem Ju(v:Int)(w:World)(hb:w.heap[n]?=some (.cells #[wr,vL,vt,vv,vy,vu,vq,I sn,vW,vU,vT,I cn,B sk,U wy,vd,vm] 111 (0,0)))(hv:Sl w vv 8 ak.length (ak.flatMap pJ)):Calls Tryz.prog 23 #[pt n,I v] w (Pure (.agg (iM (if 0<=v/\v<ak.length then ak.getD v.toNat dg else dg))) w):=by
 refine eH func23 rfl rfl fun hH=>SR<|lK hH (aS eZ)<|fun b3 w1 bp=>aa<|ai<|SR<|aE (v:=Pn _ _) rfl<|V (kX di O O)<|mB rfl<|cC O rfl<|mI rfl<|V (aN O O)<|mB rfl<|mB rfl<|bK 11 O (fun h5=> ?_) (fun h5=> ?_)
 .refine aE (v:=B true) rfl<|aa<|ct rfl<|SR<|V (dI (vs:=[]) O (oV))<|bk bp (i:=0) O (cR O O O (bp.blk (i:=0) O))<|fun w8 iE=>aa<|aj<|rz O O iE (i:=0) O bI O jL ⟨?_,iE.below⟩
  (rw[aT J]<;>rfl)
 refine mI rfl<|aE (v:=Pn _ _) rfl<|V (af O)<|V (fA cr 3 O jq O)<|V (aG bU O O (bp.eP hb O))<|V (aC (hv.hp bp) O bU O)<|V (dF O O)<|mB rfl<|aa<|aF O (fun h11=> ?_) (fun h11=> ?_)
 .refine SR<|V (dI (vs:=[]) O (oV))<|bk bp (i:=0) O (cR O O O (bp.blk (i:=0) O))<|fun QT gT=>aa<|aj<|rz O O gT (i:=0) O bI O jL ⟨?_,gT.below⟩
  (rw[aT J]<;>rfl)
 refine an<|SR<|aE (v:=Pn _ _) rfl<|V (af O)<|V (fA cr 3 O jq O)<|V (aG bU O O (bp.eP hb O))<|mI rfl<|V (ah (hv.hp bp) bU fl O O J)<|V (gz (hv.hp bp) bI O O O J)<|bk bp (i:=0) O (cR O O O (bp.blk (i:=0) O))<|fun K9 iD=>aa<|aj<|rz O O iD (i:=0) O bI O jL ⟨?_,iD.below⟩
 (rw[aX ⟨J,J⟩]<;>rfl)
section
theorem aaO{R L0:List bu}{s:NP}{x:Value}{v:Int}{was:El}{had:BitVec 64}(hx:nh NX n L0 (x,.raise v was had))(hok:okN (.raise v was had) s):aow W0 n m R L0 (x,.raise v was had) s:=by
 rintro lg tm Z w ⟨F,L,hI,hL,rfl⟩ hH
 obtain⟨b1,b2,b3,b4,hf,hb1,Xp,hb3,hb4⟩:=hx
 subst hf
 refine⟨_,[pt b1,pt b2,pt b3,pt b4],rfl,call193,?_⟩
 refine(F3 hok _ (bH _ (bH _ (hL _ _ hb1))) (bH _ (bH _ (hL _ _ Xp))) (bH _ (bH _ (hL _ _ hb3))) (bH _ (bH _ (hL _ _ hb4))) hH).mono fun e w' hr=>jY.mono ?_ hr
 rintro u w' ⟨rfl,hh⟩
 exact⟨rfl,_,⟨F,L,⟨hI.fo,hI.us⟩,hL,rfl⟩,hh⟩
theorem aaP{R L0:List bu}{s:NP}{x:Value}{k:Int}(hm:m<=100000)(hx:nh NX n L0 (x,.merge k)):aow W0 n m R L0 (x,.merge k) s:=by
 rintro lg tm Z w ⟨F,L,hI,hL,rfl⟩ hH
 obtain⟨b1,b2,hf,hb1,Xp⟩:=hx
 subst hf
 refine⟨_,[pt b1,pt b2],rfl,call157,?_⟩
 refine(F4 (R:=F.us.map (dR 3)++R) hm _ (by rw[dG];exact bH _ (bH _ (hL _ _ hb1))) (by rw[dG];exact bH _ (bH _ (hL _ _ Xp))) hI.fo (by rw[dG];exact hH)).mono fun e w' hr=>jY.mono ?_ hr
 rintro u w' ⟨rfl,zvW,zvU,zvT,zcW,zcU,zW,zul,zts,zcn,Lb,hfo,hh⟩
 exact⟨rfl,_,⟨{F with vW:=zvW,vU:=zvU,vT:=zvT,cW:=zcW,cU:=zcU,W:=zW,ul:=zul,ts:=zts,cn:=zcn},Lb++L,⟨hfo,hI.us⟩,fun b o h=>bH _ (hL b o h),rfl⟩,by rw[dG]at hh;exact hh⟩
theorem aoK{R L0:List bu}{s:NP}{x:Value×mw}(hm:m<=100000)(hx:nh NX n L0 x)(hr:I2 x.2)(hok:okN x.2 s):aow W0 n m R L0 x s:=by
 obtain⟨v,c⟩:=x
 cases c with
 |raise v was had=>exact aaO hx hok
 |merge k=>exact aaP hm hx
 |_=>exact hr.elim
end
theorem Hv{s:NP}{L0 Z:List bu}{ids:List Nat}{tl:List (Nat×Rl)}{f:Ct}{nk:Nat}{Zf:List bu}(Jzz:yV->Prop)(mu:yV->Nat)(M:Nat)(hm:m+s.ak.length<=100000)(hok:Ea s)(hwy:s.sk=false->s.wy=0)(hlg:lg.length+1000*M<=400000000000)(htm:tm.length<=100000000)(hf:FF nk f)(hnk:nk+3*M<=90000000000)(hJ:∀us:List j4,qh us=s.us->Jzz (V3 (sV s.cs us s.aq s.bf s.qs s.sn s.ak.length ⟨s.ak,s.bq,[],List.replicate s.qs.length false⟩).s s.sn s.qs.length)/\mu (V3 (sV s.cs us s.aq s.bf s.qs s.sn s.ak.length ⟨s.ak,s.bq,[],List.replicate s.qs.length false⟩).s s.sn s.qs.length)<=M/\∀dc eK Kh mX x,Jzz ⟨dc,eK,x::Kh,mX⟩->∀r,n8 (bB (sV s.cs us s.aq s.bf s.qs s.sn s.ak.length ⟨s.ak,s.bq,[],List.replicate s.qs.length false⟩).cs) us (s.aq.getD (s.qs.getD x.toNat cX).bf.toNat pT).p.sh (s.qs.getD x.toNat cX) dc eK Kh (mX.set x.toNat false) s.wy=r->r.ok=true->Jzz ⟨r.ak,r.bq,r.wl,r.wi⟩/\mu ⟨r.ak,r.bq,r.wl,r.wi⟩<mu ⟨dc,eK,x::Kh,mX⟩)(w:World)(hT:o6 W0)(hlv:VZ TX (Kz (Kw W0) L0) ids tl s.aq)(hZ:kU (BG fr) ids f tl Zf)(Jn:ZE (Kz (Kw W0) L0) s.qs)(hZn:wD n m s lg tm Zf L0 Z)(hH:Hp W0 w Z):Calls Tryz.prog 15 #[pt n] w (jY fun u w'=>(s.sk=true/\u=B false/\∃Z',wD n m s lg tm Zf L0 Z'/\Hp W0 w' Z')\/(s.sk=false/\∃(us:List j4) (ok:Bool) (c:yV) (Ua:BitVec 64) (a:Nat) (s':NP) (new:List (Value×mw)) (L1 Z' Zf':List bu) (f':Ct),qh us=s.us/\u=B ok/\SpR (bB (sV s.cs us s.aq s.bf s.qs s.sn s.ak.length ⟨s.ak,s.bq,[],List.replicate s.qs.length false⟩).cs) us s.aq s.qs c ok s.wy Ua/\Jzz c/\a+mu c<=mu (V3 (sV s.cs us s.aq s.bf s.qs s.sn s.ak.length ⟨s.ak,s.bq,[],List.replicate s.qs.length false⟩).s s.sn s.qs.length)+(if ok then 0 else 1)/\s'=(if ok then(NP.mk s.aq s.bf c.ak c.bq s.us s.qs s.qs.length (sV s.cs us s.aq s.bf s.qs s.sn s.ak.length ⟨s.ak,s.bq,[],List.replicate s.qs.length false⟩).cs s.sk s.wy s.wr)else{s with sk:=true,wy:=Ua})/\(∀x∈new,nh NX n L1 x)/\new.length<=1001*s.ak.length+1000*a+1/\iP new s s'/\(∀b o,bu.blk b o∈L0->bu.blk b o∈L1)/\kU (BG fr) ids f' tl Zf'/\pU f f' a a (a+(sV s.cs us s.aq s.bf s.qs s.sn s.ak.length ⟨s.ak,s.bq,[],List.replicate s.qs.length false⟩).j)/\wD n (m+s.ak.length) s' (lg++new) (tm++[(lg.length:Int)]) Zf' L1 Z'/\Hp W0 w' Z')):=by
 refine enter func15 rfl ntmps15 rfl ?_
 obtain⟨F1,L2,zB,ON,rfl⟩:=hZn
 have bY:=hH
 simp only[NZ,nE]at bY
 have jQ:=Hp.mK (A:=[_,_,_,_,_,_,_,_,_,_,_,_]) (B:=F1.us.map (dR 3)) (R:=Zf) bY
 simp only[gB,eN]at jQ
 refine SR<|gN jQ (v:=Pn _ _) rfl<|fun b9 w7 eW=>va (v:=B false) rfl<|aa<|ai<|SR<| ?_
 obtain⟨R1,Xe⟩:∃R1:List bu,R1=[bu.blk b9 (.cells #[pt n] 31 (0,0))]++(F1.us.map (dR 3)++L2):=⟨_,rfl⟩
 have cg:=Hp.mK (A:=[_,_,_,_,_,_,_,_,_,_,_,_]) (B:=[bu.blk b9 (.cells #[pt n] 31 (0,0))]) (R:=Zf) (eW.pj [1,1,1,1,1,1,1,1,1,1,1,1])
 rw[<-Xe]at cg
 simp only[gB,eN]at cg
 have ae6:bu.blk b9 (.cells #[pt n] 31 (0,0))∈R1:=by rw[Xe];simp
 have hle:Le (Kz (Kw W0) L0) (Kz (Kw W0) R1):=Le.zb fun b o h=>by rw[Xe];exact bH _ (bH _ (ON b o h))
 have ae5:=hlv.mono hle
 have aoB:=Jn.mono hle
 have OL:=zB.fo.mono (L':=R1) fun e he=>by rw[Xe];exact bH _ (bH _ he)
 refine V (aG di O O (cg.px ((fun x hx=>(mT (mT (mT (mT (mT (mT (mT (mT (mT (mT (mT (mT (bH _ hx)))))))))))))) _ ae6) (v:=Pn _ _) O))<|aH O cg (o3 _ (cg.blk (i:=0) O)) (ay call40 O)<|fun zc bX=>V (bJ O)<|aa<|bW O (fun ym=> ?_) (fun ym=> ?_)
 .refine SR<|va (v:=B false) rfl<|aa<|aj<|have er:=(bX);?_
  subst Xe
  exact jA (v:=B false) O O (.inl ⟨ku,rfl,_,⟨F1,[]++([bu.blk b9 (.cells #[pt n] 31 (0,0))]++L2),⟨zB.fo.mono fun e he=>bH _ (bH _ he),zB.us⟩,fun b o h=>bH _ (bH _ (ON b o h)),rfl⟩,Hp.ZL (A:=[_,_,_,_,_,_,_,_,_,_,_,_]) (Lb:=[]) (E:=[bu.blk b9 (.cells #[pt n] 31 (0,0))]) er⟩)
 refine an<|SR<|V (aG di O O (bX.px ((fun x hx=>(mT (mT (mT (mT (mT (mT (mT (mT (mT (mT (mT (mT (bH _ hx)))))))))))))) _ ae6) (v:=Pn _ _) O))<|cD O (p8 J _ bX) (ay call41 O)<| ?_
 rintro _ Z7 ⟨rfl,v22,fJ⟩
 simp only[nE]at fJ
 refine aa<|SR<|V (aG di O O (fJ.px ((fun x hx=>(mT (mT (mT (mT (mT (mT (mT (mT (mT (mT (mT (mT (bH _ hx)))))))))))))) _ ae6) (v:=Pn _ _) O))<|V (af O)<|V (fA cr 14 O kq O)<|lV hG fJ 0 O O rfl<|V (aC (fJ.sl (i:=10) O) O hG O)<|aI rfl<|aa<|ai<|SR<|V (aG di O O (fJ.px ((fun x hx=>(mT (mT (mT (mT (mT (mT (mT (mT (mT (mT (mT (mT (bH _ hx)))))))))))))) _ ae6) (v:=Pn _ _) O))<|have Kx:∀k:Nat,k<F1.us.length->dR 3 (F1.us.getD k de)∈R1/\(F1.us.getD k de).l.length<=1000/\∀i∈(F1.us.getD k de).l,0<=i/\i<(s.qs.length:Int):=(fun k hk=>by rw[Xe];exact⟨bH _ (V5 hok zB.us (L:=[]) k hk|>.1|>fun q=>by rw[mY]at q;exact dL _ q),(V5 hok zB.us (t:=0) (L:=[]) k hk).2⟩);have aor:F1.us.length=s.ak.length:=(by rw[<-gA,zB.us];exact hok.OX);?_
 obtain⟨hJ0,hJ1,hJ2⟩:=hJ _ zB.us
 refine cD O (Hu Jzz mu hm hok.T9 aor hok.oy hok.QF J Kx hf J hok.Xm hok.hqn hok.hqo hok.hlt hok.hlr hJ0 hJ2 _ hT ae5 hZ aoB OL fJ) (ay call42 O) ?_
 rintro _ w43 ⟨aA7,ae7,aoM,a28,aA8,aA9,aBa,aBb,aBc,W50,aBd,aBe,aBf,aBg,aBh,TV,Z32,f33,rfl,aoN,aBi,aBj,aq1,auX,aHE,Xg,aBk,aBl,qo⟩
 simp only[nE]at qo
 refine aa<|bW O (fun h55=> ?_) (fun h55=> ?_)
 .refine SR<|va (v:=B true) rfl<|aa<|aj<|have Es:s.sk=false:=ku;have hof:aA7=true:=lA;have ni:=(qo);?_
  subst hof
  subst Xe
  simp only[ur]at ni Xg
  rw[zB.us]at Xg
  have aHF:aoM=s.wy:=by rcases aoN with⟨_,_,q⟩|⟨q,_⟩;exact q;cases q
  rw[aHF]at ni Xg aoN
  refine jA (v:=B true) O O (.inr ⟨Es,F1.us,true,ae7,s.wy,a28,_,aBh,(TV++([bu.blk b9 (.cells #[pt n] 31 (0,0))]++L2)),_,Z32,f33,zB.us,rfl,aoN,aBi,aBj,rfl,(fun x hx=>(auX x hx).1.mono fun e he=>dL _ he),aHE,Xg,(fun b o h=>bH _ (bH _ (ON b o h))),aBk,aBl,⟨{F1 with vW:=aA8,vU:=aA9,vT:=aBa,cW:=aBb,cU:=aBc,W:=W50,ul:=aBd,ts:=aBe,cn:=aBf,vd:=aBg,vm:=v22},(TV++([bu.blk b9 (.cells #[pt n] 31 (0,0))]++L2)),⟨aq1.EF fun b o h=>V6 h,zB.us⟩,fun _ _ h=>h,rfl⟩,Hp.ZL (A:=[_,_,_,_,_,_,_,_,_,_,_,_]) ni⟩)
 refine an<|SR<|V (aG di O O (qo.px ((fun x hx=>(mT (mT (mT (mT (mT (mT (mT (mT (mT (mT (mT (mT (bH _ (bH _ hx))))))))))))))) _ ae6) (v:=Pn _ _) O))<|V (af O)<|V (fA cr 13 O cQ O)<|V (aG dM O O (qo.cell (i:=0) O (v:=U _) O))<|aU rfl<|aa<|SR<|V (aG di O O (qo.px ((fun x hx=>(mT (mT (mT (mT (mT (mT (mT (mT (mT (mT (mT (mT (bH _ (bH _ hx))))))))))))))) _ ae6) (v:=Pn _ _) O))<|mI rfl<|have hof:aA7=false:=lA;have aaQ:=(qo);?_
 subst hof
 subst Xe
 simp only[uB,xU]at aaQ Xg aBj
 have QF:=hok.QF
 rw[zB.us]at Xg
 obtain⟨Zc,hZc,hHc⟩:∃Z,wD n (m+s.ak.length) (NP.mk s.aq s.bf ae7.ak ae7.bq s.us s.qs s.sn (sV s.cs F1.us s.aq s.bf s.qs s.sn s.ak.length ⟨s.ak,s.bq,[],List.replicate s.qs.length false⟩).cs s.sk aoM s.wr) (lg++aBh) (tm++[(lg.length:Int)]) Z32 (TV++([bu.blk b9 (.cells #[pt n] 31 (0,0))]++L2)) Z/\Hp W0 _ Z:=⟨_,⟨{F1 with vW:=aA8,vU:=aA9,vT:=aBa,cW:=aBb,cU:=aBc,W:=W50,ul:=aBd,ts:=aBe,cn:=aBf,vd:=aBg,vm:=v22},(TV++([bu.blk b9 (.cells #[pt n] 31 (0,0))]++L2)),⟨aq1.EF fun b o h=>V6 h,zB.us⟩,fun _ _ h=>h,rfl⟩,Hp.ZL (A:=[_,_,_,_,_,_,_,_,_,_,_,_]) aaQ⟩
 refine cD O (Js (s:=(NP.mk s.aq s.bf ae7.ak ae7.bq s.us s.qs s.sn (sV s.cs F1.us s.aq s.bf s.qs s.sn s.ak.length ⟨s.ak,s.bq,[],List.replicate s.qs.length false⟩).cs s.sk aoM s.wr)) (R:=Z32) (L0:=(TV++([bu.blk b9 (.cells #[pt n] 31 (0,0))]++L2))) (Z:=Zc) (lg.length:Int) Fi Fi (by rw[eC,V4];exact Xg.ok) (fun s1 k h1 h2 hok=>aoK hm ((auX _ (ab1 h1 h2)).1.mono fun e he=>dL _ he) ((auX _ (ab1 h1 h2)).2 O) hok) _ hZc hHc) (aM call43 O O) ?_
 rintro _ w60 ⟨rfl,Z61,aBm,nU⟩
 rw[eC,V4,ve,Xg.und]at aBm
 obtain⟨F64,L65,aBn,aoO,rfl⟩:=aBm
 have kG:=nU
 simp only[NZ,nE]at kG
 refine aa<|ai<|fW (z:=⟨none,_,_,_,_,none⟩) aP O aP kG (sQ sR)<|fun w69 wA=>have OA:=wA.sub (sQ sR);AT 0 O OA (fun w hS=>aG di O O (hS.px ((fun x hx=>(mT (mT (mT (mT (mT (mT (mT (mT (mT (mT (mT (bH _ (bH _ hx)))))))))))))) _ (aoO _ _ (show bu.blk b9 (.cells #[pt n] 31 (0,0))∈(TV++([bu.blk b9 (.cells #[pt n] 31 (0,0))]++L2))by simp))) (v:=Pn _ _) O))<|AT 1 O OA (fun w hS=>aG di O O (hS.px ((fun x hx=>(mT (mT (mT (mT (mT (mT (mT (mT (mT (mT (mT (bH _ (bH _ hx)))))))))))))) _ (aoO _ _ (show bu.blk b9 (.cells #[pt n] 31 (0,0))∈(TV++([bu.blk b9 (.cells #[pt n] 31 (0,0))]++L2))by simp))) (v:=Pn _ _) O))<|AQ 2 O OA (mV (U _) O)<|AQ 3 O OA (af O)<|AQ 4 O OA (fA cr 12 O oq O)<|A1 5<|ef O aD wA (j:=0) O (sQ sR) (bM O O (v:=B true) O O O (wA.blk (i:=0) O) aJ)<|fun w73 uZ=> ?_
 simp only[jh,kZ,nW,gO,Nat.reduceAdd]at uZ
 refine AQ 6 O (uZ.sub (sQ sR)) (af O)<|AQ 7 O (uZ.sub (sQ sR)) (fA cr 13 O cQ O)<|AD<|bk uZ (i:=0) O (bM O O (v:=U _) O O O (uZ.blk (i:=0) O) aJ)<|fun w75 oL=> ?_
 simp only[jh,kZ,nW,gO,Nat.reduceAdd]at oL
 refine aa<|SR<|V (aG di O O (oL.px ((fun x hx=>(mT (mT (mT (mT (mT (mT (mT (mT (mT (mT (mT (mT (bH _ (bH _ hx))))))))))))))) _ (aoO _ _ (show bu.blk b9 (.cells #[pt n] 31 (0,0))∈(TV++([bu.blk b9 (.cells #[pt n] 31 (0,0))]++L2))by simp))) (v:=Pn _ _) O))<| ?_
 refine V (Cv bA) ?_
 refine cD O (iL _ _ .stuck J _ oL) (aM zP O O) ?_
 rintro _ w79 ⟨rfl,v81,pE⟩
 simp only[nE]at pE
 refine aa<|SR<|va (v:=B false) rfl<|aa<|aj<|have Es:s.sk=false:=ku;have oZ:=(pE);jA (v:=B false) O O (.inr ⟨Es,F1.us,false,ae7,aoM,a28,_,[((jO 45 #[pt b9]),.stuck)],(TV++([bu.blk b9 (.cells #[pt n] 31 (0,0))]++L2)),_,Z32,f33,zB.us,rfl,aoN,aBi,iY,rfl,(fun x hx=>by rw[gG.1 hx];exact⟨_,rfl,aJ⟩),(by rw[eA];omega),ZM Es (hwy Es),(fun b o h=>bH _ (bH _ (ON b o h))),aBk,aBl,⟨{F64 with vd:=v81,vm:=F64.vm},L65,⟨aBn.fo,aBn.us⟩,aoO,rfl⟩,oZ⟩)
theorem OP(x:Value)(hx:x.cells=#[x])(w:World):Calls Tryz.prog 36 #[x] w (jY fun u w'=>∃(n:Nat) (Z:List bu),u=pt n/\Hp w w' Z/\wD n 0 (NP.mk [] [] [] [] [] [] 0 [[]] false 0 x) [] [] [] [] Z):=by
 refine eH func36 rfl rfl fun hH=>SR<|va (v:= .pointer none) rfl<|aa<|SR<|V (run_move (show _=x from O))<|V (dI (vs:=[(0,x)]) O (ae0 hx))<|gN hH (v:= .agg _) rfl<|fun b3 w1 bp=>va (v:=Pn _ _) rfl<|aa<|aj<|have hN:=(((((((((((bp.eR 3 1).eR 1 1).eR 128 13).eR 99 1).eR 35 1).eR 37 8).eR 3 1).eR 119 13).eR 3 1).eR 1 1).eR 35 1);jA O (v:=pt b3) O ⟨b3,_,rfl,hN.perm (ud (l₁:=[_,_,_,_,_,_,_,_,_,_,_]) (l₂:=[_])),⟨.slice none 0 0,.slice none 0 0,.slice none 0 0,.slice none 0 0,.slice none 0 0,.slice none 0 0,.slice none 0 0,.slice none 0 0,.slice none 0 0,0,.slice none 0 0,.slice none 0 0,none,none,[],[],[],[]⟩,[],⟨⟨⟨[],rfl,trivial,trivial,⟨rfl,rfl,rfl⟩,trivial,(fun x hx=>by cases hx),fh _,fh _⟩,rfl⟩,rfl⟩,(fun b o h=>mH),rfl⟩
theorem OQ{s:NP}{L0 Z:List bu}{ids:List Nat}{tl:List (Nat×Rl)}{f:Ct}{Zf:List bu}(p:kR)(hfn:p.aZ.length<=1000)(hnn:∀f∈p.aZ,f.names.length<=1000)(hll:s.aq.length<=1000)(hlg:lg.length<=550000000000)(htm:tm.length<=100000000)(hwr:WrF s.wr ids)(w:World)(hT:o6 W0)(hsh:k8 (Kz (Kw W0) L0) p)(hZ:kU (BG fr) ids f tl Zf)(hZn:wD n m s lg tm Zf L0 Z)(hH:Hp W0 w Z):Calls Tryz.prog 19 #[pt n,.agg (qL p)] w (jY fun u w'=>((s.sk=true\/mA p.sh=false)/\u=I (-1)/\∃Z',wD n m s lg tm Zf L0 Z'/\Hp W0 w' Z')\/(s.sk=false/\∃(x:pP) (fv:Value) (QK:List (Nat×Rl)) (L1 Z' Zf':List bu),mA p.sh=true/\u=I s.aq.length/\x.p.sh=p.sh/\x.low=gJ p.sh ew/\WrD s.wr x.d/\(∀b o,bu.blk b o∈L0->bu.blk b o∈L1)/\Xo TX (Kz (Kw W0) L1) ids (tl++QK) x/\nh NX n L1 (fv,.bf s.aq.length)/\kU (BG fr) ids f (tl++QK) Zf'/\iP [(fv,.bf s.aq.length)] s {s with aq:=s.aq++[x]}/\wD n m {s with aq:=s.aq++[x]} (lg++[(fv,.bf s.aq.length)]) (tm++[(lg.length:Int)]) Zf' L1 Z'/\Hp W0 w' Z')):=by
 refine enter func19 rfl ntmps19 rfl ?_
 obtain⟨F1,L2,zB,ON,rfl⟩:=hZn
 have bY:=hH
 simp only[NZ,nE]at bY
 have jQ:=Hp.mK (A:=[_,_,_,_,_,_,_,_,_,_,_,_]) (B:=F1.us.map (dR 3)) (R:=Zf) bY
 simp only[gB,eN]at jQ
 have aBo:=hsh.mono (Le.zb (K:=Kw W0) ON)
 refine SR<|gN jQ (v:=Pn _ _) rfl<|fun b9 w7 eW=>gN eW (v:= .agg _) rfl<|fun b12 EL df=>va (v:=I 0) rfl<|aa<|ai<|SR<|lP di df 1 O O rfl<|aH O df (o3 _ (df.blk (i:=2) O)) (ay call40 O)<|fun C2 cG=>V (bJ O)<|mB rfl<|ez 11 O (fun G9=> ?_) (fun G9=> ?_)
 .refine aE (v:=B true) rfl<|aa<|ct rfl<|SR<|va (v:=I (-1)) rfl<|aa<|aj<|jA (v:=I (-1)) O O (.inl ⟨ku,rfl,_,⟨F1,L2,zB,ON,rfl⟩,Hp.mK (A:=[_,_,_,_,_,_,_,_,_,_,_,_]) (cG.sub (sQ (sQ sR)))⟩)
 refine V (cA (cs:=[B _,_]) dw O O O (bj (cG.blk (i:=0) O)))<|aH O cG (yw p _ (aBo.mono (cG.kz (Le.refl _) (fun x hx=>(mT (mT (mT (mT (mT (mT (mT (mT (mT (mT (mT (mT (mT (mT (bH _ (bH _ hx))))))))))))))))))) (hT.hp cG)) (ay call50 O)<|fun K9 iD=>V (bJ O)<|mB rfl<|aa<|bW O (fun h22=> ?_) (fun h22=> ?_)
 .refine SR<|va (v:=I (-1)) rfl<|aa<|aj<|jA (v:=I (-1)) O O (.inl ⟨ku,rfl,_,⟨F1,L2,zB,ON,rfl⟩,Hp.mK (A:=[_,_,_,_,_,_,_,_,_,_,_,_]) (iD.sub (sQ (sQ sR)))⟩)
 refine an<|SR<|lP di iD 1 O O rfl<|cD O (p8 J _ (iD.pj [2,2,2,2,2,2,2,2,2,2,2,2])) (ay call41 O)<| ?_
 rintro _ w25 ⟨rfl,v27,jg⟩
 simp only[nE]at jg
 have iJ:=jg.pk [12,12]
 refine aa<|SR<|V (cA (cs:=[B _,_]) dw O O O (bj (iJ.blk (i:=0) O)))<|tR 1 1 iJ (MO RD O O O (l:=[p]) O az az O)<|fun b31 w29 iW=>IF O iW (Bu (Kz (Kw W0) (F1.us.map (dR 3)++L2)) (.slice (some ⟨b31,0,none⟩) 1 1) [p] (show 1<=1000 by decide) (by simpa using hfn) (by simpa using hnn) _ (iW.kz (Le.refl _) (fun x hx=>(mT (mT (mT (mT (mT (mT (mT (mT (mT (mT (mT (mT (mT (mT (mT (bH _ hx)))))))))))))))))) (Hp.iu ML iW (i:=0) (l:=[p]) O (show 1<=maxLen by decide)) ⟨fun x hx=>by rw[gG.1 hx];exact aBo.mono (Le.zz fun y hy=>bH _ hy)⟩) (ay call51 O)<|fun v34 w35 J2 j7 aHG=>have kF:Hp _ w35 (_::_::_::_::_::_::_::_::_::_::_::_::_::_::_::(J2++(Zf++(F1.us.map (dR 3)++L2)))):=j7.HD (L:=[_,_,_,_,_,_,_,_,_,_,_,_,_,_,_]) (L':=(Zf++(F1.us.map (dR 3)++L2)));have jU:Hp _ w35 (_::_::_::_::_::_::_::_::_::_::_::_::_::_::_::(Zf++(J2++(F1.us.map (dR 3)++L2)))):=Hp.swz (A:=[_,_,_,_,_,_,_,_,_,_,_,_,_,_,_]) kF;?_
 obtain⟨sr,rfl,aq2,auY⟩:=aHG
 refine lK jU (aS Tryz.zeroValue56)<|fun b47 w45 oe=>bk oe (i:=0) O (DN auY O O O (oe.blk (i:=0) O) O)<|fun w50 rX=> ?_
 simp only[z2,dr,pull]at rX
 refine aa<|SR<|V (fA dw 0 O oq O)<|V (aG qZ O O (rX.cell (i:=2) O (v:=B _) O))<|V (fA dw 0 O oq O)<|bk (c':=#[B p.tuple,sr.fv]) rX (i:=0) O (bM (off:=0+0) O O (v:=B p.tuple) O O O (rX.blk (i:=0) O) aJ)<|fun w53 gR=> ?_
 simp only[z2,dr,pull]at gR
 have Xq:k8 (Kz (Kw W0) (J2++(F1.us.map (dR 3)++L2))) (⟨p.tuple,sr.fv,sr.aZ⟩:kR):=(show k8 _ (⟨p.tuple,sr.fv,sr.aZ⟩:kR)from⟨auY.aZ,auY.each⟩).mono Le.kk
 have hps:(⟨p.tuple,sr.fv,sr.aZ⟩:kR).sh=p.sh:=by show(⟨p.tuple,sr.aZ.map qz.fc⟩:Sh)=p.sh;rw[QG aq2];rfl
 obtain⟨pf1,pf2⟩:=anx aq2 hfn hnn
 refine aa<|Fy (G:=(Nat)×(List bu)×(List bu)×(pP)×(List (Nat×Rl))) gR (6::(rg 24 6 [])) (fun(L:List bu) (⟨q6,Z1,Zq,x1,QK⟩:(Nat)×(List bu)×(List bu)×(pP)×(List (Nat×Rl)))=> .blk q6 (.cells (Xn x1).toArray 119 (0,0))::(L.take 16++(Z1++(Zq++(J2++(F1.us.map (dR 3)++L2)))))) (fun(⟨q6,Z1,Zq,x1,QK⟩:(Nat)×(List bu)×(List bu)×(pP)×(List (Nat×Rl))) s'=>(s' 6= .pointer (some ⟨q6,0,none⟩))/\(kU (BG fr) ids f (tl++QK) Z1)/\((Xo TX (Kz (Kw W0) (Zq++(J2++(F1.us.map (dR 3)++L2)))) ids (tl++QK) x1))/\(x1.p=(⟨p.tuple,sr.fv,sr.aZ⟩:kR))/\(x1.d.dep=0)/\(x1.low=gJ x1.p.sh ew)) ?_ ?_
 .refine fW (z:=⟨none,_,_,_,_,none⟩) aP O aP gR (sP (sP (sP (sP (sP (sP (sP (sP (sP (sP (sP (sP (sP (sP (sP (sP (sA sR)))))))))))))))))<|fun w55 ni=>have auZ:=ni.sub (sP (sP (sP (sP (sP (sP (sP (sP (sP (sP (sP (sP (sP (sP (sP (sP (sA sR)))))))))))))))));AT 0 O auZ (fun w hS=>cA (cs:=[B _,_]) dw O O O (bj (hS.blk (i:=0) O)))<|AT 1 O auZ (fun w hS=>cA (cs:=[B _,_]) dw O O O (bj (hS.blk (i:=0) O)))<|AT 3 O auZ (fun w hS=>cA (cs:=[B _,_]) dw O O O (bj (hS.blk (i:=0) O)))<|gq 2 6 aP ?_ ?_
  .refine ye O aD O (Oz (Kz (Kw W0) (J2++(F1.us.map (dR 3)++L2))) (⟨p.tuple,sr.fv,sr.aZ⟩:kR) pf1 pf2 _ (ni.kz (Le.refl _) (fun x hx=>(mT (mT (mT (mT (mT (mT (mT (mT (mT (mT (mT (mT (mT (mT (mT (mT (bH _ hx))))))))))))))))))) Xq) (ay call52 O) (fun u w' ⟨_,_,_,_,_,_,_,_,_,_,_,_,_,_,_,_,_,h⟩=>(ni.call h.below).sub (sP (sP (sP (sP (sP (sP (sP (sP (sP (sP (sP (sP (sP (sP (sP (sP (sA sR)))))))))))))))))) ?_
   rintro _ w59 ⟨f1,f2,f3,a1,a2,a3,p60,ae8,ak1,aQV,ak2,rfl,aBp,aBq,aq3,aq4,aBr,h70⟩
   obtain⟨Z71,aoP,uX⟩:∃Z,kU (BG fr) ids f (tl++ak1) Z/\Hp _ _ (_::_::_::_::_::_::_::_::_::_::_::_::_::_::_::_::(Z++(ak2++(J2++(F1.us.map (dR 3)++L2))))):=⟨_,hZ.app aBr,Hp.apE (A:=[_,_,_,_,_,_,_,_,_,_,_,_,_,_,_,_]) (Hp.Gr ni h70)⟩
   refine gq 4 6 aP ?_ ?_
   .refine cw O aD O uX (sP (sP (sP (sP (sP (sP (sP (sP (sP (sP (sP (sP (sP (sP (sP (sP (sA (sA sR)))))))))))))))))) (wz (⟨p.tuple,sr.fv,sr.aZ⟩:kR) _ (Xq.mono (uX.kz (Le.refl _) (fun x hx=>(mT (mT (mT (mT (mT (mT (mT (mT (mT (mT (mT (mT (mT (mT (mT (mT (bH _ (bH _ hx))))))))))))))))))))) (hT.hp uX)) (ay call53 O)<|fun w74 uY=>AQ 5 O (uY.sub (sP (sP (sP (sP (sP (sP (sP (sP (sP (sP (sP (sP (sP (sP (sP (sP (sA (sA sR))))))))))))))))))) (dI (vs:=[(0,.agg (qL (⟨p.tuple,sr.fv,sr.aZ⟩:kR))),(1,.agg #[jO f1 a1,jO f2 a2,jO f3 a3]),(2,.agg (iM (gJ (⟨p.tuple,sr.fv,sr.aZ⟩:kR).sh ew)))]) O (yz _ _ _ _ (.base p60 ae8) _))<|A1 6<|cH O aD O uY (sP (sP (sP (sP (sP (sP (sP (sP (sP (sP (sP (sP (sP (sP (sP (sP (sA (sA sR)))))))))))))))))) (f:=fun b=> .pointer (some ⟨b,0,none⟩)) (aS Tryz.zeroValue119)<|fun b78 w76 OR=>AD<|have hlx:Xo TX (Kz (Kw W0) (ak2++(J2++(F1.us.map (dR 3)++L2)))) ids (tl++ak1) ⟨(⟨p.tuple,sr.fv,sr.aZ⟩:kR),_,_,_,.base p60 ae8,gJ (⟨p.tuple,sr.fv,sr.aZ⟩:kR).sh ew⟩:=⟨aBp.mono Le.kk,⟨aq3,fun i hi q hq=>bH _ (aq4 i hi q hq)⟩,aBq,Xq.mono (Le.zz fun x hx=>bH _ hx),nM _⟩;bk OR (i:=0) O (dO O O O (GY hlx) (OR.blk (i:=0) O) O)<|fun w79 pE=> ?_
    simp only[z2,dr,pull]at pE
    refine aa ?_
    refine⟨((Fr.refl _ _)).u4.u1.u1.u1,(b78,Z71,ak2,⟨(⟨p.tuple,sr.fv,sr.aZ⟩:kR),_,_,_,.base p60 ae8,gJ (⟨p.tuple,sr.fv,sr.aZ⟩:kR).sh ew⟩,ak1),(Hp.conv pE aL),rfl,?_,?_,aL,aL,aL⟩
    .exact aoP
    exact hlx
   refine cH O aD O uX (sP (sP (sP (sP (sP (sP (sP (sP (sP (sP (sP (sP (sP (sP (sP (sP (sA (sA sR)))))))))))))))))) (f:=fun b=> .pointer (some ⟨b,0,none⟩)) (aS Tryz.zeroValue119)<|fun b83 w81 oZ=>A1 4<|cw O aD O oZ (sQ (sP (sP (sP (sP (sP (sP (sP (sP (sP (sP (sP (sP (sP (sP (sP (sP (sA (sA sR))))))))))))))))))) (wz (⟨p.tuple,sr.fv,sr.aZ⟩:kR) _ (Xq.mono (oZ.kz (Le.refl _) (fun x hx=>(mT (mT (mT (mT (mT (mT (mT (mT (mT (mT (mT (mT (mT (mT (mT (mT (mT (bH _ (bH _ hx)))))))))))))))))))))) (hT.hp oZ)) (ay call53 O)<|fun w84 WJ=>AQ 5 O (WJ.sub (sQ (sP (sP (sP (sP (sP (sP (sP (sP (sP (sP (sP (sP (sP (sP (sP (sP (sA (sA sR)))))))))))))))))))) (dI (vs:=[(0,.agg (qL (⟨p.tuple,sr.fv,sr.aZ⟩:kR))),(1,.agg #[jO f1 a1,jO f2 a2,jO f3 a3]),(2,.agg (iM (gJ (⟨p.tuple,sr.fv,sr.aZ⟩:kR).sh ew)))]) O (yz _ _ _ _ (.base p60 ae8) _))<|AD<|have hlx:Xo TX (Kz (Kw W0) (ak2++(J2++(F1.us.map (dR 3)++L2)))) ids (tl++ak1) ⟨(⟨p.tuple,sr.fv,sr.aZ⟩:kR),_,_,_,.base p60 ae8,gJ (⟨p.tuple,sr.fv,sr.aZ⟩:kR).sh ew⟩:=⟨aBp.mono Le.kk,⟨aq3,fun i hi q hq=>bH _ (aq4 i hi q hq)⟩,aBq,Xq.mono (Le.zz fun x hx=>bH _ hx),nM _⟩;bk WJ (i:=0) O (dO O O O (GY hlx) (WJ.blk (i:=0) O) O)<|fun w86 WK=> ?_
   simp only[z2,dr,pull]at WK
   refine aa ?_
   refine⟨((Fr.refl _ _)).u4.u1.u1.u1,(b83,Z71,ak2,⟨(⟨p.tuple,sr.fv,sr.aZ⟩:kR),_,_,_,.base p60 ae8,gJ (⟨p.tuple,sr.fv,sr.aZ⟩:kR).sh ew⟩,ak1),(Hp.conv WK aL),rfl,?_,?_,aL,aL,aL⟩
   .exact aoP
   exact hlx
  refine cH O aD O ni (sP (sP (sP (sP (sP (sP (sP (sP (sP (sP (sP (sP (sP (sP (sP (sP (sA sR))))))))))))))))) (f:=fun b=> .pointer (some ⟨b,0,none⟩)) (aS Tryz.zeroValue119)<|fun b90 w88 Ji=>A1 2<|ye O aD O (Oz (Kz (Kw W0) (J2++(F1.us.map (dR 3)++L2))) (⟨p.tuple,sr.fv,sr.aZ⟩:kR) pf1 pf2 _ (Ji.kz (Le.refl _) (fun x hx=>(mT (mT (mT (mT (mT (mT (mT (mT (mT (mT (mT (mT (mT (mT (mT (mT (mT (bH _ hx)))))))))))))))))))) Xq) (ay call52 O) (fun u w' ⟨_,_,_,_,_,_,_,_,_,_,_,_,_,_,_,_,_,h⟩=>(Ji.call h.below).sub (sQ (sP (sP (sP (sP (sP (sP (sP (sP (sP (sP (sP (sP (sP (sP (sP (sP (sA sR)))))))))))))))))))<| ?_
  rintro _ w93 ⟨f1,f2,f3,a1,a2,a3,p94,au0,au1,aQY,au2,rfl,aHI,aBs,au3,au4,au5,aHJ⟩
  obtain⟨aHK,aBt,JT⟩:∃Z,kU (BG fr) ids f (tl++au1) Z/\Hp _ _ (_::_::_::_::_::_::_::_::_::_::_::_::_::_::_::_::_::(Z++(au2++(J2++(F1.us.map (dR 3)++L2))))):=⟨_,hZ.app au5,Hp.apE (A:=[_,_,_,_,_,_,_,_,_,_,_,_,_,_,_,_,_]) (Hp.Gr Ji aHJ)⟩
  refine A1 4<|cw O aD O JT (sQ (sP (sP (sP (sP (sP (sP (sP (sP (sP (sP (sP (sP (sP (sP (sP (sP (sA (sA sR))))))))))))))))))) (wz (⟨p.tuple,sr.fv,sr.aZ⟩:kR) _ (Xq.mono (JT.kz (Le.refl _) (fun x hx=>(mT (mT (mT (mT (mT (mT (mT (mT (mT (mT (mT (mT (mT (mT (mT (mT (mT (bH _ (bH _ hx)))))))))))))))))))))) (hT.hp JT)) (ay call53 O)<|fun atM xB=>AQ 5 O (xB.sub (sQ (sP (sP (sP (sP (sP (sP (sP (sP (sP (sP (sP (sP (sP (sP (sP (sP (sA (sA sR)))))))))))))))))))) (dI (vs:=[(0,.agg (qL (⟨p.tuple,sr.fv,sr.aZ⟩:kR))),(1,.agg #[jO f1 a1,jO f2 a2,jO f3 a3]),(2,.agg (iM (gJ (⟨p.tuple,sr.fv,sr.aZ⟩:kR).sh ew)))]) O (yz _ _ _ _ (.base p94 au0) _))<|AD<|have hlx:Xo TX (Kz (Kw W0) (au2++(J2++(F1.us.map (dR 3)++L2)))) ids (tl++au1) ⟨(⟨p.tuple,sr.fv,sr.aZ⟩:kR),_,_,_,.base p94 au0,gJ (⟨p.tuple,sr.fv,sr.aZ⟩:kR).sh ew⟩:=⟨aHI.mono Le.kk,⟨au3,fun i hi q hq=>bH _ (au4 i hi q hq)⟩,aBs,Xq.mono (Le.zz fun x hx=>bH _ hx),nM _⟩;bk xB (i:=0) O (dO O O O (GY hlx) (xB.blk (i:=0) O) O)<|fun aFk Hi=> ?_
  simp only[z2,dr,pull]at Hi
  refine aa ?_
  refine⟨((Fr.refl _ _)).u4.u1.u1.u1,(b90,aHK,au2,⟨(⟨p.tuple,sr.fv,sr.aZ⟩:kR),_,_,_,.base p94 au0,gJ (⟨p.tuple,sr.fv,sr.aZ⟩:kR).sh ew⟩,au1),(Hp.conv Hi aL),rfl,?_,?_,aL,aL,aL⟩
  .exact aBt
  exact hlx
 rintro⟨q6,Z1,Zq,x1,QK⟩ aLC aAs aBu wH ⟨TW,JZ,hx1,hxp,hxd,U0⟩
 simp only[HE,xK,gB,eN]at wH
 have uA:=aBu.w1 2
 refine ai<|SR<|V (aG di O uA (wH.cell (i:=4) O (v:=Pn _ _) O))<|V (af O)<|V (fA cr 0 O sizeOf74 O)<|lV underlying74 wH 5 O O rfl<|V (aeu hwr.fn underlying74 O O)<|aa<|bW O (fun aun=> ?_) (fun aun=> ?_)
 .obtain⟨mwf,fwf,cwf,hwf,aHL,aHM,aHN⟩:=hwr.yes aQ
  refine fW (z:=⟨none,_,_,_,_,none⟩) aP O aP wH (sP (sP (sP (sP (sP (sP (sP (sP (sP (sP (sP (sP (sP (sP (sP (sP (sP (sA sR))))))))))))))))))<|fun auT zl=>have Rc:=zl.sub (sP (sP (sP (sP (sP (sP (sP (sP (sP (sP (sP (sP (sP (sP (sP (sP (sP (sA sR))))))))))))))))));AT 0 O Rc (fun w hS=>aG di O uA (hS.cell (i:=4) O (v:=Pn _ _) O))<|AQ 1 O Rc (af O)<|AQ 2 O Rc (fA cr 0 O sizeOf74 O)<|tV 3 O Rc underlying74 5 O O rfl<|AQ 4 O Rc (fA Cb 2 O sizeOf117 TW)<|AT 5 O Rc (fun w hS=>iN (sub:=[_,_,_]) qX O O O (hS.blk (i:=0) O) O)<|A1 6<|ye O aD O (aHN (Kz (Kw W0) (Zq++(J2++(F1.us.map (dR 3)++L2)))) x1.d x1.e x1.l x1.j _ (zl.kz (Le.refl _) (fun x hx=>(mT (mT (mT (mT (mT (mT (mT (mT (mT (mT (mT (mT (mT (mT (mT (mT (mT (bH _ hx)))))))))))))))))))) hx1.ops) (lC aHM (cs:=cwf) (rfl.trans hwf) O) (fun u w' ⟨_,h,_⟩=>(zl.call h.below).sub (sP (sP (sP (sP (sP (sP (sP (sP (sP (sP (sP (sP (sP (sP (sP (sP (sP (sA sR)))))))))))))))))))<| ?_
  rintro _ aFm ⟨OS,auI,g1,g2,g3,c1,c2,c3,rfl,aBv⟩
  have J0:Hp _ _ (_::_::_::_::_::_::_::_::_::_::_::_::_::_::_::_::_::(Z1++(OS++(Zq++(J2++(F1.us.map (dR 3)++L2)))))):=Hp.swz (A:=[_,_,_,_,_,_,_,_,_,_,_,_,_,_,_,_,_]) (Hp.HD (L:=[_,_,_,_,_,_,_,_,_,_,_,_,_,_,_,_,_]) (L':=(Z1++(Zq++(J2++(F1.us.map (dR 3)++L2))))) (Hp.Gr zl auI))
  have hx2:Xo TX (Kz (Kw W0) (OS++(Zq++(J2++(F1.us.map (dR 3)++L2))))) ids (tl++QK) ⟨x1.p,jO g1 c1,jO g2 c2,jO g3 c3,.wrap mwf x1.d,x1.low⟩:=⟨aBv.mono Le.kk,⟨aHL,hx1.Fp⟩,hx1.sh,hx1.zx.mono (Le.zz fun x hx=>bH _ hx),by show x1.d.dep+1<=1;omega⟩
  refine AQ 7 O (J0.sub (sP (sP (sP (sP (sP (sP (sP (sP (sP (sP (sP (sP (sP (sP (sP (sP (sP (sA (sA sR)))))))))))))))))))) (fA Cb 2 O sizeOf117 TW)<|AD<|bk J0 (i:=0) O (P7 (sub:=[jO g1 c1,jO g2 c2,jO g3 c3]) (c':=Xn ⟨x1.p,jO g1 c1,jO g2 c2,jO g3 c3,.wrap mwf x1.d,x1.low⟩) O O O (by simp[Value.oneCell',jO]) (J0.blk (i:=0) O) (by simp[rF]) O)<|fun aQ1 Xh=> ?_
  simp only[z2,dr,pull]at Xh
  refine aa<|SR<|V (aG di O uA (Xh.cell (i:=4) O (v:=Pn _ _) O))<|V (af O)<|V (fA cr 1 O uq O)<|lV o5 Xh 5 O O rfl<|V (aC (Xh.sl (i:=9) O) O o5 O)<|lK Xh (aS Tryz.zeroValue3)<|fun aka aFn Q1=>bk Q1 (i:=0) O (bM O O (v:=I _) O O O (Q1.blk (i:=0) O) az)<|fun ae3 xD=> ?_
  simp only[z2,dr,pull]at xD
  refine aa<|ai<|fW (z:=⟨none,_,_,_,_,none⟩) aP O aP xD (sP (sP (sP (sP (sP (sP (sP (sP (sP (sP (sQ (sP (sP (sP (sP (sP (sP (sP (sA sR)))))))))))))))))))<|fun atZ Di=>have zq:=Di.sub (sP (sP (sP (sP (sP (sP (sP (sP (sP (sP (sQ (sP (sP (sP (sP (sP (sP (sP (sA sR)))))))))))))))))));AT 0 O zq (fun w hS=>aG di O uA (hS.cell (i:=5) O (v:=Pn _ _) O))<|AT 1 O zq (fun w hS=>aG di O uA (hS.cell (i:=5) O (v:=Pn _ _) O))<|AQ 2 O zq (af O)<|AQ 3 O zq (fA cr 1 O uq O)<|tV 4 O zq o5 6 O O rfl<|AT 5 O zq (fun w hS=>cA (cs:=Xn _) Cb O O TW (bj (hS.blk (i:=1) O)))<|A1 6<|cH O aD O Di (sP (sP (sP (sP (sP (sP (sP (sP (sP (sP (sQ (sP (sP (sP (sP (sP (sP (sP (sA sR))))))))))))))))))) (f:=fun b=> .slice (some ⟨b,0,none⟩) 1 1) (ox rF o5 O O O (l:=[⟨x1.p,jO g1 c1,jO g2 c2,jO g3 c3,.wrap mwf x1.d,x1.low⟩]) O az az O)<|fun aHO aHP Hq=>A1 7<|SZ (a:=⟨x1.p,jO g1 c1,jO g2 c2,jO g3 c3,.wrap mwf x1.d,x1.low⟩) O aD rF az O Hq (i:=11) O (fun _=>(sQ (sP (sP (sP (sP (sP (sP (sP (sP (sP (sP (sQ (sP (sP (sP (sP (sP (sP (sP (sA sR))))))))))))))))))))) (Hp.iu rF Hq (i:=0) (l:=[⟨x1.p,jO g1 c1,jO g2 c2,jO g3 c3,.wrap mwf x1.d,x1.low⟩]) O gd) O O o5 O O (bytes:=120) O O O (fun u hu=>GY hx2 u q5) J az<|fun ak3 aoQ n9=> ?_
  simp only[z2,dr,pull]at n9
  refine AQ 8 O (n9.sub (sQ (sP (sP (sP (sP (sP (sP (sP (sP (sP (sP (sQ (sP (sP (sP (sP (sP (sP (sP (sA sR))))))))))))))))))))) (af O)<|AQ 9 O (n9.sub (sQ (sP (sP (sP (sP (sP (sP (sP (sP (sP (sP (sQ (sP (sP (sP (sP (sP (sP (sP (sA sR))))))))))))))))))))) (fA cr 1 O uq O)<|AD<|bk n9 (i:=7) O (bM O O (v:=ak3) O (a6 (n9.get (i:=11) O)).1 (a6 (n9.get (i:=11) O)).2 (n9.blk (i:=7) O) aJ)<|fun at1 xE=> ?_
  simp only[jh,kZ,nW,gO,Nat.reduceAdd]at xE
  refine aa<|SR<|V (aG di O uA (xE.cell (i:=6) O (v:=Pn _ _) O))<| ?_
  refine V (s6 uA bA) ?_
  refine cD O (iL _ _ (.bf s.aq.length) J _ (xE.pj [7,7,7,7,7,7,7,7,7,7,7,7])) (aM zP O O) ?_
  rintro _ aQ2 ⟨rfl,aHQ,aq6⟩
  simp only[nE]at aq6
  have aq7:=aq6.pk [12,12,12,12,12,12,12]
  refine aa<|SR<|lI bx aq7 1 O O rfl<|aI rfl<|aa<|aj<|have Hj:=Hp.mK (A:=[_,_,_,_,_,_,_,_,_,_,_,_]) (B:=[_,_]) (R:=Z1) ((aq7.sub (sQ (sP (sQ (sQ (sQ (sQ sR))))))).pj [2,2,2,2,2,2,2,2,2,2,2,2,1]);have hmv:∀b o,bu.blk b o∈(OS++(Zq++(J2++(F1.us.map (dR 3)++L2))))->bu.blk b o∈([bu.blk b9 (.cells #[pt n] 31 (0,0)),bu.blk aka (.cells #[I s.aq.length] 3 (0,0))]++(OS++(Zq++(J2++L2)))):=(fun b o hb=>by have h2:=S8 (A:=OS++Zq++J2) (gs:=F1.us) (t:=3) (B:=L2) (by simpa only[dG]using hb);simp only[dG]at h2;exact bH _ h2);jA (v:=I s.aq.length) O O (.inr ⟨ku,⟨x1.p,jO g1 c1,jO g2 c2,jO g3 c3,.wrap mwf x1.d,x1.low⟩,(jO 54 #[pt b9,pt aka]),QK,([bu.blk b9 (.cells #[pt n] 31 (0,0)),bu.blk aka (.cells #[I s.aq.length] 3 (0,0))]++(OS++(Zq++(J2++L2)))),_,Z1,ku,rfl,?_,?_,⟨fun q=>absurd (q.symm.trans ‹ai0 s.wr=true›) Lh,by show x1.d.dep+1<=1;omega⟩,(fun b o hb=>(fun e he=>bH _ (bH _ (bH _ (bH _ (he))))) _ (ON b o hb)),hx2.mono (Le.zb hmv),?_,JZ,V7,⟨{F1 with vL:=ak3,vm:=v27,vd:=aHQ},([bu.blk b9 (.cells #[pt n] 31 (0,0)),bu.blk aka (.cells #[I s.aq.length] 3 (0,0))]++(OS++(Zq++(J2++L2)))),⟨zB.fo.mono (fun e he=>bH _ (bH _ (bH _ (bH _ (he))))),zB.us⟩,fun _ _ q=>q,rfl⟩,Hp.us4 (A:=[_,_,_,_,_,_,_,_,_,_,_,_]) Hj⟩)
  .show x1.p.sh=p.sh;rw[hxp];exact hps
  .show x1.low=_;rw[U0,hxp];exact aK (fun q=>gJ q ew) hps
  exact⟨_,_,rfl,aJ,aJ⟩
 refine an<|SR<|V (aG di O uA (wH.cell (i:=4) O (v:=Pn _ _) O))<|V (af O)<|V (fA cr 1 O uq O)<|lV o5 wH 5 O O rfl<|V (aC (wH.sl (i:=9) O) O o5 O)<|lK wH (aS Tryz.zeroValue3)<|fun aoR aGQ JV=>bk JV (i:=0) O (bM O O (v:=I _) O O O (JV.blk (i:=0) O) az)<|fun aFq JR=> ?_
 simp only[z2,dr,pull]at JR
 refine aa<|ai<|fW (z:=⟨none,_,_,_,_,none⟩) aP O aP JR (sP (sP (sP (sP (sP (sP (sP (sP (sP (sP (sQ (sP (sP (sP (sP (sP (sP (sP (sA sR)))))))))))))))))))<|fun aQ3 aq8=>have Re:=aq8.sub (sP (sP (sP (sP (sP (sP (sP (sP (sP (sP (sQ (sP (sP (sP (sP (sP (sP (sP (sA sR)))))))))))))))))));AT 0 O Re (fun w hS=>aG di O uA (hS.cell (i:=5) O (v:=Pn _ _) O))<|AT 1 O Re (fun w hS=>aG di O uA (hS.cell (i:=5) O (v:=Pn _ _) O))<|AQ 2 O Re (af O)<|AQ 3 O Re (fA cr 1 O uq O)<|tV 4 O Re o5 6 O O rfl<|AT 5 O Re (fun w hS=>cA (cs:=Xn _) Cb O O TW (bj (hS.blk (i:=1) O)))<|A1 6<|cH O aD O aq8 (sP (sP (sP (sP (sP (sP (sP (sP (sP (sP (sQ (sP (sP (sP (sP (sP (sP (sP (sA sR))))))))))))))))))) (f:=fun b=> .slice (some ⟨b,0,none⟩) 1 1) (ox rF o5 O O O (l:=[x1]) O az az O)<|fun aQ4 aQ5 aq9=>A1 7<|SZ (a:=x1) O aD rF az O aq9 (i:=11) O (fun _=>(sQ (sP (sP (sP (sP (sP (sP (sP (sP (sP (sP (sQ (sP (sP (sP (sP (sP (sP (sP (sA sR))))))))))))))))))))) (Hp.iu rF aq9 (i:=0) (l:=[x1]) O gd) O O o5 O O (bytes:=120) O O O (fun u hu=>GY hx1 u q5) J az<|fun aBw aQ6 Hw=> ?_
 simp only[z2,dr,pull]at Hw
 refine AQ 8 O (Hw.sub (sQ (sP (sP (sP (sP (sP (sP (sP (sP (sP (sP (sQ (sP (sP (sP (sP (sP (sP (sP (sA sR))))))))))))))))))))) (af O)<|AQ 9 O (Hw.sub (sQ (sP (sP (sP (sP (sP (sP (sP (sP (sP (sP (sQ (sP (sP (sP (sP (sP (sP (sP (sA sR))))))))))))))))))))) (fA cr 1 O uq O)<|AD<|bk Hw (i:=7) O (bM O O (v:=aBw) O (a6 (Hw.get (i:=11) O)).1 (a6 (Hw.get (i:=11) O)).2 (Hw.blk (i:=7) O) aJ)<|fun aFs Ow=> ?_
 simp only[jh,kZ,nW,gO,Nat.reduceAdd]at Ow
 refine aa<|SR<|V (aG di O uA (Ow.cell (i:=6) O (v:=Pn _ _) O))<| ?_
 refine V (s6 uA bA) ?_
 refine cD O (iL _ _ (.bf s.aq.length) J _ (Ow.pj [7,7,7,7,7,7,7,7,7,7,7,7])) (aM zP O O) ?_
 rintro _ aQ7 ⟨rfl,v175,ara⟩
 simp only[nE]at ara
 have W4:=ara.pk [12,12,12,12,12,12,12]
 refine aa<|SR<|lI bx W4 1 O O rfl<|aI rfl<|aa<|aj<|have aBx:=Hp.mK (A:=[_,_,_,_,_,_,_,_,_,_,_,_]) (B:=[_,_]) (R:=Z1) ((W4.sub (sQ (sP (sQ (sQ (sQ (sQ sR))))))).pj [2,2,2,2,2,2,2,2,2,2,2,2,1]);have hmv:∀b o,bu.blk b o∈(Zq++(J2++(F1.us.map (dR 3)++L2)))->bu.blk b o∈([bu.blk b9 (.cells #[pt n] 31 (0,0)),bu.blk aoR (.cells #[I s.aq.length] 3 (0,0))]++(Zq++(J2++L2))):=(fun b o hb=>by have h2:=S8 (A:=Zq++J2) (gs:=F1.us) (t:=3) (B:=L2) (by simpa only[dG]using hb);simp only[dG]at h2;exact bH _ h2);jA (v:=I s.aq.length) O O (.inr ⟨ku,x1,(jO 54 #[pt b9,pt aoR]),QK,([bu.blk b9 (.cells #[pt n] 31 (0,0)),bu.blk aoR (.cells #[I s.aq.length] 3 (0,0))]++(Zq++(J2++L2))),_,Z1,ku,rfl,?_,?_,⟨fun _=>hxd,J⟩,(fun b o hb=>(fun e he=>bH _ (bH _ (bH _ (he)))) _ (ON b o hb)),hx1.mono (Le.zb hmv),?_,JZ,V7,⟨{F1 with vL:=aBw,vm:=v27,vd:=v175},([bu.blk b9 (.cells #[pt n] 31 (0,0)),bu.blk aoR (.cells #[I s.aq.length] 3 (0,0))]++(Zq++(J2++L2))),⟨zB.fo.mono (fun e he=>bH _ (bH _ (bH _ (he)))),zB.us⟩,fun _ _ q=>q,rfl⟩,Hp.us3 (A:=[_,_,_,_,_,_,_,_,_,_,_,_]) aBx⟩)
 .show x1.p.sh=p.sh;rw[hxp];exact hps
 .show x1.low=_;rw[U0,hxp];exact aK (fun q=>gJ q ew) hps
 exact⟨_,_,rfl,aJ,aJ⟩
theorem Ky(k:Int)(v:Value)(l:List dV)(t:iT)(w:World)(hb:w.heap[n]?=some (.cells #[wr,vL,vt,vv,vy,vu,vq,I sn,vW,vU,vT,I cn,B sk,U wy,vd,vm] 111 (0,0)))(hL:Sl w vL 13 aq.length (aq.flatMap Xn))(ht:Sl w vt 1 bf.length (bf.map I))(hc:Sl w v 10 l.length (l.flatMap kg))(hls:∀x∈aq,k8 (Kw w) x.p)(hT:o6 w):Calls Tryz.prog 56 #[pt n,I k,v,.agg (jJ t).toArray] w (Pure (B (wP aq bf k l t)) w):=by
 have hm3:=hc.small
 unfold maxLen at hm3
 refine eH func56 rfl rfl fun hH=>SR<|gN hH (v:= .agg _) rfl<|fun b3 w1 bp=>va (v:=B false) rfl<|aa<|ai<|SR<|mI rfl<|V (aN O O)<|mB rfl<|bK 14 O (fun h5=> ?_) (fun h5=> ?_)
 .refine aE (v:=B true) rfl<|mB rfl<|cC O rfl<|aE (v:=B true) rfl<|aa<|ct rfl<|SR<|va (v:=B false) rfl<|aa<|aj<|oB O ?_ bp
  exact(Ny J).symm
 refine mI rfl<|aE (v:=Pn _ _) rfl<|V (af O)<|V (fA cr 1 O uq O)<|V (aG o5 O O (bp.eP hb O))<|V (aC (hL.hp bp) O o5 O)<|V (dF O O)<|mB rfl<|mB rfl<|bK 23 O (fun h7=> ?_) (fun h7=> ?_)
 .refine aE (v:=B true) rfl<|aa<|ct rfl<|SR<|va (v:=B false) rfl<|aa<|aj<|oB O ?_ bp
  exact(Ny J).symm
 refine V (run_move bA) ?_
 refine aH O bp (Hf _ _ _ (hc.hp bp)) (ay call103 O)<|fun w8 iE=>V (bJ O)<|mB rfl<|aa<|bW O (fun h12=> ?_) (fun h12=> ?_)
 .refine SR<|va (v:=B false) rfl<|aa<|aj<|oB O ?_ iE
  exact(ai2 (nt ‹(!fU _)=true›)).symm
 refine an<|SR<|aE (v:=Pn _ _) rfl<|V (af O)<|V (fA cr 1 O uq O)<|V (aG o5 O O (iE.eP hb O))<|mI rfl<|V (ah (hL.hp iE) o5 sizeOf119 O O J)<|V (fA Cb 0 O vi O)<|V (l7 (dv:=pT) (off:=0) (cs:=yd _) rF (hL.hp iE) dw O O O J (ahm O))<|lK iE (aS Tryz.zeroValue56)<|fun b15 C2 cG=>have HB:0<=k/\k<aq.length:=J;bk cG (i:=0) O (dO O O O (ai1 (hls _ (dy HB.1 HB.2))) (cG.blk (i:=0) O) O)<|fun Ja er=>aa<|ai<|SR<| ?_
 refine V (run_move bA) ?_
 refine V (aC (hc.hp er) O ia O)<|aE (v:=I 0) rfl<|aa<|aA<|bt (G:=Int) (fun q s' w'=>(Fr (8::(11::(rg 38 28 []))) _ s')/\(Hp w w' _)/\(s' 38=I q)/\(0<=q)/\(q<=l.length)/\(∀j:Int,0<=j->j<q->FL aq bf k (l.getD j.toNat bG)=true)) (fun q=>(l.length-q).toNat) (0) ⟨Fr.refl _ _,er,rfl,J,J,fun j a b=>absurd b J⟩<| ?_
 rintro q aoc K9 ⟨rV,dP,Jv,h0,hq,hg⟩
 obtain⟨arb,JP,ak4,ak5,au6,au7⟩:=rV.w6 0 1 7 9 36 37
 refine SR<|V (aN Jv au7)<|aa<|ai<|aF O (fun O0=> ?_) (fun O0=> ?_)
 .refine an<|ai<|aA<|SR<|V (ah (hc.hp dP) ia po au6 Jv J)<|V (dZ (dv:=bG) gP (hc.hp dP) dY O O O J)<|lK dP (aS y8)<|fun b23 NU cF=>bk cF (i:=0) O (dO (c':=(kg _).toArray) O O O (vV _) (cF.blk (i:=0) O) O)<|fun Wx dK=>aa<|SR<|V (fA dY 0 O aO O)<|lI bx dK 0 O O rfl<|V (bV O O)<|mB rfl<|bK 45 O (fun rK=> ?_) (fun rK=> ?_)
  .refine aE arb<|V (fA dY 1 O aO O)<|lI bx dK 0 O O rfl<|aE JP<|aH O dK (EX _ _ _ (dK.ext hb) (ht.hp dK)) (bz call104 O O O)<|fun w30 gU=>V (vz O)<|mB rfl<|mB rfl<|bK 53 O (fun BK=> ?_) (fun BK=> ?_)
   .refine gm O O rfl<|gm O O rfl<|gm O O rfl<|gm O O rfl<|gm O O rfl<|zV<|aE (v:=B true) rfl<|aa<|ct rfl<|SR<|va (v:=B false) rfl<|aa<|aj<|oB O ?_ gU
    exact(V8 h0 ‹q<_› (ai3 ‹(List.getD l _ _).op=1› lA)).symm
   refine V (fA dY 0 O aO O)<|lI bx gU 0 O O rfl<|V (bV O O)<|mB rfl<|bK 57 O (fun h37=> ?_) (fun h37=> ?_)
   .refine V (cA (cs:=[B _,_]) dw O O ak5 (bj (gU.blk (i:=1) O)))<|V (fA dY 2 O fl O)<|V (nr bI O O O (gU.blk (i:=0) O) (DR _))<|aH O gU (AV _ _ _ ((hls _ (dy HB.1 HB.2)).mono gU.kw) (hT.hp gU)) (aM call105 O O)<|fun w38 kF=>V (bJ O)<|mB rfl<|mB rfl<|aa<|bW O (fun h42=> ?_) (fun h42=> ?_)
    .refine SR<|va (v:=B false) rfl<|aa<|aj<|oB O ?_ kF
     exact(Ny J).symm
    refine an<|au<|V (ax Jv O J)<|mI rfl<|aa<| ?_
    refine⟨q+1,aW,rV.u4.u4.u4.u4.u4.u4.u4.u1,(kF.sub (sQ sR)),(aK I aL),J,J,?_⟩
    exact fun j a b=>if e:j=q then e▸CU aa2 (by exact .inr (nf ‹(!cJ _ _)=false›))else hg j a J
   refine aE (v:=B false) rfl<|mB rfl<|aa<|cL rfl<|an<|au<|V (ax Jv O J)<|mI rfl<|aa<| ?_
   refine⟨q+1,aW,rV.u4.u4.u4.u4.u4.u4.u4.u1,(gU.sub (sQ sR)),(aK I aL),J,J,?_⟩
   exact fun j a b=>if e:j=q then e▸CU aa2 (by exact .inl ‹¬(List.getD l _ _).op=2›)else hg j a J
  refine aE (v:=B false) rfl<|mB rfl<|cC O rfl<|V (fA dY 0 O aO O)<|lI bx dK 0 O O rfl<|V (bV O O)<|mB rfl<|bK 57 O (fun h44=> ?_) (fun h44=> ?_)
  .refine V (cA (cs:=[B _,_]) dw O O ak5 (bj (dK.blk (i:=1) O)))<|V (fA dY 2 O fl O)<|V (nr bI O O O (dK.blk (i:=0) O) (DR _))<|aH O dK (AV _ _ _ ((hls _ (dy HB.1 HB.2)).mono dK.kw) (hT.hp dK)) (aM call105 O O)<|fun w45 oe=>V (bJ O)<|mB rfl<|mB rfl<|aa<|bW O (fun h49=> ?_) (fun h49=> ?_)
   .refine SR<|va (v:=B false) rfl<|aa<|aj<|oB O ?_ oe
    exact(V8 h0 ‹q<_› (ai4 ‹(List.getD l _ _).op=2› (nt ‹(!cJ _ _)=true›))).symm
   refine an<|au<|V (ax Jv O J)<|mI rfl<|aa<| ?_
   refine⟨q+1,aW,rV.u4.u4.u4.u4.u4.u4.u4.u1,(oe.sub (sQ sR)),(aK I aL),J,J,?_⟩
   exact fun j a b=>if e:j=q then e▸CU aa0 (by exact .inr (nf ‹(!cJ _ _)=false›))else hg j a J
  refine aE (v:=B false) rfl<|mB rfl<|aa<|cL rfl<|an<|au<|V (ax Jv O J)<|mI rfl<|aa<| ?_
  refine⟨q+1,aW,rV.u4.u4.u4.u4.u4.u4.u4.u1,(dK.sub (sQ sR)),(aK I aL),J,J,?_⟩
  exact fun j a b=>if e:j=q then e▸CU aa0 (by exact .inl ‹¬(List.getD l _ _).op=2›)else hg j a J
 refine a8 (id:=0) rfl<|ai<|SR<|V (fA kM 0 O aO ak4)<|lI bx dP 1 O O rfl<|V (aN O O)<|aa<|aF O (fun h51=> ?_) (fun h51=> ?_)
 .refine SR<|V (cA (cs:=[B _,_]) dw O O ak5 (bj (dP.blk (i:=0) O)))<|V (fA kM 1 O fl ak4)<|V (nr bI O O O (dP.blk (i:=1) O) (Ve _))<|aH O dP (AV _ _ _ ((hls _ (dy HB.1 HB.2)).mono dP.kw) (hT.hp dP)) (aM call105 O O)<|fun w52 jD=>aB rfl<|aa<|aj<|oB O ?_ jD
  (rw[Nz HB (nf ‹(!fU _)=false›) ‹¬q<_› hg];((rw[anz ‹t.var<0›];rfl)))
 refine an<|SR<|aE arb<|V (fA kM 0 O aO ak4)<|lI bx dP 1 O O rfl<|aE JP<|aH O dP (EX _ _ _ (dP.ext hb) (ht.hp dP)) (bz call104 O O O)<|fun w55 ni=>aB rfl<|aa<|aj<|oB O ?_ ni
 (rw[Nz HB (nf ‹(!fU _)=false›) ‹¬q<_› hg];(rw[anA ‹¬t.var<0›]))
theorem OT{s:NP}{R L0 Z:List bu}(l:Int)(hm:m<=90000)(hok:Ea s)(hlg:lg.length<=550000000000)(htm:tm.length<=100000000)(w:World)(hZ:wD n m s lg tm R L0 Z)(hH:Hp W0 w Z):Calls Tryz.prog 18 #[pt n,I l] w (jY fun u w'=>(¬(s.sk=false/\0<=l/\l<s.aq.length)/\u=I (-1)/\∃Z',wD n m s lg tm R L0 Z'/\Hp W0 w' Z')\/(s.sk=false/\(0<=l/\l<s.aq.length)/\u=I s.ak.length/\∃(fv:Value) (L1 Z':List bu),(∀b o,bu.blk b o∈L0->bu.blk b o∈L1)/\nh NX n L1 (fv,.var s.ak.length ((s.cs.length:Int)-1))/\iP [(fv,.var s.ak.length ((s.cs.length:Int)-1))] s (qP s l (s.aq.getD l.toNat pT).low)/\wD n (m+1) (qP s l (s.aq.getD l.toNat pT).low) (lg++[(fv,.var s.ak.length ((s.cs.length:Int)-1))]) (tm++[(lg.length:Int)]) R L1 Z'/\Hp W0 w' Z')):=by
 have QF:=hok.QF
 have hlt:=hok.hlt
 have T9:=hok.T9
 have OX:=hok.OX
 have hgu:∀F:NF,qh F.us=s.us->F.us.length=s.us.length:=fun F e=>by rw[<-e,gA]
 refine enter func18 rfl ntmps18 rfl ?_
 obtain⟨F1,L2,zB,ON,rfl⟩:=hZ
 have bY:=hH
 simp only[NZ,nE]at bY
 have jQ:=bY
 rw[<-dG]at jQ
 refine SR<|gN jQ (v:=Pn _ _) rfl<|fun b9 w7 eW=>va (v:=I 0) rfl<|aa<|ai<|SR<|lP di eW 0 O O rfl<|aH O eW (o3 _ (eW.blk (i:=1) O)) (ay call40 O)<|fun EL df=>V (bJ O)<|mB rfl<|ez 10 O (fun Ga=> ?_) (fun Ga=> ?_)
 .refine aE (v:=B true) rfl<|mB rfl<|cC O rfl<|aE (v:=B true) rfl<|aa<|ct rfl<|SR<|va (v:=I (-1)) rfl<|aa<|aj<|jA (v:=I (-1)) O O (.inl ⟨by simp_all;try omega,rfl,_,⟨F1,L2,zB,ON,rfl⟩,by rw[dG]at*;exact(df.sub (sQ sR))⟩)
 refine mI rfl<|V (aN O O)<|mB rfl<|mB rfl<|bK 14 O (fun ym=> ?_) (fun ym=> ?_)
 .refine aE (v:=B true) rfl<|aa<|ct rfl<|SR<|va (v:=I (-1)) rfl<|aa<|aj<|jA (v:=I (-1)) O O (.inl ⟨by simp_all;try omega,rfl,_,⟨F1,L2,zB,ON,rfl⟩,by rw[dG]at*;exact(df.sub (sQ sR))⟩)
 refine mI rfl<|lP di df 0 O O rfl<|V (af O)<|V (fA cr 1 O uq O)<|lV o5 df 1 O O rfl<|V (aC (df.sl (i:=5) O) O o5 O)<|V (dF O O)<|mB rfl<|aa<|aF O (fun qn=> ?_) (fun qn=> ?_)
 .refine SR<|va (v:=I (-1)) rfl<|aa<|aj<|jA (v:=I (-1)) O O (.inl ⟨by simp_all;try omega,rfl,_,⟨F1,L2,zB,ON,rfl⟩,by rw[dG]at*;exact(df.sub (sQ sR))⟩)
 refine an<|SR<|lP di df 0 O O rfl<|cD O (p8 J _ (df.pj [1,1,1,1,1,1,1,1,1,1,1,1])) (ay call41 O)<| ?_
 rintro _ NU ⟨rfl,v23,cF⟩
 simp only[nE]at cF
 have gY:=cF.pk [12]
 refine aa<|SR<|lP di gY 0 O O rfl<|V (af O)<|V (fA cr 3 O jq O)<|lV bU gY 1 O O rfl<|V (aC (gY.sl (i:=7) O) O bU O)<|lK gY (aS Tryz.zeroValue3)<|fun b27 w25 jg=>bk jg (i:=0) O (bM O O (v:=I _) O O O (jg.blk (i:=0) O) az)<|fun w30 gU=>aa<|ai<|fW (z:=⟨none,_,_,_,_,none⟩) aP O aP gU (sP (sP (sP (sP (sP (sP (sP (sQ sR))))))))<|fun w32 ko=>have OI:=ko.sub (sP (sP (sP (sP (sP (sP (sP (sQ sR))))))));tP 0 O OI di 1 O O rfl<|tP 1 O OI di 1 O O rfl<|AQ 2 O OI (af O)<|AQ 3 O OI (fA cr 2 O dH O)<|tV 4 O OI bD 2 O O rfl<|AQ 5 O OI (mV (I _) O)<|A1 6<|cH O aD O ko (sP (sP (sP (sP (sP (sP (sP (sQ sR)))))))) (f:=fun b=> .slice (some ⟨b,0,none⟩) 1 1) (cB bD O O (sz:=1) (vs:=[I _]) O O az az O O)<|fun b36 w34 uW=> ?_
 (try simp only[lj]at uW)
 refine A1 7<|SY O aD O uW (i:=8) O (fun _=>(sQ (sP (sP (sP (sP (sP (sP (sP (sQ sR)))))))))) (uW.dS (i:=0) (n:=1) (sz:=1) O O az) O O bD O O (bytes:=8) O O O O J az<|fun v39 w40 jU=>AQ 8 O (jU.sub (sQ (sP (sP (sP (sP (sP (sP (sP (sQ sR)))))))))) (af O)<|AQ 9 O (jU.sub (sQ (sP (sP (sP (sP (sP (sP (sP (sQ sR)))))))))) (fA cr 2 O dH O)<|AD<|bk jU (i:=3) O (bM O O (v:=v39) O (a6 (jU.get (i:=8) O)).1 (a6 (jU.get (i:=8) O)).2 (jU.blk (i:=3) O) aJ)<|fun w42 mo=> ?_
 simp only[jh,kZ,nW,gO,Nat.reduceAdd]at mo
 refine aa<|ai<|fW (z:=⟨none,_,_,_,_,none⟩) aP O aP mo (sP (sP (sP (sP (sP (sP (sP (sP (sP (sQ sR))))))))))<|fun w44 rY=>have Jw:=rY.sub (sP (sP (sP (sP (sP (sP (sP (sP (sP (sQ sR))))))))));tP 0 O Jw di 2 O O rfl<|tP 1 O Jw di 2 O O rfl<|AQ 2 O Jw (af O)<|AQ 3 O Jw (fA cr 3 O jq O)<|tV 4 O Jw bU 3 O O rfl<|tP 5 O Jw di 2 O O rfl<|AQ 6 O Jw (af O)<|AQ 7 O Jw (fA cr 1 O uq O)<|tV 8 O Jw o5 3 O O rfl<|AQ 9 O Jw (mV (I _) O)<|AT 10 O Jw (fun w hS=>ah (hS.sl (i:=7) O) o5 sizeOf119 O O J)<|AQ 11 O Jw (fA Cb 5 O fl O)<|AT 12 O Jw (fun w hS=>adV (dv:=pT) (off:=5) rF (hS.sl (i:=7) O) bI O O O J (asU _))<|A1 13<|cH O aD O rY (sP (sP (sP (sP (sP (sP (sP (sP (sP (sQ sR)))))))))) (f:=fun b=> .slice (some ⟨b,0,none⟩) 1 1) (fY bU O O O O)<|fun b48 w46 oY=> ?_
 (try simp only[lj]at oY)
 refine A1 14<|SZ (a:=(s.aq.getD l.toNat pT).low) O aD cY az O oY (i:=10) O (fun _=>(sQ (sP (sP (sP (sP (sP (sP (sP (sP (sP (sQ sR)))))))))))) (Hp.iu cY oY (i:=0) (l:=[_]) O gd) O O bU O O (bytes:=64) O O O (fun u hu=>uQ _ u q5) J az<|fun v51 w52 jD=>AQ 15 O (jD.sub (sQ (sP (sP (sP (sP (sP (sP (sP (sP (sP (sQ sR)))))))))))) (af O)<|AQ 16 O (jD.sub (sQ (sP (sP (sP (sP (sP (sP (sP (sP (sP (sQ sR)))))))))))) (fA cr 3 O jq O)<|AD<|bk jD (i:=4) O (bM O O (v:=v51) O (a6 (jD.get (i:=10) O)).1 (a6 (jD.get (i:=10) O)).2 (jD.blk (i:=4) O) aJ)<|fun w54 jC=> ?_
 simp only[jh,kZ,nW,gO,Nat.reduceAdd]at jC
 refine aa<|ai<|fW (z:=⟨none,_,_,_,_,none⟩) aP O aP jC (sP (sP (sP (sP (sP (sP (sP (sP (sP (sP (sP (sQ sR))))))))))))<|fun w56 aaQ=>have ak6:=aaQ.sub (sP (sP (sP (sP (sP (sP (sP (sP (sP (sP (sP (sQ sR))))))))))));tP 0 O ak6 di 3 O O rfl<|tP 1 O ak6 di 3 O O rfl<|AQ 2 O ak6 (af O)<|AQ 3 O ak6 (fA cr 4 O jE O)<|tV 4 O ak6 dh 4 O O rfl<|A1 5<|cH O aD O aaQ (sP (sP (sP (sP (sP (sP (sP (sP (sP (sP (sP (sQ sR)))))))))))) (f:=fun b=> .slice (some ⟨b,0,none⟩) 1 1) (cB dh O O (sz:=1) (vs:=[U 0#64]) O O az az O O)<|fun b60 w58 BT=> ?_
 (try simp only[lj]at BT)
 refine A1 6<|SY O aD O BT (i:=12) O (fun _=>(sQ (sP (sP (sP (sP (sP (sP (sP (sP (sP (sP (sP (sQ sR)))))))))))))) (BT.dS (i:=0) (n:=1) (sz:=1) O O az) O O dh O O (bytes:=8) O O O O J az<|fun v63 w64 wR=>AQ 7 O (wR.sub (sQ (sP (sP (sP (sP (sP (sP (sP (sP (sP (sP (sP (sQ sR)))))))))))))) (af O)<|AQ 8 O (wR.sub (sQ (sP (sP (sP (sP (sP (sP (sP (sP (sP (sP (sP (sQ sR)))))))))))))) (fA cr 4 O jE O)<|AD<|bk wR (i:=5) O (bM O O (v:=v63) O (a6 (wR.get (i:=12) O)).1 (a6 (wR.get (i:=12) O)).2 (wR.blk (i:=5) O) aJ)<|fun w66 TU=> ?_
 simp only[jh,kZ,nW,gO,Nat.reduceAdd]at TU
 refine aa<|ai<|fW (z:=⟨none,_,_,_,_,none⟩) aP O aP TU (sP (sP (sP (sP (sP (sP (sP (sP (sP (sP (sP (sP (sP (sQ sR))))))))))))))<|fun w68 Ek=>have Hx:=Ek.sub (sP (sP (sP (sP (sP (sP (sP (sP (sP (sP (sP (sP (sP (sQ sR))))))))))))));tP 0 O Hx di 4 O O rfl<|tP 1 O Hx di 4 O O rfl<|AQ 2 O Hx (af O)<|AQ 3 O Hx (fA cr 5 O zN O)<|tV 4 O Hx pF 5 O O rfl<|A1 5<|cH O aD O Ek (sP (sP (sP (sP (sP (sP (sP (sP (sP (sP (sP (sP (sP (sQ sR)))))))))))))) (f:=fun b=> .slice (some ⟨b,0,none⟩) 1 1) (cB pF O O (sz:=1) (vs:=[.slice none 0 0]) O O az az O O)<|fun b72 w70 akh=> ?_
 (try simp only[lj]at akh)
 refine A1 6<|SY (a:=de) O aD O akh (i:=14) O (fun _=>(sQ (sP (sP (sP (sP (sP (sP (sP (sP (sP (sP (sP (sP (sP (sQ sR)))))))))))))))) (akh.dS (i:=0) (n:=1) (sz:=1) O O az) O O pF O O (bytes:=24) O O O O (by have:=hgu _ ‹azD _ _ _ _ _›.us;omega) az<|fun v75 w76 OR=>AQ 7 O (OR.sub (sQ (sP (sP (sP (sP (sP (sP (sP (sP (sP (sP (sP (sP (sP (sQ sR)))))))))))))))) (af O)<|AQ 8 O (OR.sub (sQ (sP (sP (sP (sP (sP (sP (sP (sP (sP (sP (sP (sP (sP (sQ sR)))))))))))))))) (fA cr 5 O zN O)<|AD<|bk OR (i:=6) O (bM O O (v:=v75) O (a6 (OR.get (i:=14) O)).1 (a6 (OR.get (i:=14) O)).2 (OR.blk (i:=6) O) aJ)<|fun w78 Eo=> ?_
 simp only[jh,kZ,nW,gO,Nat.reduceAdd]at Eo
 refine aa<|SR<|lP di Eo 5 O O rfl<|V (af O)<|V (fA cr 8 O ph O)<|aH O Eo (akG zB.fo J (Eo.blk (i:=6) O) (Eo.yR (i:=7) O zB.fo.hW) (Eo.sl (i:=9) O)) (ay call46 O)<|fun w80 aoS=>lK aoS (aS Tryz.zeroValue3)<|fun b84 w82 ak7=>bk ak7 (i:=0) O (bM O O (v:=I _) O O O (ak7.blk (i:=0) O) az)<|fun w87 zh=>aa<|SR<|lP di zh 6 O O rfl<|V (af O)<|V (fA cr 8 O ph O)<|cD O (azC zB.fo J (R:=([_,_,_,_,_,_,_,_,_,_,_,_,_,_,_]++(F1.us.map (dR 3)++R))) (zh.pj [7,7,7,7])) (ay call47 O)<| ?_
 rintro _ aAR ⟨rfl,aHS,aHT,aHU,aHV,aHW,W96,aHX,aHY,aHZ,akD,au8,OM⟩
 have JY:=Hp.mK (A:=[_,_,_,_]) (R:=([_,_,_,_,_,_,_,_,_,_,_,_,_,_,_]++(F1.us.map (dR 3)++R))) OM
 simp only[gB,eN]at JY
 have nj:=JY.pk [4,4,4,4,4,4,4]
 refine aa<|SR<|lP di nj 6 O O rfl<| ?_
 refine V (L5 bA bA bA) ?_
 refine cD O (iL _ _ (.var s.ak.length ((s.cs.length:Int)-1)) J _ (nj.pj [7,7,7,7,7,7,7,7,7,7,7,7])) (aM zP O O) ?_
 rintro _ aGg ⟨rfl,aH0,Q4⟩
 simp only[nE]at Q4
 have wH:=Q4.pk [12,12,12,12,12,12,12]
 refine aa<|SR<|lI bx wH 5 O O rfl<|aI rfl<|aa<|aj<|have aBy:=(((wH.sub (sP (sQ (sQ (sQ (sQ sR)))))).pj [3,3,3,3,3,3,3,3,3,3,3,3,2,1])).eR 3 1;have xC:=Hp.aEv (A:=[_,_,_,_,_,_,_,_,_,_,_,_]) (B:=[bu.blk b9 (.cells #[pt n] 31 (0,0)),bu.blk b27 (.cells #[I s.ak.length] 3 (0,0)),bu.blk b84 (.cells #[I ((s.cs.length:Int)-1)] 3 (0,0))]) (U:=(F1.us.map (dR 3))) (R:=R) aBy;jA (v:=I s.ak.length) O O (.inr ⟨ku,J,rfl,(jO 48 #[pt b9,pt b27,pt b84]),([bu.blk b9 (.cells #[pt n] 31 (0,0)),bu.blk b27 (.cells #[I s.ak.length] 3 (0,0)),bu.blk b84 (.cells #[I ((s.cs.length:Int)-1)] 3 (0,0))]++(akD++L2)),_,(fun b o hb=>bH _ (bH _ (ON b o hb))),⟨_,_,_,rfl,aJ,aJ,aJ⟩,ai6 hok.hlt hok.T9 hok.OX zB.fo.ne,⟨{F1 with vW:=aHS,vU:=aHT,vT:=aHU,cW:=aHV,cU:=aHW,W:=W96,ul:=aHX,ts:=aHY,cn:=aHZ,vt:=v39,vv:=v51,vy:=v63,vu:=v75,vd:=aH0,vm:=v23,us:=F1.us++[de]},([bu.blk b9 (.cells #[pt n] 31 (0,0)),bu.blk b27 (.cells #[I s.ak.length] 3 (0,0)),bu.blk b84 (.cells #[I ((s.cs.length:Int)-1)] 3 (0,0))]++(akD++L2)),⟨au8.mono fun e he=>bH _ he,ai7 zB.us⟩,fun _ _ q=>q,rfl⟩,?_⟩)
 simp only[NZ,nE,qP,gV,lT,Cc];exact xC
theorem xI(v:Value)(l:List dV)(hl:l.length<=1000)(w:World)(hs:Sl w v 10 l.length (l.flatMap kg)):Calls Tryz.prog 57 #[v] w (sZ 3 1 (dB l).length ((dB l).map I) w):=by
 have hm:=hs.small
 unfold maxLen at hm
 refine eH func57 rfl rfl fun hH=>SR<|va (v:= .slice none 0 0) rfl<|aa<|SR<|va (v:= .slice none 0 0) rfl<|have jf:=hH.eR 3 1;aa<|ai<|SR<| ?_
 refine V (run_move bA) ?_
 refine V (aC (hs.hp jf) O ia O)<|aE (v:=I 0) rfl<|aa<|aA<|bt (G:=Int×(List Int)×Value) (fun⟨k,m,v3⟩ s' w'=>(Fr (3::(5::6::(rg 9 57 []))) _ s')/\(Hp w w' (.row v3 3 1 (m.length) (m.map I)::_))/\(s' 3=v3)/\(s' 9=I k)/\(0<=k)/\(k<=l.length)/\(m=dB (l.take k.toNat))/\((m.length:Int)<=k)) (fun⟨k,m,v3⟩=>(l.length-k).toNat) ((0,[],(.slice none 0 0:Value))) ⟨Fr.refl _ _,jf,rfl,rfl,J,J,rfl,aJ⟩<| ?_
 rintro⟨k,m,v3⟩ sg2 w2 ⟨U5,bp,Wp,ak8,h0,hk,hm,hml⟩
 obtain⟨aRe,aH1,aH2⟩:=U5.w3 2 7 8
 refine SR<|V (aN ak8 aH2)<|aa<|ai<|aF O (fun h4=> ?_) (fun h4=> ?_)
 .refine an<|ai<|aA<|SR<|V (ah (hs.hp bp) ia po aH1 ak8 J)<|V (dZ (dv:=bG) gP (hs.hp bp) dY O O O J)<|lK bp (aS y8)<|fun b7 w5 jQ=>bk jQ (i:=0) O (dO (c':=(kg _).toArray) O O O (vV _) (jQ.blk (i:=0) O) O)<|fun w8 iE=>aa<|ai<|SR<|V (fA dY 0 O aO O)<|lI bx iE 0 O O rfl<|V (jZ O O)<|mB rfl<|bK 16 O (fun h11=> ?_) (fun h11=> ?_)
  .refine aE (v:=B true) rfl<|aa<|ct rfl<|a8 (id:=1) rfl<|au<|V (ax ak8 O J)<|mI rfl<|aa<| ?_
   refine⟨(k+1,m,v3),aW,U5.u4.u4.u4.u1.u1,(Hp.conv (iE.sub (sQ sR)) aL),Wp,(aK I aL),J,J,?_,J⟩
   rw[jP h0 ‹k<_›,<-hm];((rw[aT J];done))
  refine V (fA dY 1 O aO O)<|lI bx iE 0 O O rfl<|V (aN O O)<|mB rfl<|aa<|aF O (fun To=> ?_) (fun To=> ?_)
  .refine a8 (id:=1) rfl<|au<|V (ax ak8 O J)<|mI rfl<|aa<| ?_
   refine⟨(k+1,m,v3),aW,U5.u4.u4.u4.u1.u1,(Hp.conv (iE.sub (sQ sR)) aL),Wp,(aK I aL),J,J,?_,J⟩
   rw[jP h0 ‹k<_›,<-hm];((rw[aT J];done))
  refine an<|SR<|va (v:=I 0) rfl<|aa<|ai<|aA<|bt (G:=Int) (fun i s' w'=>(Fr (6::(rg 21 15 [])) _ s')/\(Hp w w' _)/\(s' 6=I i)/\(0<=i)/\(i<=m.length)/\(∀j:Nat,j<i.toNat->m.getD j 0<(l.getD k.toNat bG).n)) (fun i=>(m.length-i).toNat) (0) ⟨Fr.refl _ _,iE,rfl,J,J,fun j h=>absurd h J⟩<| ?_
  rintro i Z0 QT ⟨mN,cG,mE,i0,hi,hlt⟩
  have xA:=mN.w1 5
  obtain⟨kE,Bo⟩:=mN.t2 3 Wp 9 ak8
  refine ai<|ai<|ed aP cG<|fun Tm cI=>have tX:=cI;AQ 0 O tX (run_move mE)<|AQ 1 O tX (run_move kE)<|AT 2 O tX (fun w hS=>aC (hS.sl (i:=1) O) O bD O)<|AQ 3 O tX (aN O O)<|AQ 4 O tX (mV (B _) O)<|Cu (dj:=25) O (fun qn=> ?_) (fun qn=> ?_)
  .refine BQ 5 O O (bT qn) cI (run_move kE)<|BQ 6 O O (bT qn) cI (run_move mE)<|AG 7 O O (bT qn) cI (fun w hS=>ah (hS.sl (i:=1) O) bD aO O O J)<|AG 8 O O (bT qn) cI (fun w hS=>aG bx O O ((hS.sl (i:=1) O).cell _ _ (eS J)))<|BQ 9 O O (bT qn) cI (fA dY 1 O aO xA)<|AG 10 O O (bT qn) cI (fun w hS=>aG bx O O (hS.cell (i:=0) O (v:=I _) O))<|BQ 11 O O (bT qn) cI (aN O O)<|AQ 12 O tX (gM (bT qn) (v:=B _) O)<|AD<|aF O (fun O0=> ?_) (fun O0=> ?_)
   .refine an<|aA<|au<|aE mE<|V (ax O O J)<|aI rfl<|aa<| ?_
    refine⟨i+1,aW,mN.u4.u4.u4.u4,cI,(aK I aL),J,J,?_⟩
    exact fun j hj=>if e:j=i.toNat then e▸‹_<_›else hlt j J
   refine a8 (id:=2) rfl<|ai<|ai<|ed aP cI<|fun NU cF=>have aaR:=cF;AQ 0 O aaR (run_move mE)<|AQ 1 O aaR (run_move kE)<|AT 2 O aaR (fun w hS=>aC (hS.sl (i:=1) O) O bD O)<|AQ 3 O aaR (aN O O)<|AQ 4 O aaR (mV (B _) O)<|Cu (dj:=40) O (fun xu=> ?_) (fun xu=> ?_)
   .refine BQ 5 O O (bT xu) cF (run_move kE)<|BQ 6 O O (bT xu) cF (run_move mE)<|AG 7 O O (bT xu) cF (fun w hS=>ah (hS.sl (i:=1) O) bD aO O O J)<|AG 8 O O (bT xu) cF (fun w hS=>aG bx O O ((hS.sl (i:=1) O).cell _ _ (eS J)))<|BQ 9 O O (bT xu) cF (fA dY 1 O aO xA)<|AG 10 O O (bT xu) cF (fun w hS=>aG bx O O (hS.cell (i:=0) O (v:=I _) O))<|BQ 11 O O (bT xu) cF (bV O O)<|AQ 12 O aaR (gM (bT xu) (v:=B _) O)<|AD<|aF O (fun Wt=> ?_) (fun Wt=> ?_)
    .refine a8 (id:=1) rfl<|au<|V (ax Bo O J)<|mI rfl<|aa<| ?_
     refine⟨(k+1,m,v3),aW,(((U5.u4.u4.u4.u1).t mN O)).u4.u4.u4.u4.u4.u4.u4,(Hp.conv (cF.sub (sQ sR)) aL),kE,(aK I aL),J,J,?_,J⟩
     rw[jP h0 ‹k<_›,<-hm];((rw[aX ⟨J,J⟩];exact(aiK (i:=i.toNat) J hlt J).symm))
    refine an<|SR<|aE kE<|tR 1 1 cF (cB bD O O (sz:=1) (vs:=[I 0]) O O az az O O)<|fun b29 w27 iJ=> ?_
    (try simp only[lj]at iJ)
    refine gf O iJ (i:=2) O (iJ.dS (i:=0) (n:=1) (sz:=1) O O az) O O bD O O (size:=1) (bytes:=8) O O O az gX J iz<|fun v30 w31 iC=> ?_
    refine V (run_assign bA) ?_
    refine aa<|ai<|gp aP iC (sP (sP (sQ sR)))<|fun w33 lF=>have ak9:=lF.sub (sP (sP (sQ sR)));?_
    refine AQ 0 O ak9 (run_move bA) ?_
    refine AQ 1 O ak9 (run_move mE)<|AQ 2 O ak9 (ax O O J)<| ?_
    refine AQ 4 O ak9 (run_move bA) ?_
    refine AQ 5 O ak9 (run_move mE)<|gq 3 6 aP ?_ ?_
    .refine cf O aD O lF (sP (sP (sQ sR))) (gD (lF.sl (i:=2) O) bD aO O O J)<|A1 6<|cf O aD O lF (sP (sP (sQ sR))) (gD (lF.sl (i:=2) O) bD aO O O J)<|A1 7<|CG O aD O (qC (c:=m.length-i.toNat) (o:=(i+1).toNat) lF (i:=2) O J bD O O O (Sl.fr (lF.sl (i:=2) O) i.toNat J) Co J (fun u hu=>tN (sw hu))) (fun w' h=>h.sub (sP (sP (sQ sR))))<|fun w41 qQ=>AD<|au<| ?_
     refine V (run_move bA) ?_
     refine aE mE<|V (fA dY 1 O aO xA)<|lI bx qQ 1 O O rfl<|V (ah (qQ.sl (i:=2) O) bD aO O O J)<|Ah qQ (i:=2) O J O (u:=I _) O O O O J<|fun w43 qo=>aa<|au<|V (ax Bo O J)<|mI rfl<|aa<| ?_
     refine⟨(k+1,(m.take i.toNat++(l.getD k.toNat bG).n::m.drop i.toNat),v30),aW,(((U5.u4.u4.u4.u1).t mN O)).u4.u4.u4.u4.u4.u4.u4.u4.u4.u4.u4.u1,(Hp.conv (qo.sub (sQ (sQ sR))) Ck),rfl,(aK I aL),J,J,?_,LQ⟩
     rw[jP h0 ‹k<_›,<-hm];((rw[aX ⟨J,J⟩];exact(Aw (i:=i.toNat) J hlt (fun _=>J)).symm))
    refine cf O aD O lF (sP (sP (sQ sR))) (gD (lF.sl (i:=2) O) bD aO O O J)<|A1 3<|cf O aD O lF (sP (sP (sQ sR))) (gD (lF.sl (i:=2) O) bD aO O O J)<|A1 7<|CG O aD O (qC (c:=m.length-i.toNat) (o:=(i+1).toNat) lF (i:=2) O J bD O O O (Sl.fr (lF.sl (i:=2) O) i.toNat J) Co J (fun u hu=>tN (sw hu))) (fun w' h=>h.sub (sP (sP (sQ sR))))<|fun w51 BS=>AD<|au<| ?_
    refine V (run_move bA) ?_
    refine aE mE<|V (fA dY 1 O aO xA)<|lI bx BS 1 O O rfl<|V (ah (BS.sl (i:=2) O) bD aO O O J)<|Ah BS (i:=2) O J O (u:=I _) O O O O J<|fun w53 gR=>aa<|au<|V (ax Bo O J)<|mI rfl<|aa<| ?_
    refine⟨(k+1,(m.take i.toNat++(l.getD k.toNat bG).n::m.drop i.toNat),v30),aW,(((U5.u4.u4.u4.u1).t mN O)).u4.u4.u4.u4.u4.u4.u4.u4.u4.u4.u4.u1,(Hp.conv (gR.sub (sQ (sQ sR))) Ck),rfl,(aK I aL),J,J,?_,LQ⟩
    rw[jP h0 ‹k<_›,<-hm];((rw[aX ⟨J,J⟩];exact(Aw (i:=i.toNat) J hlt (fun _=>J)).symm))
   refine AK 5 O O (bF xu) cF<|AK 6 O O (bF xu) cF<|AK 7 O O (bF xu) cF<|AK 8 O O (bF xu) cF<|AK 9 O O (bF xu) cF<|AK 10 O O (bF xu) cF<|AK 11 O O (bF xu) cF<|AQ 12 O aaR (ep (bF xu) (v:=B false) O)<|AD<|cL rfl<|an<|SR<|aE kE<|tR 1 1 cF (cB bD O O (sz:=1) (vs:=[I 0]) O O az az O O)<|fun b57 w55 ni=> ?_
   (try simp only[lj]at ni)
   refine gf O ni (i:=2) O (ni.dS (i:=0) (n:=1) (sz:=1) O O az) O O bD O O (size:=1) (bytes:=8) O O O az gX J iz<|fun v58 w59 yy=> ?_
   refine V (run_assign bA) ?_
   refine aa<|ai<|gp aP yy (sP (sP (sQ sR)))<|fun w61 rZ=>have ala:=rZ.sub (sP (sP (sQ sR)));?_
   refine AQ 0 O ala (run_move bA) ?_
   refine AQ 1 O ala (run_move mE)<|AQ 2 O ala (ax O O J)<| ?_
   refine AQ 4 O ala (run_move bA) ?_
   refine AQ 5 O ala (run_move mE)<|gq 3 6 aP ?_ ?_
   .refine cf O aD O rZ (sP (sP (sQ sR))) (gD (rZ.sl (i:=2) O) bD aO O O J)<|A1 6<|cf O aD O rZ (sP (sP (sQ sR))) (gD (rZ.sl (i:=2) O) bD aO O O J)<|A1 7<|CG O aD O (qC (c:=m.length-i.toNat) (o:=(i+1).toNat) rZ (i:=2) O J bD O O O (Sl.fr (rZ.sl (i:=2) O) i.toNat J) Co J (fun u hu=>tN (sw hu))) (fun w' h=>h.sub (sP (sP (sQ sR))))<|fun w69 wA=>AD<|au<| ?_
    refine V (run_move bA) ?_
    refine aE mE<|V (fA dY 1 O aO xA)<|lI bx wA 1 O O rfl<|V (ah (wA.sl (i:=2) O) bD aO O O J)<|Ah wA (i:=2) O J O (u:=I _) O O O O J<|fun w71 Jg=>aa<|au<|V (ax Bo O J)<|mI rfl<|aa<| ?_
    refine⟨(k+1,(m.take i.toNat++(l.getD k.toNat bG).n::m.drop i.toNat),v58),aW,(((U5.u4.u4.u4.u1).t mN O)).u4.u4.u4.u4.u4.u4.u4.u4.u4.u4.u4.u1,(Hp.conv (Jg.sub (sQ (sQ sR))) Ck),rfl,(aK I aL),J,J,?_,J⟩
    rw[jP h0 ‹k<_›,<-hm];((rw[aX ⟨J,J⟩];exact(Aw (i:=i.toNat) J hlt (fun _=>J)).symm))
   refine cf O aD O rZ (sP (sP (sQ sR))) (gD (rZ.sl (i:=2) O) bD aO O O J)<|A1 3<|cf O aD O rZ (sP (sP (sQ sR))) (gD (rZ.sl (i:=2) O) bD aO O O J)<|A1 7<|CG O aD O (qC (c:=m.length-i.toNat) (o:=(i+1).toNat) rZ (i:=2) O J bD O O O (Sl.fr (rZ.sl (i:=2) O) i.toNat J) Co J (fun u hu=>tN (sw hu))) (fun w' h=>h.sub (sP (sP (sQ sR))))<|fun w79 pE=>AD<|au<| ?_
   refine V (run_move bA) ?_
   refine aE mE<|V (fA dY 1 O aO xA)<|lI bx pE 1 O O rfl<|V (ah (pE.sl (i:=2) O) bD aO O O J)<|Ah pE (i:=2) O J O (u:=I _) O O O O J<|fun w81 oZ=>aa<|au<|V (ax Bo O J)<|mI rfl<|aa<| ?_
   refine⟨(k+1,(m.take i.toNat++(l.getD k.toNat bG).n::m.drop i.toNat),v58),aW,(((U5.u4.u4.u4.u1).t mN O)).u4.u4.u4.u4.u4.u4.u4.u4.u4.u4.u4.u1,(Hp.conv (oZ.sub (sQ (sQ sR))) Ck),rfl,(aK I aL),J,J,?_,J⟩
   rw[jP h0 ‹k<_›,<-hm];((rw[aX ⟨J,J⟩];exact(Aw (i:=i.toNat) J hlt (fun _=>J)).symm))
  refine AK 5 O O (bF qn) cI<|AK 6 O O (bF qn) cI<|AK 7 O O (bF qn) cI<|AK 8 O O (bF qn) cI<|AK 9 O O (bF qn) cI<|AK 10 O O (bF qn) cI<|AK 11 O O (bF qn) cI<|AQ 12 O tX (ep (bF qn) (v:=B false) O)<|AD<|cL rfl<|a8 (id:=2) rfl<|ai<|ai<|ed aP cI<|fun w83 lm=>have r5:=lm;AQ 0 O r5 (run_move mE)<|AQ 1 O r5 (run_move kE)<|AT 2 O r5 (fun w hS=>aC (hS.sl (i:=1) O) O bD O)<|AQ 3 O r5 (aN O O)<|AQ 4 O r5 (mV (B _) O)<|Cu (dj:=40) O (fun TY=> ?_) (fun TY=> ?_)
  .refine BQ 5 O O (bT TY) lm (run_move kE)<|BQ 6 O O (bT TY) lm (run_move mE)<|AG 7 O O (bT TY) lm (fun w hS=>ah (hS.sl (i:=1) O) bD aO O O J)<|AG 8 O O (bT TY) lm (fun w hS=>aG bx O O ((hS.sl (i:=1) O).cell _ _ (eS J)))<|BQ 9 O O (bT TY) lm (fA dY 1 O aO xA)<|AG 10 O O (bT TY) lm (fun w hS=>aG bx O O (hS.cell (i:=0) O (v:=I _) O))<|BQ 11 O O (bT TY) lm (bV O O)<|AQ 12 O r5 (gM (bT TY) (v:=B _) O)<|AD<|aF O (fun h88=> ?_) (fun h88=> ?_)
   .refine a8 (id:=1) rfl<|au<|V (ax Bo O J)<|mI rfl<|aa<| ?_
    refine⟨(k+1,m,v3),aW,(((U5.u4.u4.u4.u1).t mN O)).u4.u4.u4.u4.u4.u4.u4,(Hp.conv (lm.sub (sQ sR)) aL),kE,(aK I aL),J,J,?_,J⟩
    rw[jP h0 ‹k<_›,<-hm];((rw[aT J];done))
   refine an<|SR<|aE kE<|tR 1 1 lm (cB bD O O (sz:=1) (vs:=[I 0]) O O az az O O)<|fun b91 w89 oM=> ?_
   (try simp only[lj]at oM)
   refine gf O oM (i:=2) O (oM.dS (i:=0) (n:=1) (sz:=1) O O az) O O bD O O (size:=1) (bytes:=8) O O O az gX J iz<|fun v92 w93 uz=> ?_
   refine V (run_assign bA) ?_
   refine aa<|ai<|gp aP uz (sP (sP (sQ sR)))<|fun w95 pY=>have alb:=pY.sub (sP (sP (sQ sR)));?_
   refine AQ 0 O alb (run_move bA) ?_
   refine AQ 1 O alb (run_move mE)<|AQ 2 O alb (ax O O J)<| ?_
   refine AQ 4 O alb (run_move bA) ?_
   refine AQ 5 O alb (run_move mE)<|gq 3 6 aP ?_ ?_
   .refine cf O aD O pY (sP (sP (sQ sR))) (gD (pY.sl (i:=2) O) bD aO O O J)<|A1 6<|cf O aD O pY (sP (sP (sQ sR))) (gD (pY.sl (i:=2) O) bD aO O O J)<|A1 7<|CG O aD O (qC (c:=m.length-i.toNat) (o:=(i+1).toNat) pY (i:=2) O J bD O O O (Sl.fr (pY.sl (i:=2) O) i.toNat J) Co J (fun u hu=>tN (sw hu))) (fun w' h=>h.sub (sP (sP (sQ sR))))<|fun aBz Bv=>AD<|au<| ?_
    refine V (run_move bA) ?_
    refine aE mE<|V (fA dY 1 O aO xA)<|lI bx Bv 1 O O rfl<|V (ah (Bv.sl (i:=2) O) bD aO O O J)<|Ah Bv (i:=2) O J O (u:=I _) O O O O J<|fun aol nj=>aa<|au<|V (ax Bo O J)<|mI rfl<|aa<| ?_
    refine⟨(k+1,(m.take i.toNat++(l.getD k.toNat bG).n::m.drop i.toNat),v92),aW,(((U5.u4.u4.u4.u1).t mN O)).u4.u4.u4.u4.u4.u4.u4.u4.u4.u4.u4.u1,(Hp.conv (nj.sub (sQ (sQ sR))) Ck),rfl,(aK I aL),J,J,?_,J⟩
    rw[jP h0 ‹k<_›,<-hm];((rw[aX ⟨J,J⟩];exact(Aw (i:=i.toNat) J hlt (fun _=>J)).symm))
   refine cf O aD O pY (sP (sP (sQ sR))) (gD (pY.sl (i:=2) O) bD aO O O J)<|A1 3<|cf O aD O pY (sP (sP (sQ sR))) (gD (pY.sl (i:=2) O) bD aO O O J)<|A1 7<|CG O aD O (qC (c:=m.length-i.toNat) (o:=(i+1).toNat) pY (i:=2) O J bD O O O (Sl.fr (pY.sl (i:=2) O) i.toNat J) Co J (fun u hu=>tN (sw hu))) (fun w' h=>h.sub (sP (sP (sQ sR))))<|fun ayC xC=>AD<|au<| ?_
   refine V (run_move bA) ?_
   refine aE mE<|V (fA dY 1 O aO xA)<|lI bx xC 1 O O rfl<|V (ah (xC.sl (i:=2) O) bD aO O O J)<|Ah xC (i:=2) O J O (u:=I _) O O O O J<|fun auT zl=>aa<|au<|V (ax Bo O J)<|mI rfl<|aa<| ?_
   refine⟨(k+1,(m.take i.toNat++(l.getD k.toNat bG).n::m.drop i.toNat),v92),aW,(((U5.u4.u4.u4.u1).t mN O)).u4.u4.u4.u4.u4.u4.u4.u4.u4.u4.u4.u1,(Hp.conv (zl.sub (sQ (sQ sR))) Ck),rfl,(aK I aL),J,J,?_,J⟩
   rw[jP h0 ‹k<_›,<-hm];((rw[aX ⟨J,J⟩];exact(Aw (i:=i.toNat) J hlt (fun _=>J)).symm))
  refine AK 5 O O (bF TY) lm<|AK 6 O O (bF TY) lm<|AK 7 O O (bF TY) lm<|AK 8 O O (bF TY) lm<|AK 9 O O (bF TY) lm<|AK 10 O O (bF TY) lm<|AK 11 O O (bF TY) lm<|AQ 12 O r5 (ep (bF TY) (v:=B false) O)<|AD<|cL rfl<|an<|SR<|aE kE<|tR 1 1 lm (cB bD O O (sz:=1) (vs:=[I 0]) O O az az O O)<|fun aRf aoT zo=> ?_
  (try simp only[lj]at zo)
  refine gf O zo (i:=2) O (zo.dS (i:=0) (n:=1) (sz:=1) O O az) O O bD O O (size:=1) (bytes:=8) O O O az gX J iz<|fun aBA aum Dh=> ?_
  refine V (run_assign bA) ?_
  refine aa<|ai<|gp aP Dh (sP (sP (sQ sR)))<|fun atY pZ=>have Xi:=pZ.sub (sP (sP (sQ sR)));?_
  refine AQ 0 O Xi (run_move bA) ?_
  refine AQ 1 O Xi (run_move mE)<|AQ 2 O Xi (ax O O J)<| ?_
  refine AQ 4 O Xi (run_move bA) ?_
  refine AQ 5 O Xi (run_move mE)<|gq 3 6 aP ?_ ?_
  .refine cf O aD O pZ (sP (sP (sQ sR))) (gD (pZ.sl (i:=2) O) bD aO O O J)<|A1 6<|cf O aD O pZ (sP (sP (sQ sR))) (gD (pZ.sl (i:=2) O) bD aO O O J)<|A1 7<|CG O aD O (qC (c:=m.length-i.toNat) (o:=(i+1).toNat) pZ (i:=2) O J bD O O O (Sl.fr (pZ.sl (i:=2) O) i.toNat J) Co J (fun u hu=>tN (sw hu))) (fun w' h=>h.sub (sP (sP (sQ sR))))<|fun ae3 xD=>AD<|au<| ?_
   refine V (run_move bA) ?_
   refine aE mE<|V (fA dY 1 O aO xA)<|lI bx xD 1 O O rfl<|V (ah (xD.sl (i:=2) O) bD aO O O J)<|Ah xD (i:=2) O J O (u:=I _) O O O O J<|fun atZ Di=>aa<|au<|V (ax Bo O J)<|mI rfl<|aa<| ?_
   refine⟨(k+1,(m.take i.toNat++(l.getD k.toNat bG).n::m.drop i.toNat),aBA),aW,(((U5.u4.u4.u4.u1).t mN O)).u4.u4.u4.u4.u4.u4.u4.u4.u4.u4.u4.u1,(Hp.conv (Di.sub (sQ (sQ sR))) Ck),rfl,(aK I aL),J,J,?_,LQ⟩
   rw[jP h0 ‹k<_›,<-hm];((rw[aX ⟨J,J⟩];exact(Aw (i:=i.toNat) J hlt (fun _=>J)).symm))
  refine cf O aD O pZ (sP (sP (sQ sR))) (gD (pZ.sl (i:=2) O) bD aO O O J)<|A1 3<|cf O aD O pZ (sP (sP (sQ sR))) (gD (pZ.sl (i:=2) O) bD aO O O J)<|A1 7<|CG O aD O (qC (c:=m.length-i.toNat) (o:=(i+1).toNat) pZ (i:=2) O J bD O O O (Sl.fr (pZ.sl (i:=2) O) i.toNat J) Co J (fun u hu=>tN (sw hu))) (fun w' h=>h.sub (sP (sP (sQ sR))))<|fun aoQ n9=>AD<|au<| ?_
  refine V (run_move bA) ?_
  refine aE mE<|V (fA dY 1 O aO xA)<|lI bx n9 1 O O rfl<|V (ah (n9.sl (i:=2) O) bD aO O O J)<|Ah n9 (i:=2) O J O (u:=I _) O O O O J<|fun at1 xE=>aa<|au<|V (ax Bo O J)<|mI rfl<|aa<| ?_
  refine⟨(k+1,(m.take i.toNat++(l.getD k.toNat bG).n::m.drop i.toNat),aBA),aW,(((U5.u4.u4.u4.u1).t mN O)).u4.u4.u4.u4.u4.u4.u4.u4.u4.u4.u4.u1,(Hp.conv (xE.sub (sQ (sQ sR))) Ck),rfl,(aK I aL),J,J,?_,LQ⟩
  rw[jP h0 ‹k<_›,<-hm];((rw[aX ⟨J,J⟩];exact(Aw (i:=i.toNat) J hlt (fun _=>J)).symm))
 refine a8 (id:=0) rfl<|SR<|aE Wp<| ?_
 refine V (run_assign bA) ?_
 refine aa<|aj<|O3 O O bp (i:=0) O ((by rw[hm,jm J])) ((by rw[hm,jm J]))
theorem OU{s:NP}{R L0 Z:List bu}(k:Int)(v:Value)(l:List dV)(t:iT)(y:BitVec 64)(hok:Ea s)(hll:l.length<=1000)(hlg:lg.length<=550000000000)(htm:tm.length<=100000000)(w:World)(hT:o6 W0)(hls:∀x∈s.aq,k8 (Kz (Kw W0) L0) x.p)(hc:oR (Kz (Kw W0) L0) v 10 l.length (l.flatMap kg))(hZ:wD n m s lg tm R L0 Z)(hH:Hp W0 w Z):Calls Tryz.prog 25 #[pt n,I k,v,.agg (jJ t).toArray,U y] w (jY fun u w'=>(¬(s.sk=false/\wP s.aq s.bf k l t=true)/\u=B false/\∃Z',wD n m s lg tm R L0 Z'/\Hp W0 w' Z')\/(s.sk=false/\wP s.aq s.bf k l t=true/\u=B true/\∃(fv cv vv:Value) (L1 Z':List bu),(∀b o,bu.blk b o∈L0->bu.blk b o∈L1)/\D8 (Kz (Kw W0) L1) (⟨k,cv,l,t,y,vv,dB l⟩:dD)/\nh NX n L1 (fv,.add s.qs.length (⟨k,cv,l,t,y,vv,dB l⟩:dD))/\iP [(fv,.add s.qs.length (⟨k,cv,l,t,y,vv,dB l⟩:dD))] s (BD s (⟨k,cv,l,t,y,vv,dB l⟩:dD))/\wD n m (BD s (⟨k,cv,l,t,y,vv,dB l⟩:dD)) (lg++[(fv,.add s.qs.length (⟨k,cv,l,t,y,vv,dB l⟩:dD))]) (tm++[(lg.length:Int)]) R L1 Z'/\Hp W0 w' Z')):=by
 have hqn:=hok.hqn
 refine enter func25 rfl ntmps25 rfl ?_
 obtain⟨F1,L2,zB,ON,rfl⟩:=hZ
 have bY:=hH
 simp only[NZ,nE]at bY
 have Y6:=hc.mono (Le.zb (K:=Kw W0) ON)
 have aH4:∀x∈s.aq,k8 (Kz (Kw W0) L2) x.p:=fun x hx=>(hls x hx).mono (Le.zb ON)
 have Kx:∀k:Nat,(F1.us.getD k de).l.length<=1000:=fun k=>by rw[<-CT,zB.us];by_cases c:k<s.us.length;exact(hok.yh k c).1;rw[eT,og J];simp
 refine SR<|gN bY (v:=Pn _ _) rfl<|fun b8 w6 eE=>gN eE (v:= .agg _) rfl<|fun b11 w9 cg=>va (v:=B false) rfl<|aa<|ai<|SR<|lP di cg 1 O O rfl<|aH O cg (o3 _ (cg.blk (i:=2) O)) (ay call40 O)<|fun zc bX=>V (bJ O)<|mB rfl<|ez 18 O (fun ym=> ?_) (fun ym=> ?_)
 .refine aE (v:=B true) rfl<|aa<|ct rfl<|SR<|va (v:=B false) rfl<|aa<|aj<|jA (v:=B false) O O (.inl ⟨ku,rfl,_,⟨F1,L2,zB,ON,rfl⟩,(bX.sub (sQ (sQ sR)))⟩)
 refine lP di bX 1 O O rfl<|mI rfl<| ?_
 refine V (run_move bA) ?_
 refine V (cA (cs:=jJ _) kM O O O (bj (bX.blk (i:=0) O)))<|aH O bX (Ky _ _ _ _ _ (bX.blk (i:=2) O) (bX.sl (i:=6) O) (bX.sl (i:=7) O) (Y6.mono (bX.kz (Le.refl _) (fun x hx=>(mT (mT (mT (mT (mT (mT (mT (mT (mT (mT (mT (mT (mT (mT (bH _ (bH _ hx))))))))))))))))))).sl (fun x hx=>(aH4 x hx).mono (bX.kz (Le.refl _) (fun x hx=>(mT (mT (mT (mT (mT (mT (mT (mT (mT (mT (mT (mT (mT (mT (bH _ (bH _ hx))))))))))))))))))) (hT.hp bX)) (jH call56 O O O O)<|fun Tp dP=>V (bJ O)<|mB rfl<|aa<|bW O (fun Ob=> ?_) (fun Ob=> ?_)
 .refine SR<|va (v:=B false) rfl<|aa<|aj<|jA (v:=B false) O O (.inl ⟨ku,rfl,_,⟨F1,L2,zB,ON,rfl⟩,(dP.sub (sQ (sQ sR)))⟩)
 refine an<|SR<|lP di dP 1 O O rfl<|cD O (p8 J _ (dP.pj [2,2,2,2,2,2,2,2,2,2,2,2])) (ay call41 O)<| ?_
 rintro _ w24 ⟨rfl,v26,oc⟩
 simp only[nE]at oc
 have dK:=oc.pk [12,12]
 refine aa<|SR<|lP di dK 1 O O rfl<|V (af O)<|V (fA cr 6 O xT O)<|lV oh dK 2 O O rfl<|V (aC (dK.sl (i:=11) O) O oh O)<|lK dK (aS Tryz.zeroValue3)<|fun b30 w28 gj=>bk gj (i:=0) O (bM O O (v:=I _) O O O (gj.blk (i:=0) O) az)<|fun w33 lF=> ?_
 simp only[z2,dr,pull]at lF
 refine aa<|Fy (G:=(Nat)×(Value)×(Value)×(List bu)) lF (12::(rg 33 9 [])) (fun(L:List bu) (⟨q12,cv,vv,Zq⟩:(Nat)×(Value)×(Value)×(List bu))=> .blk q12 (.cells (qk (⟨k,cv,l,t,y,vv,dB l⟩:dD)).toArray 128 (0,0))::(L.take 15++((F1.us.map (dR 3))++(Zq++(R++L2))))) (fun(⟨q12,cv,vv,Zq⟩:(Nat)×(Value)×(Value)×(List bu)) s'=>(s' 12= .pointer (some ⟨q12,0,none⟩))/\(D8 (Kz (Kw W0) Zq) (⟨k,cv,l,t,y,vv,dB l⟩:dD))) ?_ ?_
 .refine fW (z:=⟨none,_,_,_,_,none⟩) aP O aP lF sR<|fun w35 j7=>have sY:=j7.sub sR;AQ 0 O sY (mV (I _) O)<| ?_
  refine AQ 2 O sY (run_move bA) ?_
  refine AT 4 O sY (fun w hS=>cA (cs:=jJ _) kM O O O (bj (hS.blk (i:=1) O)))<|AQ 5 O sY (mV (U _) O)<| ?_
  refine AQ 6 O sY (run_move bA) ?_
  refine gq 1 9 aP ?_ ?_
  .refine cH O aD O j7 sR (f:=fun b=> .slice (some ⟨b,0,none⟩) 0 0) (s3 ia po)<|fun b39 w37 ux=> ?_
   (try simp only[lj]at ux)
   have lG:=ux.sF 0 10 O az
   refine gq 3 9 aP ?_ ?_
   .refine fT O aD O lG (j:=0) O (fun _=>(sQ sR)) (Y6.mono (lG.kz (Le.refl _) (fun x hx=>(mT (mT (mT (mT (mT (mT (mT (mT (mT (mT (mT (mT (mT (mT (mT (mT (bH _ (bH _ hx))))))))))))))))))))).sl O O ia O O (size:=10) (bytes:=80) O O O az (NB _) J iz<|fun v43 w44 rY=> ?_
    simp only[z2,dr,pull]at rY
    refine gq 7 9 aP ?_ ?_
    .refine L3 O aD O rY (sQ sR) (xI _ _ J _ (Y6.mono (rY.kz (Le.refl _) (fun x hx=>(mT (mT (mT (mT (mT (mT (mT (mT (mT (mT (mT (mT (mT (mT (mT (mT (bH _ (bH _ hx))))))))))))))))))))).sl) (ay call57 O)<|fun v48 w46 oY=>AQ 8 O (oY.sub (sQ (sQ sR))) (dI (vs:=[(0,I k),(1,v43),(2,.agg (jJ t).toArray),(3,U y),(4,v48)]) O (A4 k l t y (dB l) (a6 (oY.get (i:=1) O)).1 (a6 (oY.get (i:=0) O)).1))<|A1 9<|cH O aD O oY (sQ (sQ sR)) (f:=fun b=> .pointer (some ⟨b,0,none⟩)) (aS Tryz.zeroValue128)<|fun b51 w49 eL=>AD<| ?_
     obtain⟨Z52,aH5,aH6,-⟩:=(eL.pj [2]).T4 (Kw W0)
     have jC:Hp _ w49 (_::_::_::_::_::_::_::_::_::_::_::_::_::_::_::_::_::(Z52++((F1.us.map (dR 3))++(R++L2)))):=aH5.HD (L:=[_,_,_,_,_,_,_,_,_,_,_,_,_,_,_,_,_]) (L':=((F1.us.map (dR 3))++(R++L2)))
     have ni:=Hp.mK (A:=[_,_,_,_,_,_,_,_,_,_,_,_,_,_,_,_,_]) (B:=Z52) (R:=(F1.us.map (dR 3))) jC
     simp only[gB,eN]at ni
     obtain⟨Z57,aH7,aH8,-⟩:=(ni.pj [1]).T4 (Kw W0)
     have yy:Hp _ w49 (_::_::_::_::_::_::_::_::_::_::_::_::_::_::_::_::(Z57++((F1.us.map (dR 3))++(Z52++(R++L2))))):=aH7.HD (L:=[_,_,_,_,_,_,_,_,_,_,_,_,_,_,_,_]) (L':=((F1.us.map (dR 3))++(Z52++(R++L2))))
     have Ef:=Hp.mK (A:=[_,_,_,_,_,_,_,_,_,_,_,_,_,_,_,_]) (B:=Z57) (R:=(F1.us.map (dR 3))) yy
     simp only[gB,eN]at Ef
     have zA:D8 (Kz (Kw W0) (Z57++Z52)) (⟨k,v43,l,t,y,v48,dB l⟩:dD):=⟨oR.mono (by simpa using aH6) (Le.zz fun x hx=>bH _ hx),aH8.mono (Le.zz fun x hx=>dL _ hx)⟩
     refine bk Ef (i:=0) O (dO O O O (tO zA) (Ef.blk (i:=0) O) O)<|fun w62 nU=> ?_
     simp only[z2,dr,pull]at nU
     refine aa ?_
     refine⟨((Fr.refl _ _)).u4.u4.u1.u1,(b51,v43,v48,(Z57++Z52)),(Hp.conv nU RV),rfl,?_⟩
     exact zA
    refine cH O aD O rY (sQ sR) (f:=fun b=> .pointer (some ⟨b,0,none⟩)) (aS Tryz.zeroValue128)<|fun b66 w64 wR=>A1 7<|L3 O aD O wR (sQ (sQ sR)) (xI _ _ J _ (Y6.mono (wR.kz (Le.refl _) (fun x hx=>(mT (mT (mT (mT (mT (mT (mT (mT (mT (mT (mT (mT (mT (mT (mT (mT (mT (bH _ (bH _ hx)))))))))))))))))))))).sl) (ay call57 O)<|fun v69 w67 kG=>AQ 8 O (kG.sub (sQ (sQ (sQ sR)))) (dI (vs:=[(0,I k),(1,v43),(2,.agg (jJ t).toArray),(3,U y),(4,v69)]) O (A4 k l t y (dB l) (a6 (kG.get (i:=2) O)).1 (a6 (kG.get (i:=0) O)).1))<|AD<| ?_
    obtain⟨Z70,au9,ava,-⟩:=(kG.pj [2]).T4 (Kw W0)
    have uX:Hp _ w67 (_::_::_::_::_::_::_::_::_::_::_::_::_::_::_::_::_::(Z70++((F1.us.map (dR 3))++(R++L2)))):=au9.HD (L:=[_,_,_,_,_,_,_,_,_,_,_,_,_,_,_,_,_]) (L':=((F1.us.map (dR 3))++(R++L2)))
    have uZ:=Hp.mK (A:=[_,_,_,_,_,_,_,_,_,_,_,_,_,_,_,_,_]) (B:=Z70) (R:=(F1.us.map (dR 3))) uX
    simp only[gB,eN]at uZ
    obtain⟨Z75,aH9,aIa,-⟩:=uZ.T4 (Kw W0)
    have zk:Hp _ w67 (_::_::_::_::_::_::_::_::_::_::_::_::_::_::_::_::(Z75++((F1.us.map (dR 3))++(Z70++(R++L2))))):=aH9.HD (L:=[_,_,_,_,_,_,_,_,_,_,_,_,_,_,_,_]) (L':=((F1.us.map (dR 3))++(Z70++(R++L2))))
    have Eo:=Hp.mK (A:=[_,_,_,_,_,_,_,_,_,_,_,_,_,_,_,_]) (B:=Z75) (R:=(F1.us.map (dR 3))) zk
    simp only[gB,eN]at Eo
    have zA:D8 (Kz (Kw W0) (Z75++Z70)) (⟨k,v43,l,t,y,v69,dB l⟩:dD):=⟨oR.mono (by simpa using ava) (Le.zz fun x hx=>bH _ hx),aIa.mono (Le.zz fun x hx=>dL _ hx)⟩
    refine bk Eo (i:=0) O (dO O O O (tO zA) (Eo.blk (i:=0) O) O)<|fun w80 aoS=> ?_
    simp only[z2,dr,pull]at aoS
    refine aa ?_
    refine⟨((Fr.refl _ _)).u4.u4.u1.u1,(b66,v43,v69,(Z75++Z70)),(Hp.conv aoS RV),rfl,?_⟩
    exact zA
   refine cH O aD O lG (sQ sR) (f:=fun b=> .pointer (some ⟨b,0,none⟩)) (aS Tryz.zeroValue128)<|fun b84 w82 ak7=>A1 3<|fT O aD O ak7 (j:=1) O (fun _=>(sQ (sQ sR))) (Y6.mono (ak7.kz (Le.refl _) (fun x hx=>(mT (mT (mT (mT (mT (mT (mT (mT (mT (mT (mT (mT (mT (mT (mT (mT (mT (bH _ (bH _ hx)))))))))))))))))))))).sl O O ia O O (size:=10) (bytes:=80) O O O az (NB _) J iz<|fun v87 w88 Ji=> ?_
   simp only[z2,dr,pull]at Ji
   refine A1 7<|L3 O aD O Ji (sQ (sQ sR)) (xI _ _ J _ (Y6.mono (Ji.kz (Le.refl _) (fun x hx=>(mT (mT (mT (mT (mT (mT (mT (mT (mT (mT (mT (mT (mT (mT (mT (mT (mT (bH _ (bH _ hx)))))))))))))))))))))).sl) (ay call57 O)<|fun v92 w90 OB=>AQ 8 O (OB.sub (sQ (sQ (sQ sR)))) (dI (vs:=[(0,I k),(1,v87),(2,.agg (jJ t).toArray),(3,U y),(4,v92)]) O (A4 k l t y (dB l) (a6 (OB.get (i:=2) O)).1 (a6 (OB.get (i:=0) O)).1))<|AD<| ?_
   obtain⟨Z93,aIb,aIc,-⟩:=(OB.pj [2]).T4 (Kw W0)
   have pY:Hp _ w90 (_::_::_::_::_::_::_::_::_::_::_::_::_::_::_::_::_::(Z93++((F1.us.map (dR 3))++(R++L2)))):=aIb.HD (L:=[_,_,_,_,_,_,_,_,_,_,_,_,_,_,_,_,_]) (L':=((F1.us.map (dR 3))++(R++L2)))
   have TN:=Hp.mK (A:=[_,_,_,_,_,_,_,_,_,_,_,_,_,_,_,_,_]) (B:=Z93) (R:=(F1.us.map (dR 3))) pY
   simp only[gB,eN]at TN
   obtain⟨Z98,aId,aBB,-⟩:=TN.T4 (Kw W0)
   have EY:Hp _ w90 (_::_::_::_::_::_::_::_::_::_::_::_::_::_::_::_::(Z98++((F1.us.map (dR 3))++(Z93++(R++L2))))):=aId.HD (L:=[_,_,_,_,_,_,_,_,_,_,_,_,_,_,_,_]) (L':=((F1.us.map (dR 3))++(Z93++(R++L2))))
   have rM:=Hp.mK (A:=[_,_,_,_,_,_,_,_,_,_,_,_,_,_,_,_]) (B:=Z98) (R:=(F1.us.map (dR 3))) EY
   simp only[gB,eN]at rM
   have zA:D8 (Kz (Kw W0) (Z98++Z93)) (⟨k,v87,l,t,y,v92,dB l⟩:dD):=⟨oR.mono (by simpa using aIc) (Le.zz fun x hx=>bH _ hx),aBB.mono (Le.zz fun x hx=>dL _ hx)⟩
   refine bk rM (i:=0) O (dO O O O (tO zA) (rM.blk (i:=0) O) O)<|fun aBz Bv=> ?_
   simp only[z2,dr,pull]at Bv
   refine aa ?_
   refine⟨((Fr.refl _ _)).u4.u4.u1.u1,(b84,v87,v92,(Z98++Z93)),(Hp.conv Bv RV),rfl,?_⟩
   exact zA
  refine cH O aD O j7 sR (f:=fun b=> .pointer (some ⟨b,0,none⟩)) (aS Tryz.zeroValue128)<|fun ayB aol nj=>A1 1<|cH O aD O nj (sQ sR) (f:=fun b=> .slice (some ⟨b,0,none⟩) 0 0) (s3 ia po)<|fun aIe atM xB=> ?_
  (try simp only[lj]at xB)
  have Hi:=xB.sF 0 10 O az
  refine A1 3<|fT O aD O Hi (j:=0) O (fun _=>(sQ (sQ sR))) (Y6.mono (Hi.kz (Le.refl _) (fun x hx=>(mT (mT (mT (mT (mT (mT (mT (mT (mT (mT (mT (mT (mT (mT (mT (mT (mT (bH _ (bH _ hx)))))))))))))))))))))).sl O O ia O O (size:=10) (bytes:=80) O O O az (NB _) J iz<|fun avb auT zl=> ?_
  simp only[z2,dr,pull]at zl
  refine A1 7<|L3 O aD O zl (sQ (sQ sR)) (xI _ _ J _ (Y6.mono (zl.kz (Le.refl _) (fun x hx=>(mT (mT (mT (mT (mT (mT (mT (mT (mT (mT (mT (mT (mT (mT (mT (mT (mT (bH _ (bH _ hx)))))))))))))))))))))).sl) (ay call57 O)<|fun avc aoT zo=>AQ 8 O (zo.sub (sQ (sQ (sQ sR)))) (dI (vs:=[(0,I k),(1,avb),(2,.agg (jJ t).toArray),(3,U y),(4,avc)]) O (A4 k l t y (dB l) (a6 (zo.get (i:=1) O)).1 (a6 (zo.get (i:=0) O)).1))<|AD<| ?_
  obtain⟨ae9,aBC,aBD,-⟩:=(zo.pj [1]).T4 (Kw W0)
  have J0:Hp _ aoT (_::_::_::_::_::_::_::_::_::_::_::_::_::_::_::_::_::(ae9++((F1.us.map (dR 3))++(R++L2)))):=aBC.HD (L:=[_,_,_,_,_,_,_,_,_,_,_,_,_,_,_,_,_]) (L':=((F1.us.map (dR 3))++(R++L2)))
  have pZ:=Hp.mK (A:=[_,_,_,_,_,_,_,_,_,_,_,_,_,_,_,_,_]) (B:=ae9) (R:=(F1.us.map (dR 3))) J0
  simp only[gB,eN]at pZ
  obtain⟨aoV,aBE,alc,-⟩:=pZ.T4 (Kw W0)
  have ald:Hp _ aoT (_::_::_::_::_::_::_::_::_::_::_::_::_::_::_::_::(aoV++((F1.us.map (dR 3))++(ae9++(R++L2))))):=aBE.HD (L:=[_,_,_,_,_,_,_,_,_,_,_,_,_,_,_,_]) (L':=((F1.us.map (dR 3))++(ae9++(R++L2))))
  have OD:=Hp.mK (A:=[_,_,_,_,_,_,_,_,_,_,_,_,_,_,_,_]) (B:=aoV) (R:=(F1.us.map (dR 3))) ald
  simp only[gB,eN]at OD
  have zA:D8 (Kz (Kw W0) (aoV++ae9)) (⟨k,avb,l,t,y,avc,dB l⟩:dD):=⟨oR.mono (by simpa using aBD) (Le.zz fun x hx=>bH _ hx),alc.mono (Le.zz fun x hx=>dL _ hx)⟩
  refine bk OD (i:=0) O (dO O O O (tO zA) (OD.blk (i:=0) O) O)<|fun aGh acH=> ?_
  simp only[z2,dr,pull]at acH
  refine aa ?_
  refine⟨((Fr.refl _ _)).u4.u4.u1.u1,(ayB,avb,avc,(aoV++ae9)),(Hp.conv acH RV),rfl,?_⟩
  exact zA
 rintro⟨q12,cv,vv,Zq⟩ aLG aRh aBF xD ⟨TZ,afa⟩
 simp only[HE,xK,gB,eN]at xD
 obtain⟨aaS,aC6,aoW⟩:=aBF.w3 5 10 11
 have hfb:wP s.aq s.bf k l t=true:=nf ‹(!wP _ _ _ _ _)=false›
 have hvs:=aev hfb
 have QF:=V9 l
 have hvl:∀v∈dB l,0<=v/\v<s.us.length:=fun v hv=>by have:=hvs v hv;have:=hok.hlt;have:=hok.OX;omega
 have hvc:(dB l).length<=1000:=kL (aem l) hll
 have hvw:(⟨k,cv,l,t,y,vv,dB l⟩:dD).vars.length=(dB l).length:=rfl
 refine ai<|fW (z:=⟨none,_,_,_,_,none⟩) aP O aP xD (sP (sP (sP (sP (sP (sP (sP (sP (sP (sP (sP (sP (sP (sQ sR))))))))))))))<|fun atZ Di=>have zq:=Di.sub (sP (sP (sP (sP (sP (sP (sP (sP (sP (sP (sP (sP (sP (sQ sR))))))))))))));AT 0 O zq (fun w hS=>aG di O aaS (hS.cell (i:=3) O (v:=Pn _ _) O))<|AT 1 O zq (fun w hS=>aG di O aaS (hS.cell (i:=3) O (v:=Pn _ _) O))<|AQ 2 O zq (af O)<|AQ 3 O zq (fA cr 6 O xT O)<|tV 4 O zq oh 4 O O rfl<|AT 5 O zq (fun w hS=>cA (cs:=qk _) jo O O TZ (bj (hS.blk (i:=0) O)))<|A1 6<|cH O aD O Di (sP (sP (sP (sP (sP (sP (sP (sP (sP (sP (sP (sP (sP (sQ sR)))))))))))))) (f:=fun b=> .slice (some ⟨b,0,none⟩) 1 1) (ox pQ oh O O O (l:=[(⟨k,cv,l,t,y,vv,dB l⟩:dD)]) O az az O)<|fun aHO aHP Hq=>A1 7<|SZ (a:=(⟨k,cv,l,t,y,vv,dB l⟩:dD)) O aD pQ az O Hq (i:=14) O (fun _=>(sQ (sP (sP (sP (sP (sP (sP (sP (sP (sP (sP (sP (sP (sP (sQ sR)))))))))))))))) (Hp.iu pQ Hq (i:=0) (l:=[(⟨k,cv,l,t,y,vv,dB l⟩:dD)]) O gd) O O oh O O (bytes:=136) O O O (fun u hu=>tO afa u q5) J az<|fun ak3 aoQ n9=> ?_
 simp only[z2,dr,pull]at n9
 refine AQ 8 O (n9.sub (sQ (sP (sP (sP (sP (sP (sP (sP (sP (sP (sP (sP (sP (sP (sQ sR)))))))))))))))) (af O)<|AQ 9 O (n9.sub (sQ (sP (sP (sP (sP (sP (sP (sP (sP (sP (sP (sP (sP (sP (sQ sR)))))))))))))))) (fA cr 6 O xT O)<|AD<|bk n9 (i:=5) O (bM O O (v:=ak3) O (a6 (n9.get (i:=14) O)).1 (a6 (n9.get (i:=14) O)).2 (n9.blk (i:=5) O) aJ)<|fun at1 xE=> ?_
 simp only[jh,kZ,nW,gO,Nat.reduceAdd]at xE
 refine aa<|ai<|SR<|V (fA jo 12 O dH TZ)<|V (bZ (afa.vars.mono (xE.kz (Le.refl _) (fun x hx=>(mT (mT (mT (mT (mT (mT (mT (mT (mT (mT (mT (mT (mT (mT (mT (mT (mT (bH _ (dL _ hx)))))))))))))))))))))).sl bD O O (xE.cell (i:=1) O O))<|V (aC (afa.vars.mono (xE.kz (Le.refl _) (fun x hx=>(mT (mT (mT (mT (mT (mT (mT (mT (mT (mT (mT (mT (mT (mT (mT (mT (mT (bH _ (dL _ hx)))))))))))))))))))))).sl O bD O)<|aE (v:=I 0) rfl<|aa<|aA<|bt (G:=Int×(List j4)×(List bu)) (fun⟨j,Xu,Z1⟩ s' w'=>(Fr (14::(rg 55 21 [])) _ s')/\(Hp W0 w' (_::_::_::_::_::_::_::_::_::_::_::_::_::jW j4.v F1.vu 99 Xu::_::_::_::Z1))/\(s' 55=I j)/\(0<=j)/\(j<=(dB l).length)/\(Z1=Xu.map (dR 3)++(Zq++(R++L2)))/\(qh Xu=((dB l).take j.toNat).foldl (FM s.qs.length) s.us)) (fun⟨j,Xu,Z1⟩=>((dB l).length-j).toNat) ((0,F1.us,((F1.us.map (dR 3))++(Zq++(R++L2))))) ⟨Fr.refl _ _,xE,rfl,J,J,rfl,zB.us⟩<| ?_
 rintro⟨j,Xu,Z1⟩ aLH aRi ⟨ale,Xj,T0,h0,hj,hz,hgs⟩
 obtain⟨aoX,aoY⟩:=ale.w2 53 54
 obtain⟨T1,acP,aoZ⟩:=ale.t3 5 aaS 11 aoW 12 TZ
 subst hz
 have hgn:Xu.length=s.us.length:=by have:=aK List.length hgs;rwa[gA,pV]at this
 have hub:∀k:Nat,(Xu.getD k de).l.length<=1001:=fun k=>by rw[<-CT,hgs];exact anB (QF.sublist (List.take_sublist _ _)) (fun v hv=>hvl v (r7 hv)) (by rw[<-zB.us,CT];exact Kx k)
 refine SR<|V (aN T0 aoY)<|aa<|ai<|aF O (fun aIf=> ?_) (fun aIf=> ?_)
 .refine an<|ai<|aA<|SR<|V (ah (afa.vars.mono (Xj.kz (Le.refl _) (fun x hx=>(mT (mT (mT (mT (mT (mT (mT (mT (mT (mT (mT (mT (mT (mT (mT (mT (mT (bH _ (dL _ hx)))))))))))))))))))))).sl bD aO aoX T0 J)<|V (aG bx O O ((afa.vars.mono (Xj.kz (Le.refl _) (fun x hx=>(mT (mT (mT (mT (mT (mT (mT (mT (mT (mT (mT (mT (mT (mT (mT (mT (mT (bH _ (dL _ hx)))))))))))))))))))))).sl.cell _ _ (eS J)))<|V (run_assign (show _=I ((dB l).getD j.toNat 0)from O))<|aa<|have hvj:=hvl _ (dy (d:=0) h0 ‹j<_›);?_
  rw[<-hgn]at hvj
  refine fW (z:=⟨none,_,_,_,_,none⟩) aP O aP Xj (sP (sP (sP (sP (sP (sP (sP (sP (sP (sP (sP (sP (sP (sP (sP (sP (sP (sA sR))))))))))))))))))<|fun aRk WY=>have zu:=WY.sub (sP (sP (sP (sP (sP (sP (sP (sP (sP (sP (sP (sP (sP (sP (sP (sP (sP (sA sR))))))))))))))))));AT 0 O zu (fun w hS=>aG di O T1 (hS.cell (i:=4) O (v:=Pn _ _) O))<|AQ 1 O zu (af O)<|AQ 2 O zu (fA cr 5 O zN O)<|tV 3 O zu pF 5 O O rfl<|AQ 4 O zu (mV (I _) O)<|AT 5 O zu (fun w hS=>aG di O T1 (hS.cell (i:=4) O (v:=Pn _ _) O))<|AQ 6 O zu (af O)<|AQ 7 O zu (fA cr 5 O zN O)<|tV 8 O zu pF 5 O O rfl<|AQ 9 O zu (mV (I _) O)<|AT 10 O zu (fun w hS=>ah (hS.sl (i:=13) O) pF dH O (show _=I ((dB l).getD j.toNat 0)from O) J)<|AT 11 O zu (fun w hS=>aG bD O O ((hS.sl (i:=13) O).cell _ _ (lN (dv:=de) J)))<|AT 12 O zu (fun w hS=>aG bx O acP (hS.cell (i:=2) O (v:=I _) O))<|A1 13<|cH O aD O WY (sP (sP (sP (sP (sP (sP (sP (sP (sP (sP (sP (sP (sP (sP (sP (sP (sP (sA sR)))))))))))))))))) (f:=fun b=> .slice (some ⟨b,0,none⟩) 1 1) (cB bD O O (sz:=1) (vs:=[I _]) O O az az O O)<|fun aRl aFp Hj=> ?_
  (try simp only[lj]at Hj)
  refine A1 14<|aiv (A:=[_,_,_,_,_,_,_,_,_,_,_,_,_,_,_,_,_,_]) (gs:=Xu) (q:=((dB l).getD j.toNat 0)) (a:=(s.qs.length:Int)) (R:=(Zq++(R++L2))) O aD O Hj (fun _=>(sQ (sP (sP (sP (sP (sP (sP (sP (sP (sP (sP (sP (sP (sP (sP (sP (sP (sP (sA (sA sR))))))))))))))))))))) hvj (Hj.dS (i:=0) (n:=1) (sz:=1) O O az) O O bD O O (bytes:=8) O O O (by have:=hub (((dB l).getD j.toNat 0)).toNat;omega) az<|fun akc aRm acQ=> ?_
  simp only[gB,eN]at acQ
  refine AT 15 O (acQ.sub (sQ (sP (sP (sP (sP (sP (sP (sP (sP (sP (sP (sP (sP (sP (sP (sP (sP (sP (sA sR)))))))))))))))))))) (fun w hS=>ah (hS.sl (i:=13) O) pF dH O (show _=I ((dB l).getD j.toNat 0)from O) J)<|AD<|have are:=Hp.axn (A:=[_,_,_,_,_,_,_,_,_,_,_,_,_,_,_,_,_,_]) (gs:=Xu) (q:=((dB l).getD j.toNat 0)) (R:=(Zq++(R++L2))) acQ J;rD (f:=j4.v) (a:=⟨akc,(Xu.getD (((dB l).getD j.toNat 0)).toNat de).l++[(s.qs.length:Int)]⟩) acQ (i:=14) O J O O are.1 are.2 rfl<|fun aRn arf=> ?_
  simp only[z2,dr,pull]at arf
  refine aa<|au<|V (ax T0 O J)<|mI rfl<|aa<| ?_
  refine⟨(j+1,(Xu.set (((dB l).getD j.toNat 0)).toNat ⟨akc,(Xu.getD (((dB l).getD j.toNat 0)).toNat de).l++[(s.qs.length:Int)]⟩),(((Xu.set (((dB l).getD j.toNat 0)).toNat ⟨akc,(Xu.getD (((dB l).getD j.toNat 0)).toNat de).l++[(s.qs.length:Int)]⟩).map (dR 3))++(Zq++(R++L2)))),aW,ale.u4.u4.u4.u4.u4.u1.u1,(Hp.conv (arf.sub (sQ sR)) aL),(aK I aL),J,J,aL,?_⟩
  (rw[oT h0 ‹j<_›,<-hgs];unfold FM;rw[abW,FH])
 refine a8 (id:=0) rfl<|SR<|V (aG di O T1 (Xj.cell (i:=4) O (v:=Pn _ _) O))<|V (L5 T1 acP aoZ)<|cD O (iL _ _ (.add s.qs.length (⟨k,cv,l,t,y,vv,dB l⟩:dD)) J _ (Xj.pj [5,5,5,5,5,5,5,5,5,5,5,5])) (aM zP O O)<| ?_
 rintro _ aIg ⟨rfl,aIh,acR⟩
 simp only[nE]at acR
 have aBG:=acR.pk [12,12,12,12,12]
 refine aa<|SR<|va (v:=B true) rfl<|aa<|aj<|have Ov:=((aBG.sub (sQ (sP (sP (sQ sR))))).pj [3,3,3,3,3,3,3,3,3,3,3,3,2,1]);have Hw:=Hp.aEw (A:=[_,_,_,_,_,_,_,_,_,_,_,_]) (B:=[bu.blk b8 (.cells #[pt n] 31 (0,0)),bu.blk b30 (.cells #[I s.qs.length] 3 (0,0)),bu.blk q12 (.cells (qk (⟨k,cv,l,t,y,vv,dB l⟩:dD)).toArray 128 (0,0))]) (U:=(Xu.map (dR 3))) (Q:=Zq) (R:=R) Ov;?_
 rw[jm J]at hgs
 refine jA (v:=B true) O O (.inr ⟨ku,hfb,rfl,(jO 58 #[pt b8,pt b30,pt q12]),cv,vv,([bu.blk b8 (.cells #[pt n] 31 (0,0)),bu.blk b30 (.cells #[I s.qs.length] 3 (0,0)),bu.blk q12 (.cells (qk (⟨k,cv,l,t,y,vv,dB l⟩:dD)).toArray 128 (0,0))]++(Zq++L2)),_,(fun b o hb=>bH _ (bH _ (ON b o hb))),afa.mono (Le.zz fun x hx=>bH _ (dL _ hx)),⟨_,_,_,rfl,aJ,aJ,aJ⟩,ai9 QF hvl,⟨{F1 with vu:=F1.vu,vq:=ak3,vd:=aIh,vm:=v26,us:=Xu},([bu.blk b8 (.cells #[pt n] 31 (0,0)),bu.blk b30 (.cells #[I s.qs.length] 3 (0,0)),bu.blk q12 (.cells (qk (⟨k,cv,l,t,y,vv,dB l⟩:dD)).toArray 128 (0,0))]++(Zq++L2)),⟨zB.fo.mono fun e he=>bH _ (bH _ he),hgs⟩,fun _ _ q=>q,rfl⟩,?_⟩)
 simp only[NZ,nE,BD];exact Hw
theorem mW(K:Vu)(p:n7)(hpo:kS p=true)(hcs:∀x∈p.aY,x.code.length<=1000)(w:World)(hK:Le K (Kw w))(hp:vS K p):Calls Tryz.prog 14 #[.agg (xh p).toArray] w (Gt K (fun K' u=>∃(sv:Value) (v:List El) (b:Bool),u= .tuple #[sv,B b]/\oR K' sv 8 v.length (v.flatMap pJ)/\v.length=p.s.vars.length/\lE (iA p.s) (QP p.s p.aY) (yl p.s v)/\(b=true↔wv (iA p.s) (QP p.s p.aY))) w):=by
 have B0:=hp.aY.small
 unfold maxLen at B0
 obtain⟨hrs,SK⟩:=Ax hpo
 obtain⟨⟨hs1,hs2⟩,hsl,hsv⟩:=yX hrs
 refine eH func14 rfl rfl fun hH=>SR<|gN hH (v:= .agg _) rfl<|fun b3 w1 bp=>va (v:= .slice none 0 0) rfl<|va (v:=B false) rfl<|aa<|SR<|V (fA m5 0 O zO O)<|V (iN (sub:=CE _) gI O O O (bp.blk (i:=0) O) (DS _))<|IF O bp (AX K p.s J _ (hK.trans bp.kw) hp.s) (ay call37 O)<|fun v6 w7 Z9 eW avd=>have df:Hp _ w7 (_::Z9):=eW.amx (L:=[_]);?_
 obtain⟨n12,rfl,aIj,aIk⟩:=avd
 refine V (DB mG O isAgg46 O O) ?_
 refine V (run_assign bA) ?_
 refine aa<|ai<|SR<|va (v:=B true) rfl<|aa<|aA<|bt (G:=Bool×(List El)×Value×(List bu)) (fun⟨ag,v,vs,Z1⟩ s' w'=>(Fr (rg 4 7 (rg 19 64 [])) _ s')/\(Hp w w' (_::Z1))/\(s' 4=vs)/\(s' 5=B ag)/\(Pb p.s p.aY v)/\(ag=false->∀x∈p.aY,x.op=8->0<=x.to.var->cS (ey (iv p.s x.bf) x.code v).1 (v.getD x.to.var.toNat dg)=true)/\(oR (Kz K Z1) vs 8 v.length (v.flatMap pJ))) (fun⟨ag,v,vs,Z1⟩=>aey p.s v+(if ag=true then 1 else 0)) ((true,n12.labels,n12.lv,Z9)) ⟨Fr.refl _ _,df,rfl,rfl,(by rw[show n12.labels=(MW p.s.sc).labels from aK As.labels aIj];exact Pb.start hrs),(fun h=>mH),aIk.labels⟩<| ?_
 rintro⟨ag,v,vs,Z1⟩ ayy Tm ⟨wT,gT,arh,aBH,hI,hd,hv⟩
 obtain⟨WV,QZ,acz⟩:=wT.w3 1 2 3
 refine ai<|SR<|aE aBH<|aa<|bW O (fun G9=> ?_) (fun G9=> ?_)
 .refine an<|aA<|SR<|va (v:=B false) rfl<|aa<|SR<|va (v:=I 0) rfl<|aa<|aA<|bt (G:=Int×Bool×(List El)×Value×(List bu)) (fun⟨i,ag1,v1,EI,Z2⟩ s' w'=>(Fr (rg 4 7 (rg 20 63 [])) _ s')/\(Hp w w' (_::Z2))/\(s' 4=EI)/\(s' 5=B ag1)/\(s' 6=I i)/\(0<=i)/\(i<=p.aY.length)/\(Pb p.s p.aY v1)/\(aey p.s v1+(if ag1=true then 1 else 0)<=aey p.s v)/\(ag1=false->∀j:Nat,j<i->(p.aY.getD j dQ).op=8->0<=(p.aY.getD j dQ).to.var->cS (ey (iv p.s (p.aY.getD j dQ).bf) (p.aY.getD j dQ).code v1).1 (v1.getD (p.aY.getD j dQ).to.var.toNat dg)=true)/\(oR (Kz K Z2) EI 8 v1.length (v1.flatMap pJ))) (fun⟨i,ag1,v1,EI,Z2⟩=>(p.aY.length-i).toNat) ((0,false,v,vs,Z1)) ⟨Fr.refl _ _,gT,arh,rfl,rfl,J,J,hI,aJ,(fun h j hj=>J),hv⟩<| ?_
  rintro⟨i,ag1,v1,EI,Z2⟩ aoc K9 ⟨rV,dP,ww,JO,Bp,h0,hi,hI1,B0,hh,hv1⟩
  have JP:=rV.t1 1 WV
  refine ai<|SR<|aE Bp<|V (fA m5 2 O vp JP)<|V (bZ ((hp.mono hK).aY.sl.hp dP) nZ O O (dP.cell (i:=0) O O))<|V (aC ((hp.mono hK).aY.sl.hp dP) O nZ O)<|V (aN O O)<|aa<|aF O (fun Ob=> ?_) (fun Ob=> ?_)
  .refine an<|ai<|aA<|SR<|V (fA m5 2 O vp JP)<|V (bZ ((hp.mono hK).aY.sl.hp dP) nZ O O (dP.cell (i:=0) O O))<|aE Bp<|V (ah ((hp.mono hK).aY.sl.hp dP) nZ HU O O J)<|V (dZ (dv:=dQ) vR ((hp.mono hK).aY.sl.hp dP) fg O O O J)<|lK dP (aS G2)<|fun b24 QV eM=>bk eM (i:=0) O (dO (c':=(uR _).toArray) O O O (GC ((hp.mono hK).at J J)) (eM.blk (i:=0) O) O)<|fun w27 iJ=>aa<|ai<|SR<|V (fA fg 0 O aO O)<|lI bx iJ 0 O O rfl<|V (jZ O O)<|mB rfl<|bK 35 O (fun Pj=> ?_) (fun Pj=> ?_)
   .refine aE (v:=B true) rfl<|aa<|ct rfl<|a8 (id:=3) rfl<|au<|aE Bp<|V (ax O O J)<|aI rfl<|aa<| ?_
    refine⟨(i+1,ag1,v1,EI,Z2),aW,rV.u4.u4.u4.u4.u4.u1.u1.u1,(iJ.sub (sQ sR)),ww,JO,(aK I aL),J,J,?_,?_,?_,?_⟩
    .exact hI1
    .exact B0
    ·(intro h j hj ho ht;by_cases e:j=i.toNat;(subst e;(exact absurd ho lA));exact hh h j J ho ht)
    exact hv1
   refine V (fA fg 3 O kQ O)<|V (fA kM 0 O aO O)<|lI bx iJ 0 O O rfl<|V (aN O O)<|mB rfl<|aa<|aF O (fun BR=> ?_) (fun BR=> ?_)
   .refine a8 (id:=3) rfl<|au<|aE Bp<|V (ax O O J)<|aI rfl<|aa<| ?_
    refine⟨(i+1,ag1,v1,EI,Z2),aW,rV.u4.u4.u4.u4.u4.u1.u1.u1,(iJ.sub (sQ sR)),ww,JO,(aK I aL),J,J,?_,?_,?_,?_⟩
    .exact hI1
    .exact B0
    ·(intro h j hj ho ht;by_cases e:j=i.toNat;(subst e;(exact absurd ht J));exact hh h j J ho ht)
    exact hv1
   refine an<|SR<|have ho8:(p.aY.getD i.toNat dQ).op=8:=J;have hxm:=dy (d:=dQ) h0 ‹i<_›;have hxa:=SK _ hxm;have U0:=(D1 hxa ho8).1;have hxc:=hcs _ hxm;have hl1:=hI1.len;have ht8:0<=(p.aY.getD i.toNat dQ).to.var:=J;have hxt:=(Tg (v:=v1) hxa ho8 ht8).1;V (fA m5 0 O zO JP)<|V (fA gI 0 O oo O)<|V (bZ ((hp.mono hK).s.aq.sl.hp iJ) ji O O (iJ.cell (i:=1) O O))<|V (fA fg 1 O aO O)<|lI bx iJ 0 O O rfl<|V (ah ((hp.mono hK).s.aq.sl.hp iJ) ji xV O O J)<|V (fA sB 1 O vi O)<|V (l7 (dv:=mJ) (off:=1) (cs:=yd _) oz ((hp.mono hK).s.aq.sl.hp iJ) dw O O O J (Ac _))<|lK iJ (aS Tryz.zeroValue56)<|fun b35 w33 lF=>bk lF (i:=0) O (DN ((hp.mono hK).s.at J J) O O O (lF.blk (i:=0) O) O)<|fun w38 kF=>aa<|SR<|V (cA (cs:=[B _,_]) dw O O O (bj (kF.blk (i:=0) O)))<|V (fA fg 2 O xW O)<|V (bZ (((hp.mono hK).at J J).code.sl.hp kF) ia O O (kF.cell (i:=1) O O))<|aE ww<|aH O kF (nV _ _ _ _ _ J _ (((hp.mono hK).at J J).code.sl.hp kF) (hv1.mono (kF.kz hK (fun x hx=>(mT (mT (mT hx)))))).sl (((hp.mono hK).s.at J J).mono kF.kw)) (bz call38 O O O)<|fun w40 jU=> ?_
   refine V (run_move bA) ?_
   refine V (bg O (v:= .agg _) O)<|V (bg O (v:=B _) O)<|lK jU (aS eZ)<|fun b45 w43 qo=>bk qo (i:=0) O (cR O O O (qo.blk (i:=0) O))<|fun w48 FR=>aB rfl<|aa<|ai<|ed aP FR<|fun w50 rX=>have tY:=rX;AT 0 O tY (fun w hS=>cN bI O O O (hS.blk (i:=0) O))<|AQ 1 O tY (run_move ww)<|AQ 2 O tY (fA fg 3 O kQ O)<|AQ 3 O tY (fA kM 0 O aO O)<|tI 4 O tY bx 2 O O rfl<|AT 5 O tY (fun w hS=>ah (hv1.mono (hS.kz hK (fun x hx=>(mT (mT (mT (mT hx))))))).sl bU fl O O J)<|AT 6 O tY (fun w hS=>gz (hv1.mono (hS.kz hK (fun x hx=>(mT (mT (mT (mT hx))))))).sl bI O O O J)<|A1 7<|cw O aD O rX sR (oJ _ _ _) (aM call22 O O)<|fun w52 jD=>AQ 8 O jD (bJ O)<|AD<|bW O (fun Hg=> ?_) (fun Hg=> ?_)
   .refine SR<|have hrz:=hI1.raise hxm hxa ho8 ht8 LJ;tR 0 0 jD (s3 bU fl)<|fun b59 w57 oK=> ?_
    (try simp only[lj]at oK)
    have yy:=oK.sF 0 8 O az
    refine aE ww<|gf O yy (i:=0) O (hv1.mono (yy.kz hK (fun x hx=>(mT (mT (mT (mT (mT hx)))))))).sl O O bU O O (size:=8) (bytes:=64) O O O az (gS _) J iz<|fun v61 w62 nU=> ?_
    simp only[eN,gO]at nU
    refine V (run_assign bA) ?_
    refine aa<|ai<|fW (z:=⟨none,_,_,_,_,none⟩) aP O aP nU sR<|fun w64 wR=>have KA:=wR;?_
    refine AQ 0 O KA (run_move bA) ?_
    refine AQ 1 O KA (fA fg 3 O kQ O)<|AQ 2 O KA (fA kM 0 O aO O)<|tI 3 O KA bx 3 O O rfl<|AT 4 O KA (fun w hS=>cA (cs:=[B _,_]) dw O O O (bj (hS.blk (i:=2) O)))<| ?_
    refine AQ 5 O KA (run_move bA) ?_
    refine AQ 6 O KA (fA fg 3 O kQ O)<|AQ 7 O KA (fA kM 0 O aO O)<|tI 8 O KA bx 3 O O rfl<|AT 9 O KA (fun w hS=>ah (hS.sl (i:=0) O) bU fl O O J)<|AT 10 O KA (fun w hS=>gz (hS.sl (i:=0) O) bI O O O J)<|AT 11 O KA (fun w hS=>cN bI O O O (hS.blk (i:=1) O))<|A1 12<|cw O aD O wR sR (sq _ _ _ _ (((hp.mono hK).s.at J J).mono wR.kw)) (bz call39 O O O)<|fun w66 TU=>AT 13 O TU (fun w hS=>ah (hS.sl (i:=0) O) bU fl O O J)<|AD<|arZ TU (i:=0) O J O (new:=pJ (eo (iv p.s (p.aY.getD i.toNat dQ).bf) (v1.getD (p.aY.getD i.toNat dQ).to.var.toNat dg) (ey (iv p.s (p.aY.getD i.toNat dQ).bf) (p.aY.getD i.toNat dQ).code v1).1)) ((rfl:_=Value.agg (iM (eo (iv p.s (p.aY.getD i.toNat dQ).bf) (v1.getD (p.aY.getD i.toNat dQ).to.var.toNat dg) (ey (iv p.s (p.aY.getD i.toNat dQ).bf) (p.aY.getD i.toNat dQ).code v1).1))).trans (by rw[ig])) (uQ _) (by rw[cY];rfl) (by rw[cY];omega)<|fun w68 Ek=> ?_
    obtain⟨Z70,au9,ava,-⟩:=Ek.T4 (K)
    have uX:Hp _ w68 (_::_::_::_::(Z70++Z2)):=au9.HD (L:=[_,_,_,_]) (L':=Z2)
    have aIl:oR (Kz K (Z70++Z2)) v61 8 (v1.set (p.aY.getD i.toNat dQ).to.var.toNat (eo (iv p.s (p.aY.getD i.toNat dQ).bf) (v1.getD (p.aY.getD i.toNat dQ).to.var.toNat dg) (ey (iv p.s (p.aY.getD i.toNat dQ).bf) (p.aY.getD i.toNat dQ).code v1).1)).length ((v1.set (p.aY.getD i.toNat dQ).to.var.toNat (eo (iv p.s (p.aY.getD i.toNat dQ).bf) (v1.getD (p.aY.getD i.toNat dQ).to.var.toNat dg) (ey (iv p.s (p.aY.getD i.toNat dQ).bf) (p.aY.getD i.toNat dQ).code v1).1)).flatMap pJ):=(anL ava J J).mono (Le.zz fun x hx=>dL _ hx)
    refine aa<|au<|va (v:=B true) rfl<|aa<|au<|aE Bp<|V (ax O O J)<|aI rfl<|aa<| ?_
    refine⟨(i+1,true,(v1.set (p.aY.getD i.toNat dQ).to.var.toNat (eo (iv p.s (p.aY.getD i.toNat dQ).bf) (v1.getD (p.aY.getD i.toNat dQ).to.var.toNat dg) (ey (iv p.s (p.aY.getD i.toNat dQ).bf) (p.aY.getD i.toNat dQ).code v1).1)),v61,(Z70++Z2)),aW,rV.u4.u4.u4.u4.u4.u4.u4.u4.u4.u4.u4.u4.u4.u4.u4.u4.u4.u1.u1,(uX.sub (sQ (sQ (sQ sR)))),rfl,rfl,(aK I aL),J,J,?_,?_,?_,?_⟩
    .exact hrz.1
    ·(have:=hrz.2;simp only[ur];split at B0<;>omega)
    .exact fun h=>by cases h
    exact aIl
   refine an<|au<|aE Bp<|V (ax O O J)<|aI rfl<|aa<| ?_
   refine⟨(i+1,ag1,v1,EI,Z2),aW,rV.u4.u4.u4.u4.u4.u4.u4.u4.u4.u4.u4.u4.u1.u1.u1,(jD.sub (sQ (sQ (sQ sR)))),ww,JO,(aK I aL),J,J,?_,?_,?_,?_⟩
   .exact hI1
   .exact B0
   ·(intro h j hj ho ht;by_cases e:j=i.toNat;(subst e;(exact nf ‹(!cS _ _)=false›));exact hh h j J ho ht)
   exact hv1
  refine a8 (id:=2) O ?_
  refine⟨(ag1,v1,EI,Z2),?_,(((wT.u1.u1.u1).t rV O)).u4.u1,dP,ww,JO,?_,?_,?_⟩
  ·((try dsimp only);rw[aX ‹ag=true›];omega)
  .exact hI1
  ·(intro h x hx ho ht;obtain⟨j,hj,rfl⟩:=vc.1 hx;have:=hh h j J;rw[getD_eq hj]at this;exact this ho ht)
  exact hv1
 refine a8 (id:=0) rfl<|ai<|SR<|va (v:=I 0) rfl<|aa<|aA<|have hle:lE (iA p.s) (QP p.s p.aY) (yl p.s v):=hI.done SK (hd ‹ag=false›);bt (G:=Int) (fun q s' w'=>(Fr (2::3::(rg 11 4 (rg 83 43 []))) _ s')/\(Hp w w' _)/\(s' 11=I q)/\(0<=q)/\(q<=p.aY.length)/\(∀j:Nat,j<q->(p.aY.getD j dQ).op=8->(p.aY.getD j dQ).to.var<0->cS (ey (iv p.s (p.aY.getD j dQ).bf) (p.aY.getD j dQ).code v).1 (p.aY.getD j dQ).to.c=true)) (fun q=>(p.aY.length-q).toNat) (0) ⟨Fr.refl _ _,gT,rfl,J,J,(fun j hj=>J)⟩<| ?_
 rintro q aRp w75 ⟨alg,uY,Jx,q0,hq,htt⟩
 obtain⟨alh,acS⟩:=alg.t2 1 WV 4 arh
 refine ai<|SR<|aE Jx<|V (fA m5 2 O vp alh)<|V (bZ ((hp.mono hK).aY.sl.hp uY) nZ O O (uY.cell (i:=0) O O))<|V (aC ((hp.mono hK).aY.sl.hp uY) O nZ O)<|V (aN O O)<|aa<|aF O (fun h77=> ?_) (fun h77=> ?_)
 .refine an<|ai<|aA<|SR<|V (fA m5 2 O vp alh)<|V (bZ ((hp.mono hK).aY.sl.hp uY) nZ O O (uY.cell (i:=0) O O))<|aE Jx<|V (ah ((hp.mono hK).aY.sl.hp uY) nZ HU O O J)<|V (dZ (dv:=dQ) vR ((hp.mono hK).aY.sl.hp uY) fg O O O J)<|lK uY (aS G2)<|fun b80 w78 Eo=>bk Eo (i:=0) O (dO (c':=(uR _).toArray) O O O (GC ((hp.mono hK).at J J)) (Eo.blk (i:=0) O) O)<|fun w83 lm=>aa<|SR<|V (fA fg 0 O aO O)<|lI bx lm 0 O O rfl<|V (bV O O)<|mB rfl<|bK 98 O (fun TY=> ?_) (fun TY=> ?_)
  .refine V (fA fg 3 O kQ O)<|V (fA kM 0 O aO O)<|lI bx lm 0 O O rfl<|V (aN O O)<|mB rfl<|aa<|aF O (fun h88=> ?_) (fun h88=> ?_)
   .refine ai<|have ho8:(p.aY.getD q.toNat dQ).op=8:=J;have hxm:=dy (d:=dQ) q0 ‹q<_›;have hxa:=SK _ hxm;have U0:=(D1 hxa ho8).1;have hxc:=hcs _ hxm;have hl1:=hI.len;ed aP lm<|fun w89 oM=>have Dk:=oM;AQ 0 O Dk (fA m5 0 O zO alh)<|AQ 1 O Dk (fA gI 0 O oo O)<|AT 2 O Dk (fun w hS=>bZ ((hp.mono hK).s.aq.sl.hp hS) ji O O (hS.cell (i:=1) O O))<|AQ 3 O Dk (fA fg 1 O aO O)<|tI 4 O Dk bx 0 O O rfl<|AT 5 O Dk (fun w hS=>ah ((hp.mono hK).s.aq.sl.hp hS) ji xV O O J)<|AQ 6 O Dk (fA sB 1 O vi O)<|AT 7 O Dk (fun w hS=>l7 (dv:=mJ) (off:=1) (cs:=yd _) oz ((hp.mono hK).s.aq.sl.hp hS) dw O O O J (Ac _))<|AQ 8 O Dk (fA fg 2 O xW O)<|AT 9 O Dk (fun w hS=>bZ (((hp.mono hK).at J J).code.sl.hp hS) ia O O (hS.cell (i:=0) O O))<|AQ 10 O Dk (run_move acS)<|gq 11 15 aP ?_ ?_
    .refine cw O aD O oM sR (nV _ _ _ _ _ J _ (((hp.mono hK).at J J).code.sl.hp oM) (hv.mono (oM.kz hK (fun x hx=>(mT (mT hx))))).sl (((hp.mono hK).s.at J J).mono oM.kw)) (bz call38 O O O)<|fun w91 Jh=>have ave:=Jh;?_
     refine AQ 12 O ave (run_move bA) ?_
     refine AQ 13 O ave (bg O (v:= .agg _) O)<|AQ 14 O ave (bg O (v:=B _) O)<|A1 15<|cH O aD O Jh sR (f:=fun b=> .pointer (some ⟨b,0,none⟩)) (aS eZ)<|fun b96 w94 Kt=>A1 16<|ef O aD Kt (j:=0) O (sQ sR) (cR O O O (Kt.blk (i:=0) O))<|fun atX rM=>AQ 17 O (rM.sub (sQ sR)) (aV (B _) O)<|AD<|SR<|V (cN bI O O O (rM.blk (i:=0) O))<|V (fA fg 3 O kQ O)<|V (fA kM 1 O fl O)<|V (nr bI O O O (rM.blk (i:=1) O) (aby _))<|aH O rM (oJ _ _ _) (aM call22 O O)<|fun aBz Bv=>V (bJ O)<|aa<|bW O (fun aIm=> ?_) (fun aIm=> ?_)
     .refine SR<|aE acS<| ?_
      refine V (run_assign bA) ?_
      refine va (v:=B false) rfl<|aa<|aj<|af1 O O O ⟨Z1,(Bv.sub (sQ (sQ (sQ sR)))),vs,v,false,rfl,hv,hI.len,hle,⟨(fun h=>mH),fun h=>absurd ((NK hle hI.len SK).1 h _ (dy (d:=dQ) q0 ‹q<_›) lA J) LJ⟩⟩
     refine an<|au<|aE Jx<|V (ax O O J)<|aI rfl<|aa<| ?_
     refine⟨q+1,aW,alg.u4.u4.u4.u4.u4.u4.u4.u4.u4.u4.u4.u1.u1,(Bv.sub (sQ (sQ sR))),(aK I aL),J,J,?_⟩
     (intro j hj ho ht;by_cases e:j=q.toNat;(subst e;(exact nf ‹(!cS _ _)=false›));exact htt j J ho ht)
    refine cH O aD O oM sR (f:=fun b=> .pointer (some ⟨b,0,none⟩)) (aS eZ)<|fun aIe atM xB=>A1 11<|cw O aD O xB (sQ sR) (nV _ _ _ _ _ J _ (((hp.mono hK).at J J).code.sl.hp xB) (hv.mono (xB.kz hK (fun x hx=>(mT (mT (mT hx)))))).sl (((hp.mono hK).s.at J J).mono xB.kw)) (bz call38 O O O)<|fun aRr wH=>have ali:=wH.sub (sQ sR);?_
    refine AQ 12 O ali (run_move bA) ?_
    refine AQ 13 O ali (bg O (v:= .agg _) O)<|AQ 14 O ali (bg O (v:=B _) O)<|A1 16<|ef O aD wH (j:=0) O (sQ sR) (cR O O O (wH.blk (i:=0) O))<|fun aRs Rb=>AQ 17 O (Rb.sub (sQ sR)) (aV (B _) O)<|AD<|SR<|V (cN bI O O O (Rb.blk (i:=0) O))<|V (fA fg 3 O kQ O)<|V (fA kM 1 O fl O)<|V (nr bI O O O (Rb.blk (i:=1) O) (aby _))<|aH O Rb (oJ _ _ _) (aM call22 O O)<|fun aIn acT=>V (bJ O)<|aa<|bW O (fun aIo=> ?_) (fun aIo=> ?_)
    .refine SR<|aE acS<| ?_
     refine V (run_assign bA) ?_
     refine va (v:=B false) rfl<|aa<|aj<|af1 O O O ⟨Z1,(acT.sub (sQ (sQ (sQ sR)))),vs,v,false,rfl,hv,hI.len,hle,⟨(fun h=>mH),fun h=>absurd ((NK hle hI.len SK).1 h _ (dy (d:=dQ) q0 ‹q<_›) lA J) LJ⟩⟩
    refine an<|au<|aE Jx<|V (ax O O J)<|aI rfl<|aa<| ?_
    refine⟨q+1,aW,alg.u4.u4.u4.u4.u4.u4.u4.u4.u4.u4.u4.u1.u1,(acT.sub (sQ (sQ sR))),(aK I aL),J,J,?_⟩
    (intro j hj ho ht;by_cases e:j=q.toNat;(subst e;(exact nf ‹(!cS _ _)=false›));exact htt j J ho ht)
   refine an<|au<|aE Jx<|V (ax O O J)<|aI rfl<|aa<| ?_
   refine⟨q+1,aW,alg.u4.u4.u4.u4.u4.u1.u1.u1,(lm.sub (sQ sR)),(aK I aL),J,J,?_⟩
   (intro j hj ho ht;by_cases e:j=q.toNat;(subst e;(exact absurd ht J));exact htt j J ho ht)
  refine aE (v:=B false) rfl<|aa<|cL rfl<|an<|au<|aE Jx<|V (ax O O J)<|aI rfl<|aa<| ?_
  refine⟨q+1,aW,alg.u4.u4.u4.u4.u4.u1.u1.u1,(lm.sub (sQ sR)),(aK I aL),J,J,?_⟩
  (intro j hj ho ht;by_cases e:j=q.toNat;(subst e;(exact absurd ho lA));exact htt j J ho ht)
 refine a8 (id:=4) rfl<|SR<|aE acS<| ?_
 refine V (run_assign bA) ?_
 refine va (v:=B true) rfl<|aa<|aj<|af1 O O O ⟨Z1,(uY.sub (sQ sR)),vs,v,true,rfl,hv,hI.len,hle,⟨fun _=>(NK hle hI.len SK).2 fun x hx ho ht=>by obtain⟨j,hj,rfl⟩:=vc.1 hx;have:=htt j J;rw[getD_eq hj]at this;exact this ho ht,fun _=>rfl⟩⟩
section
variable{W0 w:World}{n:Nat}{s:NP}{lg:List (Value×mw)}{tm:List Int}{ids:List Nat}{f:Ct}{tl:List (Nat×Rl)}{b c:Nat}{A R Z:List bu}
theorem Hy(hT:o6 W0)(hW:yY s)(hb:b<=70)(hc:c<=1000)(hZ:j9 fr W0 n s lg tm ids f tl b c Z)(hH:Hp W0 w (A++(Z++R))):Calls Tryz.prog 15 #[pt n] w (jY fun u w'=>∃(ok:Bool) (s':NP) (new:List (Value×mw)) (f':Ct) (a j:Nat) (Z':List bu),u=B ok/\axG s s' ok/\iP new s s'/\pU f f' a a (a+j)/\a<=muM s/\j<=s.ak.length/\j9 fr W0 n s' (lg++new) (tmS s lg tm) ids f' tl (b+1) c Z'/\Hp W0 w' (A++(Z'++R))):=by
 obtain⟨Z2,hM,bp⟩:=hZ.aur hH
 obtain⟨m,L0,Zf,⟨b1,b2,b3,b4⟩,hZf,hlv,zA,hch,hN⟩:=hM
 have hmu:=hW.mu
 have hnv:=hW.nv
 refine(Hv (JB s) (muB s) (muM s) J hW.ns.ok hW.wy J J b4 J (axF hW) w hT hlv hZf zA hN bp).mono fun e w' hr=>jY.mono ?_ hr
 rintro u w' (⟨h1,rfl,Z3,hN2,tZ⟩|⟨Es,us,ok,cc,Ua,a,s',new,L1,Z3,Zf',f',yh,rfl,hR,hJ,ha,hs',hnc,hnl,hbk,hL,avf,hk,hN2,tZ⟩)
 .obtain⟨Zo,ho,hh⟩:=j9.out (A:=A) (R:=R) (fr:=fr) (b:=b+1) (c:=c) ⟨m,L0,Zf,⟨J,J,J,b4.mono J⟩,hZf,hlv,zA,hch,hN2⟩ tZ
  refine⟨false,s,[],f,0,0,Zo,rfl,⟨fun _=>⟨rfl,rfl⟩,fun q=>(by rw[h1]at q;cases q)⟩,iP.nil s,pU.refl f,J,J,?_,hh⟩
  rw[mY,axI h1];exact ho
 have SK:=aju hW yh hR ha
 have hS:=as4 hW Es yh hR (by unfold JN;rw[acd];exact hJ)
 have hj:(sV s.cs us s.aq s.bf s.qs s.sn s.ak.length ⟨s.ak,s.bq,[],List.replicate s.qs.length false⟩).j<=s.ak.length:=(Tf hW.ns yh).2.2.2
 rw[<-hs']at hS
 have hlt:s'.aq=s.aq:=hS.aq
 obtain⟨Zo,ho,hh⟩:=j9.out (A:=A) (R:=R) (fr:=fr) (b:=b+1) (c:=c) ⟨m+s.ak.length,L1,Zf',⟨J,by simp only[ec];omega,by simp only[ec,eA];omega,(hk.ok b4).mono J⟩,avf,by rw[hlt];exact hlv.mono (Le.zb hL),by rw[hS.qs];exact zA.mono (Le.zb hL),fun x hx=>by rcases e8.1 hx with q|q;exact(hch x q).EF hL;exact hnc x q,hN2⟩ tZ
 rw[<-axJ (lg:=lg) (tm:=tm) Es]at ho
 exact⟨ok,s',new,f',a,_,Zo,rfl,⟨fun q=>(by rw[Es]at q;cases q),fun _=>hS⟩,hbk,hk,SK,hj,ho,hh⟩
end
section
variable{W0 w:World}{n:Nat}{s:NP}{lg:List (Value×mw)}{tm:List Int}{ids:List Nat}{f:Ct}{tl:List (Nat×Rl)}{b c:Nat}{A R Z:List bu}
theorem alk(l:Int)(hok:Ea s)(hb:b<=70)(hc:c<=1000)(hZ:j9 fr W0 n s lg tm ids f tl b c Z)(hH:Hp W0 w (A++(Z++R))):Calls Tryz.prog 18 #[pt n,I l] w (jY fun u w'=>(¬(s.sk=false/\0<=l/\l<s.aq.length)/\u=I (-1)/\∃Z',j9 fr W0 n s lg tm ids f tl b c Z'/\Hp W0 w' (A++(Z'++R)))\/(s.sk=false/\(0<=l/\l<s.aq.length)/\u=I s.ak.length/\∃(fv:Value) (Z':List bu),iP [(fv,mw.var s.ak.length ((s.cs.length:Int)-1))] s (qP s l (s.aq.getD l.toNat pT).low)/\j9 fr W0 n (qP s l (s.aq.getD l.toNat pT).low) (lg++[(fv,mw.var s.ak.length ((s.cs.length:Int)-1))]) (tm++[(lg.length:Int)]) ids f tl b (c+1) Z'/\Hp W0 w' (A++(Z'++R)))):=by
 obtain⟨Z2,hM,bp⟩:=hZ.aur hH
 obtain⟨m,L0,Zf,⟨b1,b2,b3,b4⟩,hZf,hlv,zA,hch,hN⟩:=hM
 refine(OT l J hok J J w hN bp).mono fun e w' hr=>jY.mono ?_ hr
 rintro u w' (⟨h1,rfl,Z3,hN2,tZ⟩|⟨h1,h2,rfl,fv,L1,Z3,hL,hC,hbk,hN2,tZ⟩)
 .refine .inl ⟨h1,rfl,?_⟩
  obtain⟨Zo,ho,hh⟩:=j9.out (A:=A) (R:=R) (fr:=fr) ⟨m,L0,Zf,⟨b1,b2,b3,b4⟩,hZf,hlv,zA,hch,hN2⟩ tZ
  exact⟨Zo,ho,hh⟩
 obtain⟨Zo,ho,hh⟩:=j9.out (A:=A) (R:=R) (fr:=fr) (s:=qP s l (s.aq.getD l.toNat pT).low) (lg:=lg++[(fv,mw.var s.ak.length ((s.cs.length:Int)-1))]) (tm:=tm++[(lg.length:Int)]) (b:=b) (c:=c+1) ⟨m+1,L1,Zf,⟨J,by simp only[ec,eA];omega,by simp only[ec,eA];omega,b4⟩,hZf,hlv.mono (Le.zb hL),zA.mono (Le.zb hL),fun x hx=>by rcases e8.1 hx with q|q;exact(hch x q).EF hL;rw[gG.1 q];exact hC,hN2⟩ tZ
 exact .inr ⟨h1,h2,rfl,fv,Zo,hbk,ho,hh⟩
end
section
variable{W0 w:World}{n:Nat}{s:NP}{lg:List (Value×mw)}{tm:List Int}{ids:List Nat}{f:Ct}{tl:List (Nat×Rl)}{b c:Nat}{A R Z:List bu}
theorem acU(k:Int)(v:Value)(l:List dV)(t:iT)(y:BitVec 64)(hok:Ea s)(hll:l.length<=1000)(hb:b<=70)(hc:c<=1000)(hT:o6 W0){X:List bu}(hcv:oR (Kz (Kw W0) X) v 10 l.length (l.flatMap kg))(hZ:j9 fr W0 n s lg tm ids f tl b c Z)(hH:Hp W0 w (A++(Z++X))):Calls Tryz.prog 25 #[pt n,I k,v,.agg (jJ t).toArray,U y] w (jY fun u w'=>∃(ok:Bool) (s':NP) (new:List (Value×mw)) (Ub:List Int) (Z':List bu),u=B ok/\Th s s' k l t y ok/\iP new s s'/\TmA ok lg tm Ub/\j9 fr W0 n s' (lg++new) Ub ids f tl b (c+1) Z'/\Hp W0 w' (A++(Z'++[]))):=by
 obtain⟨m,L0,Zf,Z2,⟨b1,b2,b3,b4⟩,hZf,hlv,zA,hch,hN,bp,hXL⟩:=hZ.azF hH
 refine(OU k v l t y hok hll J J w hT (fun x hx=>(hlv x hx).zx) (hcv.mono (Le.zb hXL)) hN bp).mono fun e w' hr=>jY.mono ?_ hr
 rintro u w' (⟨h1,rfl,Z3,hN2,tZ⟩|⟨h1,h2,rfl,fv,cv,vv,L1,Z3,hL,hq,hC,hbk,hN2,tZ⟩)
 .obtain⟨Zo,ho,hh⟩:=j9.out (A:=A) (R:=[]) (fr:=fr) (b:=b) (c:=c+1) ⟨m,L0,Zf,⟨J,J,J,b4⟩,hZf,hlv,zA,hch,hN2⟩ tZ
  refine⟨false,s,[],tm,Zo,rfl,Th.no h1,iP.nil s,rfl,?_,hh⟩
  rw[mY];exact ho
 obtain⟨Zo,ho,hh⟩:=j9.out (A:=A) (R:=[]) (fr:=fr) (s:=BD s (⟨k,cv,l,t,y,vv,dB l⟩:dD)) (lg:=lg++[(fv,mw.add s.qs.length (⟨k,cv,l,t,y,vv,dB l⟩:dD))]) (tm:=tm++[(lg.length:Int)]) (b:=b) (c:=c+1) ⟨m,L1,Zf,⟨J,by simp only[ec,eA];omega,by simp only[ec,eA];omega,b4⟩,hZf,hlv.mono (Le.zb hL),fun x hx=>by rcases e8.1 hx with q|q;exact(zA.mono (Le.zb hL)) x q;rw[gG.1 q];exact hq,fun x hx=>by rcases e8.1 hx with q|q;exact(hch x q).EF hL;rw[gG.1 q];exact hC,hN2⟩ tZ
 exact⟨true,_,_,_,Zo,rfl,Th.yes h1 h2,hbk,rfl,ho,hh⟩
end
section
variable{W0 w:World}{n:Nat}{s:NP}{lg:List (Value×mw)}{tm:List Int}{ids:List Nat}{f:Ct}{tl:List (Nat×Rl)}{b c:Nat}{A R Z:List bu}
theorem ari(p:kR)(hfn:p.aZ.length<=1000)(hnn:∀f∈p.aZ,f.names.length<=1000)(hll:s.aq.length<=1000)(hwr:WrF s.wr ids)(hb:b<=70)(hc:c<=1000)(hT:o6 W0){X:List bu}(hsh:k8 (Kz (Kw W0) X) p)(hZ:j9 fr W0 n s lg tm ids f tl b c Z)(hH:Hp W0 w (A++(Z++X))):Calls Tryz.prog 19 #[pt n,.agg (qL p)] w (jY fun u w'=>((s.sk=true\/mA p.sh=false)/\u=I (-1)/\∃Z',j9 fr W0 n s lg tm ids f tl b c Z'/\Hp W0 w' (A++(Z'++[])))\/(s.sk=false/\∃(x:pP) (fv:Value) (QK:List (Nat×Rl)) (Z':List bu),mA p.sh=true/\u=I s.aq.length/\x.p.sh=p.sh/\x.low=gJ p.sh ew/\WrD s.wr x.d/\iP [(fv,mw.bf s.aq.length)] s {s with aq:=s.aq++[x]}/\j9 fr W0 n {s with aq:=s.aq++[x]} (lg++[(fv,mw.bf s.aq.length)]) (tm++[(lg.length:Int)]) ids f (tl++QK) b (c+1) Z'/\Hp W0 w' (A++(Z'++[])))):=by
 obtain⟨m,L0,Zf,Z2,⟨b1,b2,b3,b4⟩,hZf,hlv,zA,hch,hN,bp,hXL⟩:=hZ.azF hH
 refine(OQ p hfn hnn hll J J hwr w hT (hsh.mono (Le.zb hXL)) hZf hN bp).mono fun e w' hr=>jY.mono ?_ hr
 rintro u w' (⟨h1,rfl,Z3,hN2,tZ⟩|⟨h1,x,fv,QK,L1,Z3,Zf',h2,rfl,h3,h4,h5,hL,hx,hC,avf,hbk,hN2,tZ⟩)
 .refine .inl ⟨h1,rfl,?_⟩
  obtain⟨Zo,ho,hh⟩:=j9.out (A:=A) (R:=[]) (fr:=fr) ⟨m,L0,Zf,⟨b1,b2,b3,b4⟩,hZf,hlv,zA,hch,hN2⟩ tZ
  exact⟨Zo,ho,hh⟩
 obtain⟨Zo,ho,hh⟩:=j9.out (A:=A) (R:=[]) (fr:=fr) (s:={s with aq:=s.aq++[x]}) (lg:=lg++[(fv,mw.bf s.aq.length)]) (tm:=tm++[(lg.length:Int)]) (tl:=tl++QK) (b:=b) (c:=c+1) ⟨m,L1,Zf',⟨J,by simp only[ec,eA];omega,by simp only[ec,eA];omega,b4⟩,avf,VZ.snoc (fun y hy=>((hlv y hy).mono (Le.zb hL)).more) hx,zA.mono (Le.zb hL),fun x hx=>by rcases e8.1 hx with q|q;exact(hch x q).EF hL;rw[gG.1 q];exact hC,hN2⟩ tZ
 exact .inr ⟨h1,x,fv,QK,Zo,h2,rfl,h3,h4,h5,hbk,ho,hh⟩
end
section
variable{W0 w:World}{n:Nat}{s:NP}{lg:List (Value×mw)}{tm:List Int}{ids:List Nat}{f:Ct}{tl:List (Nat×Rl)}{b c:Nat}{A R Z:List bu}
theorem acV(v:Int)(hZ:j9 fr W0 n s lg tm ids f tl b c Z){L:List bu}(hH:Hp W0 w L)(hs:∀x,x∈Z->x∈L):Calls Tryz.prog 23 #[pt n,I v] w (Pure (.agg (iM (if 0<=v/\v<s.ak.length then s.ak.getD v.toNat dg else dg))) w):=by
 obtain⟨m,L0,Zf,_,_,_,_,_,F,L1,hI,hL,rfl⟩:=hZ
 exact Ju v w (hH.ah9 (hs _ (qU ..))) (Sl.Sf (hH.ok (wh pJ 8 F.vv 37 s.ak) (hs _ aJ)))
end
section
variable{W0 w:World}{n:Nat}{s:NP}{lg:List (Value×mw)}{tm:List Int}{ids:List Nat}{f:Ct}{tl:List (Nat×Rl)}{b c:Nat}{A R Z:List bu}
theorem aBK(v:Int)(hZ:j9 fr W0 n s lg tm ids f tl b c Z){L:List bu}(hH:Hp W0 w L)(hs:∀x,x∈Z->x∈L):Calls Tryz.prog 21 #[pt n,I v] w (Pure (U (if 0<=v/\v<s.bq.length then s.bq.getD v.toNat 0 else 0)) w):=by
 obtain⟨m,L0,Zf,_,_,_,_,_,F,L1,hI,hL,rfl⟩:=hZ
 exact OO v w (hH.ah9 (hs _ (qU ..))) ((show Sl w F.vy 1 s.bq.length (s.bq.map U)from Sl.Sf (hH.ok (jW U F.vy 35 s.bq) (hs _ aJ))))
end
section
variable{W0 w:World}{n:Nat}{s:NP}{lg:List (Value×mw)}{tm:List Int}{ids:List Nat}{f:Ct}{tl:List (Nat×Rl)}{b c:Nat}{A R Z:List bu}
theorem acW(hZ:j9 fr W0 n s lg tm ids f tl b c Z){L:List bu}(hH:Hp W0 w L)(hs:∀x,x∈Z->x∈L):Calls Tryz.prog 16 #[pt n] w (Pure (.tuple #[U s.wy,B s.sk]) w):=by
 obtain⟨m,L0,Zf,_,_,_,_,_,F,L1,hI,hL,rfl⟩:=hZ
 exact Jt w (hH.ah9 (hs _ (qU ..)))
end
theorem A5{ids:List Nat}{f:Ct}{Zf:List bu}(p:lM)(x:Value)(hrs:jc p=true)(hwr:WrF x ids)(hf:FF 0 f)(w:World)(hT:o6 W0)(hs:D4 (Kw W0) p)(hZ:kU (BG fr) ids f [] Zf)(hH:Hp W0 w Zf):Calls Tryz.prog 12 #[.agg (IM p),x] w (jY fun u w'=>∃(n:Nat) (s:NP) (lg:List (Value×mw)) (tm:List Int) (tl:List (Nat×Rl)) (Z:List bu) (c:Nat),u= .tuple #[pt n,B true]/\tQ p s/\yY s/\s.qs=[]/\s.sk=false/\s.wr=x/\(∀y∈s.aq,WrD x y.d)/\c<=100/\j9 fr W0 n s lg tm ids f tl 0 c Z/\Hp W0 w' Z):=by
 obtain⟨⟨hs1,hs2⟩,hsl,hsv⟩:=yX hrs
 have hsm:=ajv hrs
 refine en func12 rfl rfl<|SR<|gN hH (v:= .agg _) rfl<|fun b3 w1 bp=>va (v:= .pointer none) rfl<|va (v:=B false) rfl<|aa<|SR<|V (run_move (show _=x from O))<|cD O (OP _ hwr.cells _) (ay call36 O)<| ?_
 rintro _ C2 ⟨n6,Zn7,rfl,h10,hn9⟩
 obtain⟨Z8,aIq,cP⟩:=j9.new (A:=[_]) (fr:=fr) hn9 hZ hf (Hp.Gr bp h10)
 simp only[gB,eN]at cP
 refine va (v:=Pn _ _) rfl<|aa<|ai<|SR<|V (fA gI 0 O oo O)<|V (bZ (hs.aq.sl.hp cP) ji O O (cP.cell (i:=0) O O))<|V (aC (hs.aq.sl.hp cP) O ji O)<|aE (v:=I 0) rfl<|aa<|aA<|bt (G:=Int×(List pP)×(List bu)) (fun⟨k,ls,Z1⟩ s' w'=>(Fr (4::5::(7::8::(rg 16 13 []))) _ s')/\(Hp W0 w' (_::Z1))/\(s' 16=I k)/\(0<=k)/\(k<=p.aq.length)/\(NM p k.toNat ls)/\(∀y∈ls,WrD x y.d)/\(∃lg tm tl F5,Z1=F5++[]/\j9 fr W0 n6 (npL ls x) lg tm ids f tl 0 k.toNat F5)) (fun⟨k,ls,Z1⟩=>(p.aq.length-k).toNat) ((0,[],(Z8++[]))) ⟨Fr.refl _ _,cP,rfl,J,J,⟨aJ,fun x hx=>by cases hx⟩,(fun y hy=>by cases hy),⟨_,_,_,_,rfl,aIq⟩⟩<| ?_
 rintro⟨k,ls,Z1⟩ Z0 QT ⟨mN,cG,T2,h0,hk,hB,hwd,hS⟩
 obtain⟨Bn,mE,avg,avh⟩:=mN.w4 2 6 14 15
 obtain⟨lg1,Lc,QK,F5,rfl,JZ⟩:=hS
 have hln:=hB.len J
 refine SR<|V (aN T2 avh)<|aa<|ai<|aF O (fun ym=> ?_) (fun ym=> ?_)
 .refine an<|ai<|aA<|SR<|aE T2<|V (ah (hs.aq.sl.hp cG) ji xV avg T2 J)<|V (dZ (dv:=mJ) oz (hs.aq.sl.hp cG) sB O O O J)<|lK cG (aS Wj)<|fun b19 Tp dP=>aI rfl<|bk dP (i:=0) O (dO (c':=(MP _).toArray) O O O (U6 (hs.at J J)) (dP.blk (i:=0) O) O)<|fun QV eM=>aa<|SR<|have hlm:=dy (d:=mJ) h0 ‹k<_›;aE mE<|V (fA sB 1 O vi O)<|V (iN (sub:=yd _) dw O O O (eM.blk (i:=0) O) O)<|cD O (ari (p.aq.getD k.toNat mJ).zx (hsm _ hlm).1 (hsm _ hlm).2 (by show ls.length<=1000;omega) hwr J J hT ((hs.at h0 ‹k<_›).mono (Le.z _ _)) (A:=[_,_]) (X:=[]) JZ eM) (aM call19 O O)<| ?_
  rintro _ w37 (⟨hno,-⟩|⟨-,x26,aRx,aRy,Z29,aIr,rfl,aIs,aIt,aIu,aRz,aIv,h36⟩)
  .exact absurd hno (by rintro(q|q);cases q;rw[hsl _ hlm]at q;cases q)
  have ux:Hp _ w37 (_::_::(Z29++[])):=h36
  refine mI rfl<|V (jZ O O)<|aa<|cL (bF ((fun h=>h (by show(ls.length:Int)=k;omega))))<|an<|au<|V (ax T2 O J)<|mI rfl<|aa<| ?_
  refine⟨(k+1,ls++[x26],(Z29++[])),aW,mN.u4.u4.u4.u1.u1,(ux.sub (sQ sR)),(aK I aL),J,J,?_,?_,?_⟩
  .exact hB.next h0 ‹k<_› aIr aIs aIt
  ·(intro y hy;rcases e8.1 hy with q|q;exact hwd y q;rw[gG.1 q];exact aIu)
  (rw[show(k+1).toNat=k.toNat+1 by omega];exact⟨_,_,_,_,rfl,aIv⟩)
 refine a8 (id:=0) rfl<|ai<|SR<|V (fA gI 1 O uo Bn)<|V (bZ (hs.vars.sl.hp cG) lU O O (cG.cell (i:=0) O O))<|V (aC (hs.vars.sl.hp cG) O lU O)<|aE (v:=I 0) rfl<|aa<|aA<|have hkl:k.toNat=p.aq.length:=J;?_
 rw[hkl]at JZ
 refine bt (G:=Int×NP×(List bu)) (fun⟨j,s,Z2⟩ s' w'=>(Fr (4::5::(9::10::(rg 32 13 []))) _ s')/\(Hp W0 w' (_::Z2))/\(s' 32=I j)/\(0<=j)/\(j<=p.vars.length)/\(Ki p x j.toNat s)/\(∀y∈s.aq,WrD x y.d)/\(∃lg tm tl Xt,Z2=Xt++[]/\j9 fr W0 n6 s lg tm ids f tl 0 (p.aq.length+j.toNat) Xt)) (fun⟨j,s,Z2⟩=>(p.vars.length-j).toNat) ((0,npL ls x,(F5++[]))) ⟨Fr.refl _ _,cG,rfl,J,J,hB.fin h0 ‹¬k<_›,hwd,⟨_,_,_,_,rfl,JZ⟩⟩ ?_
 rintro⟨j,s,Z2⟩ aRA w40 ⟨avi,lG,T3,j0,hj,hI,aBL,hS2⟩
 obtain⟨avj,avk⟩:=avi.w2 30 31
 have arj:=avi.t1 6 mE
 obtain⟨lg2,tm2,tl2,Xt,rfl,hZ2⟩:=hS2
 have QF:=hI.nv
 have aIw:=hI.len
 refine SR<|V (aN T3 avk)<|aa<|ai<|aF O (fun h42=> ?_) (fun h42=> ?_)
 .refine an<|ai<|aA<|SR<|aE T3<|V (ah (hs.vars.sl.hp lG) lU Fb avj T3 J)<|V (dZ (dv:=fq) tF (hs.vars.sl.hp lG) o4 O O O J)<|lK lG (aS Tryz.zeroValue63)<|fun b45 w43 qo=>aI rfl<|bk qo (i:=0) O (dO (c':=(O1 _).toArray) O O O LN (qo.blk (i:=0) O) O)<|fun w48 FR=>aa<|SR<|have hvl:=(hsv _ (dy (d:=fq) j0 ‹j<_›)).2;?_
  rw[<-aIw]at hvl
  refine aE arj<|V (fA o4 2 O aO O)<|lI bx FR 0 O O rfl<|cD O (alk (p.vars.getD j.toNat fq).bf hI.nw.ns.ok J J (A:=[_,_]) (R:=[]) hZ2 FR) (aM call18 O O)<| ?_
  rintro _ w57 (⟨hno,-⟩|⟨-,-,rfl,aRB,Z53,aRC,aIx,Hg⟩)
  .exact absurd ⟨hI.sk,hvl.1,hvl.2⟩ hno
  have oK:Hp _ w57 (_::_::(Z53++[])):=Hg
  refine mI rfl<|V (jZ O O)<|aa<|cL (bF ((fun h=>h J)))<|an<|au<|V (ax T3 O J)<|mI rfl<|aa<| ?_
  refine⟨(j+1,qP s (p.vars.getD j.toNat fq).bf (s.aq.getD (p.vars.getD j.toNat fq).bf.toNat pT).low,(Z53++[])),aW,avi.u4.u4.u4.u1.u1,(oK.sub (sQ sR)),(aK I aL),J,J,?_,?_,?_⟩
  .exact hI.next j0 ‹j<_› hs2 hvl
  .exact aBL
  (rw[show(j+1).toNat=j.toNat+1 by omega,<-zH];exact⟨_,_,_,_,rfl,aIx⟩)
 refine a8 (id:=2) rfl<|SR<|aE arj<|va (v:=Pn _ _) rfl<|va (v:=B true) rfl<|aa<|aj<|af1 O O O ⟨n6,s,_,_,_,_,p.aq.length+j.toNat,rfl,hI.fin j0 hj ‹¬j<_›,hI.nw,hI.qs,hI.sk,hI.wr,aBL,J,hZ2,by simpa using(lG.sub (sQ sR))⟩
theorem Dv{s:NP}{ids:List Nat}{f:Ct}{tl:List (Nat×Rl)}{b c:Nat}{Z:List bu}(x:iO)(i:Int)(hok:Ea s)(oy:x.code.length<=1000)(hi:0<=i/\i<=1000)(hb:b<=70)(hc:c<=1000)(w:World)(hT:o6 W0)(hx:J8 (Kw W0) x)(hZ:j9 fr W0 n s lg tm ids f tl b c Z)(hH:Hp W0 w Z):Calls Tryz.prog 13 #[pt n,.agg (uR x).toArray,I i] w (jY fun u w'=>∃(ok:Bool) (s':NP) (new:List (Value×mw)) (Ub:List Int) (Z':List bu),u=B ok/\Ti s s' x i.toNat ok/\iP new s s'/\TmX x.op ok lg tm Ub/\j9 fr W0 n s' (lg++new) Ub ids f tl b (c+1) Z'/\Hp W0 w' Z'):=by
 refine en func13 rfl rfl<|have hH:=(show Hp W0 w (Z++[])by simpa using hH);SR<|gN hH (v:= .agg _) rfl<|fun b3 w1 bp=>va (v:=B false) rfl<|aa<|SR<|V (fA fg 0 O aO O)<|lI bx bp 0 O O rfl<|V (jZ O O)<|mB rfl<|bK 10 O (fun h5=> ?_) (fun h5=> ?_)
 .refine aE (v:=B true) rfl<|aB rfl<|aa<|aj<|jA (v:=B true) O O ⟨true,s,[],tm,Z,rfl,⟨fun _=>⟨rfl,rfl⟩,fun q=>absurd q lA⟩,iP.nil s,TmX.no lA,by rw[mY];exact j9.more hZ (fh _) (Nat.le_succ _),(by simpa using(bp.sub (sQ sR)))⟩
 refine aE (v:=Pn _ _) rfl<|V (fA fg 1 O aO O)<|lI bx bp 0 O O rfl<|V (fA fg 2 O xW O)<|V (bZ (hx.code.sl.hp bp) ia O O (bp.cell (i:=0) O O))<|V (fA fg 3 O kQ O)<|V (iN (sub:=jJ _) kM O O O (bp.blk (i:=0) O) (abx _))<|mI rfl<|V (iZ bx xR O)<|V (Ge (a:=1#64) O O)<|cD O (acU x.bf x.cv x.code x.to _ hok oy hb hc hT (A:=[_]) (X:=[]) (hx.code.mono (Le.z _ _)) hZ bp) (sE call25 O O O O O)<| ?_
 rintro _ K9 ⟨ok8,s9,aIy,aIz,Z12,rfl,aBM,aIA,aub,aIB,G9⟩
 have iD:Hp _ K9 (_::(Z12++[])):=G9
 refine mB rfl<|aB rfl<|aa<|aj<|jA (v:=B ok8) O O ⟨ok8,s9,aIy,aIz,Z12,rfl,⟨fun q=>absurd J q,fun _=>by rw[aEG hi]at aBM;exact aBM⟩,aIA,TmX.yes J aub,aIB,(by simpa using(iD.sub (sQ sR)))⟩
theorem ke(w:World)(hT:o6 w):Calls Tryz.prog 11 #[] w (Pure (B true) w):=by
 have hwr:WrF .nilFunc []:= .inl O
 have hZ:=kU.nil (T:=BG [])
 have hf:=FF.zero
 obtain⟨-,SK⟩:=Ax (aEI N_ N_ N_ N_ N_ N_ N_ N_)
 have oy:=aEJ N_ N_ N_
 refine eH func11 rfl rfl fun hH=>SR<|va (v:=B false) rfl<|aa<|SR<|cD O (OP _ hwr.cells _) (ay call36 (show _=Value.nilFunc from O))<| ?_
 rintro _ EL ⟨n3,Zn4,rfl,h7,hn6⟩
 obtain⟨Z5,hZ8,iE⟩:=j9.new (A:=[]) (fr:=[]) hn6 hZ hf (by simpa using Hp.Gr hH h7)
 simp only[gB,eN]at iE
 refine va (v:=Pn _ _) rfl<|aa<|SR<|aE (v:=Pn _ _) rfl<|tR 2 2 iE (cB dX O O (sz:=1) (vs:=[.string ⟨#[108,111]⟩,.string ⟨#[104,105]⟩]) O O az az O O)<|fun N8 I8 cP=>have cG:Hp _ I8 (([bu.blk N8 (.cells (JD wM).toArray 9 (0,0))]++(Z5++[]))):=Hp.HD (Z:=[bu.blk N8 (.cells (JD wM).toArray 9 (0,0))]) (L:=[]) (L':=(Z5++[])) cP;have ao2:oR (Kz (Kw w) [bu.blk N8 (.cells (JD wM).toArray 9 (0,0))]) (.slice (some ⟨N8,0,none⟩) 2 2) 1 2 (JD wM):=Gs (qU ..) O gd;have cI:=Hp.mK (A:=[]) (B:=[bu.blk N8 (.cells (JD wM).toArray 9 (0,0))]) (R:=Z5) cG;V (dI (vs:=[(0,I 1),(1,.slice (some ⟨N8,0,none⟩) 2 2)]) O (aeC 1 N8 2 wM))<|tR 1 1 cI (Ab dm O O O (l:=[_]) O az az O)<|fun b19 Tp dP=>have cT:Hp _ Tp (([bu.blk b19 (.cells ([(⟨1,.slice (some ⟨N8,0,none⟩) 2 2,wM,Rl.none⟩:qz)].flatMap sI).toArray 88 (0,0))]++(Z5++([bu.blk N8 (.cells (JD wM).toArray 9 (0,0))]++[])))):=Hp.HD (Z:=[bu.blk b19 (.cells ([(⟨1,.slice (some ⟨N8,0,none⟩) 2 2,wM,Rl.none⟩:qz)].flatMap sI).toArray 88 (0,0))]) (L:=[]) (L':=(Z5++([bu.blk N8 (.cells (JD wM).toArray 9 (0,0))]++[]))) dP;have aIC:oR (Kz (Kw w) [bu.blk b19 (.cells ([(⟨1,.slice (some ⟨N8,0,none⟩) 2 2,wM,Rl.none⟩:qz)].flatMap sI).toArray 88 (0,0))]) (.slice (some ⟨b19,0,none⟩) 1 1) 67 1 ([(⟨1,.slice (some ⟨N8,0,none⟩) 2 2,wM,Rl.none⟩:qz)].flatMap sI):=Gs (qU ..) (fK fB _) gd;have cF:=Hp.mK (A:=[]) (B:=[bu.blk b19 (.cells ([(⟨1,.slice (some ⟨N8,0,none⟩) 2 2,wM,Rl.none⟩:qz)].flatMap sI).toArray 88 (0,0))]) (R:=Z5) cT;V (dI (vs:=[(1,.slice (some ⟨b19,0,none⟩) 1 1)]) O (ZV O))<|have hsh:k8 (Kz (Kw w) ([bu.blk b19 (.cells ([(⟨1,.slice (some ⟨N8,0,none⟩) 2 2,wM,Rl.none⟩:qz)].flatMap sI).toArray 88 (0,0))]++([bu.blk N8 (.cells (JD wM).toArray 9 (0,0))]++[]))) (⟨false,.slice (some ⟨b19,0,none⟩) 1 1,[(⟨1,.slice (some ⟨N8,0,none⟩) 2 2,wM,Rl.none⟩:qz)]⟩:kR):=⟨(aIC.mono (Le.zz (fun x hx=>(dL _ hx)))),fun x hx=>by rw[gG.1 hx];exact⟨(ao2.mono (Le.zz (fun x hx=>(bH _ (dL _ hx)))))⟩⟩;cD O (ari (⟨false,.slice (some ⟨b19,0,none⟩) 1 1,[(⟨1,.slice (some ⟨N8,0,none⟩) 2 2,wM,Rl.none⟩:qz)]⟩:kR) (show 1<=1000 by decide) (fun f hf=>by rw[gG.1 hf];exact(by decide:wM.length<=1000)) az hwr J J hT hsh (A:=[]) (X:=([bu.blk b19 (.cells ([(⟨1,.slice (some ⟨N8,0,none⟩) 2 2,wM,Rl.none⟩:qz)].flatMap sI).toArray 88 (0,0))]++([bu.blk N8 (.cells (JD wM).toArray 9 (0,0))]++[]))) hZ8 cF) (aM call19 O O)<| ?_
 rintro _ w36 (⟨hno,-⟩|⟨-,x25,aRG,aRH,Z28,aID,rfl,aIE,aIF,auu,aRJ,akM,BK⟩)
 .exact absurd hno (by rintro(q|q);cases q;exact absurd (q.symm.trans aEK) az)
 have uw:Hp _ w36 ((Z28++[])):=BK
 refine V (run_assign (show _=I 0 from O))<|aa<|SR<|have hB1:NM (rG N_ N_ N_ N_) 1 [x25]:=NM.next (p:=(rG N_ N_ N_ N_)) (k:=0) (ls:=[]) ⟨rfl,fun x hx=>by cases hx⟩ J az aID aIE aIF;have hI0:=NM.fin (p:=(rG N_ N_ N_ N_)) (k:=1) (x:= .nilFunc) hB1 J az;aE (v:=Pn _ _) rfl<|mI rfl<|cD O (alk 0 hI0.nw.ns.ok J J (A:=[]) (R:=[]) akM uw) (aM call18 O O)<| ?_
 rintro _ w45 (⟨hno,-⟩|⟨-,-,rfl,aRL,Z41,aRN,aIG,h44⟩)
 .exact absurd ⟨hI0.sk,az,(show(0:Int)<((1:Nat):Int)by decide)⟩ hno
 have oe:Hp _ w45 ((Z41++[])):=h44
 have hI1:=Ki.next (j:=0) hI0 J az az ⟨az,(show(0:Int)<((1:Nat):Int)by decide)⟩
 refine aE (v:=Pn _ _) rfl<|mI rfl<|cD O (alk 0 hI1.nw.ns.ok J J (A:=[]) (R:=[]) aIG oe) (aM call18 O O)<| ?_
 rintro _ w54 (⟨hno,-⟩|⟨-,-,rfl,aRO,Z50,aRP,aIH,h53⟩)
 .exact absurd ⟨hI1.sk,az,(show(0:Int)<((1:Nat):Int)by decide)⟩ hno
 have jC:Hp _ w54 ((Z50++[])):=h53
 refine V (run_assign (show _=I 0 from O))<|V (run_assign (show _=I 1 from O))<|aa<|SR<|have hI2:=Ki.next (j:=1) hI1 J az az ⟨az,(show(0:Int)<((1:Nat):Int)by decide)⟩;have hL0:=BF.start (l:=(Bi N_ N_ N_)) (Ki.fin (j:=2) hI2 J az az) hI2.nw hI2.qs;aE (v:=Pn _ _) rfl<|mI rfl<|V (dI (vs:=[(0,U 1#64)]) O (QO _))<|V (dI (vs:=[(0,I 2),(2,.agg (iM xq))]) O (aaH 2 xq))<|tR 1 1 jC (ox gP ia O O O (l:=[_]) O az az O)<|fun b58 w56 aaQ=>have BT:Hp _ w56 (([bu.blk b58 (.cells ([⟨2,0,xq⟩].flatMap kg).toArray 90 (0,0))]++(Z50++[]))):=Hp.HD (Z:=[bu.blk b58 (.cells ([⟨2,0,xq⟩].flatMap kg).toArray 90 (0,0))]) (L:=[]) (L':=(Z50++[])) aaQ;have aII:oR (Kz (Kw w) [bu.blk b58 (.cells ([⟨2,0,xq⟩].flatMap kg).toArray 90 (0,0))]) (.slice (some ⟨b58,0,none⟩) 1 1) 10 1 ([⟨2,0,xq⟩].flatMap kg):=Gs (qU ..) (fK gP _) gd;have Ef:=Hp.mK (A:=[]) (B:=[bu.blk b58 (.cells ([⟨2,0,xq⟩].flatMap kg).toArray 90 (0,0))]) (R:=Z50) BT;mI rfl<|V (dI (vs:=[(0,I 0)]) O (Du 0))<|cD O (acU 0 _ [⟨2,0,xq⟩] ⟨0,dg⟩ 1#64 hI2.nw.ns.ok az J J hT (A:=[]) (X:=([bu.blk b58 (.cells ([⟨2,0,xq⟩].flatMap kg).toArray 90 (0,0))]++[])) (aII.mono (Le.zz (fun x hx=>(dL _ hx)))) aIH Ef) (sE call25 O O O O (show _=U 1#64 from O))<| ?_
 rintro _ w74 ⟨aIJ,s65,aRS,aRT,Z68,rfl,aIK,aRU,aRV,aoP,h73⟩
 have uY:Hp _ w74 ((Z68++[])):=h73
 refine aB rfl<|aa<|SR<|have hX0:Ti _ s65 ((Bi N_ N_ N_).getD 0 dQ) 0 aIJ:=⟨fun q=>absurd O q,fun _=>aIK⟩;?_
 obtain⟨aIL,hL1,aIM,-⟩:=BF.add hL0 az az SK oy hI2.sk hX0
 subst aIL
 refine aE (v:=Pn _ _) rfl<|mI rfl<|mI rfl<|V (dI (vs:=[(0,I 1),(1,I 0)]) O (OH 1 0))<|tR 1 1 uY (ox gP ia O O O (l:=[_]) O az az O)<|fun b79 w77 zk=>have pE:Hp _ w77 (([bu.blk b79 (.cells ([⟨1,0,dg⟩].flatMap kg).toArray 90 (0,0))]++(Z68++[]))):=Hp.HD (Z:=[bu.blk b79 (.cells ([⟨1,0,dg⟩].flatMap kg).toArray 90 (0,0))]) (L:=[]) (L':=(Z68++[])) zk;have aIN:oR (Kz (Kw w) [bu.blk b79 (.cells ([⟨1,0,dg⟩].flatMap kg).toArray 90 (0,0))]) (.slice (some ⟨b79,0,none⟩) 1 1) 10 1 ([⟨1,0,dg⟩].flatMap kg):=Gs (qU ..) (fK gP _) gd;have oZ:=Hp.mK (A:=[]) (B:=[bu.blk b79 (.cells ([⟨1,0,dg⟩].flatMap kg).toArray 90 (0,0))]) (R:=Z68) pE;mI rfl<|V (dI (vs:=[(0,I 1)]) O (Du 1))<|cD O (acU 0 _ [⟨1,0,dg⟩] ⟨1,dg⟩ 2#64 hL1.nw.ns.ok az J J hT (A:=[]) (X:=([bu.blk b79 (.cells ([⟨1,0,dg⟩].flatMap kg).toArray 90 (0,0))]++[])) (aIN.mono (Le.zz (fun x hx=>(dL _ hx)))) aoP oZ) (sE call25 O O O O (show _=U 2#64 from O))<| ?_
 rintro _ w95 ⟨aIO,s86,aRZ,aR0,Z89,rfl,aIP,aR2,aR3,aIQ,h94⟩
 have pY:Hp _ w95 ((Z89++[])):=h94
 refine aB rfl<|aa<|SR<|have hX1:Ti s65 s86 ((Bi N_ N_ N_).getD 1 dQ) 1 aIO:=⟨fun q=>absurd O q,fun _=>aIP⟩;?_
 obtain⟨PA,hL2,avl,-⟩:=BF.add hL1 az az SK oy aIM hX1
 subst PA
 refine aE (v:=Pn _ _) rfl<|cD O (Hy hT hL2.nw J J (A:=[]) (R:=[]) aIQ pY) (ay call15 O)<| ?_
 rintro _ aIR ⟨aBN,afb,aLV,f103,aR6,aR7,ao3,rfl,aBO,aLW,aLX,aLY,aLZ,alm,auH⟩
 have JU:Hp _ aIR ((ao3++[])):=auH
 have hP1:=BF.set hL2 az (aBO.go avl)
 have aIS:aBN=true:=hP1.is.2 as7
 subst aIS
 have Qj:afb.ak.length=2:=hP1.net.np.nv
 have hy2:afb.bq.length=2:=hP1.net.nw.ns.ok.T9.trans Qj
 have hv1:rR (afb.ak.getD 1 dg) xq:=anS (hP1.low O) (hP1.all O)
 have hy1:afb.bq.getD 1 0&&&3#64=3#64:=axP (x:=vQ afb.ak) hv1 (hP1.why O 1 az)
 refine mB rfl<|cC O rfl<|aE (v:=Pn _ _) rfl<|mI rfl<|aH O JU (acV _ alm JU (fun x hx=>(dL _ hx))) (aM call23 O O)<|fun aoT zo=>V (dI (vs:=[(0,U 1#64)]) O (QO _))<|V (IG CZ O O)<|mB rfl<|mB rfl<|cC O (bT ((by rw[(aX (show(0:Int)<=1/\(1:Int)<_ from⟨J,J⟩))];exact hv1)))<|aE (v:=Pn _ _) rfl<|mI rfl<|aH O zo (aBK _ alm zo (fun x hx=>(dL _ hx))) (aM call21 O O)<|fun aIn acT=>V (kx O (b:=3#64) O)<|V (iU O (b:=3#64) O)<|mB rfl<|aB rfl<|aa<|SR<|aE (v:=Pn _ _) rfl<|mI rfl<|mI rfl<|V (dI (vs:=[(0,I 1),(1,I 1)]) O (OH 1 1))<|tR 1 1 acT (ox gP ia O O O (l:=[_]) O az az O)<|fun afc atY pZ=>have aBP:Hp _ atY (([bu.blk afc (.cells ([⟨1,1,dg⟩].flatMap kg).toArray 90 (0,0))]++(ao3++[]))):=Hp.HD (Z:=[bu.blk afc (.cells ([⟨1,1,dg⟩].flatMap kg).toArray 90 (0,0))]) (L:=[]) (L':=(ao3++[])) pZ;have alc:oR (Kz (Kw w) [bu.blk afc (.cells ([⟨1,1,dg⟩].flatMap kg).toArray 90 (0,0))]) (.slice (some ⟨afc,0,none⟩) 1 1) 10 1 ([⟨1,1,dg⟩].flatMap kg):=Gs (qU ..) (fK gP _) gd;have ald:=Hp.mK (A:=[]) (B:=[bu.blk afc (.cells ([⟨1,1,dg⟩].flatMap kg).toArray 90 (0,0))]) (R:=ao3) aBP;V (dI (vs:=[(0,I (-1))]) O (Du (-1)))<|cD O (acU 0 _ [⟨1,1,dg⟩] ⟨-1,dg⟩ 4#64 hP1.net.nw.ns.ok az J J hT (A:=[]) (X:=([bu.blk afc (.cells ([⟨1,1,dg⟩].flatMap kg).toArray 90 (0,0))]++[])) (alc.mono (Le.zz (fun x hx=>(dL _ hx)))) alm ald) (sE call25 O O O O (show _=U 4#64 from O))<| ?_
 rintro _ aoQ ⟨aBQ,aIT,aL0,aL1,aIU,rfl,aBR,aL2,aL3,aBS,aIV⟩
 have n9:Hp _ aoQ ((aIU++[])):=aIV
 refine aB rfl<|aa<|SR<|have hX2:Ti afb aIT ((Bi N_ N_ N_).getD 2 dQ) 2 aBQ:=⟨fun q=>absurd O q,fun _=>aBR⟩;?_
 obtain⟨N5,hL3,aIW,-⟩:=BF.add hP1.net az az SK oy hP1.sk hX2
 subst N5
 refine aE (v:=Pn _ _) rfl<|cD O (Hy hT hL3.nw J J (A:=[]) (R:=[]) aBS n9) (ay call15 O)<| ?_
 rintro _ ayD ⟨ark,aSa,aL5,f149,aSb,aSc,aIX,rfl,aBT,aL6,aL7,aL8,aL9,aBU,aIY⟩
 have WZ:Hp _ ayD ((aIX++[])):=aIY
 refine aB rfl<|aa<|SR<|have hP2:=BF.set hL3 az (aBT.go aIW);have aI0:ark=false:=(by cases h:ark;rfl;exact absurd (hP2.is.1 h) axQ);?_
 subst aI0
 refine aE (v:=Pn _ _) rfl<|aH O WZ (acW aBU WZ (fun x hx=>(dL _ hx))) (ay call16 O)<|fun aIg acR=> ?_
 refine V (run_move bA) ?_
 refine V (bg O (v:=U _) O)<|V (bg O (v:=B _) O)<|aU rfl<|aB rfl<|aa<|SR<|mB rfl<|mB rfl<|cC O rfl<|mB rfl<|mB rfl<|mB rfl<|cC O rfl<|mB rfl<|mB rfl<|mB rfl<|cC O (bT ((by rw[(aX (show(0:Int)<=1/\(1:Int)<_ from⟨J,J⟩))];exact hy1)))<|mB rfl<|mB rfl<|mB rfl<|cC O rfl<|mB rfl<|V (bJ O)<|mB rfl<|mB rfl<|cC O rfl<|mB rfl<|mB rfl<|mB rfl<|cC O (bR (c:=true) (hP2.sk))<|mU rfl<|V (kx O (b:=7#64) O)<|V (iU O (b:=7#64) O)<|mB rfl<|aB rfl<|aa<|aj<|oB O ?_ acR
 exact gW (anT (hP2.no O))
end
section
open Go Go.RowKit Go.Proofs.YtlhjdflgjbkpmaaGreatDoor.E Go.Proofs.YtlhjdflgjbkpmaaGreatDoor.M
set_option maxRecDepth 100000
open Go.Proofs.Tryz
variable{fr:List bu}
variable{W0 w:World}{n m:Nat}{cs:List (List Nat)}{wr:Value}{vL:Value}{vt:Value}{vv:Value}{vy:Value}{vu:Value}{vq:Value}{sn:Int}{vW:Value}{vU:Value}{vT:Value}{cn:Int}{sk:Bool}{wy:BitVec 64}{vd:Value}{vm:Value}{cW:Option (Nat×Array Value)}{cU:Option (Nat×Array Value)}{W:List (BitVec 64)}{ul:List (Value×jS)}{ts:List Int}{aq:List pP}{bf:List Int}{ak:List El}{bq:List (BitVec 64)}{us:List j4}{qs:List dD}{lg:List (Value×mw)}{tm:List Int}{L:List bu}
theorem A6(p:n7)(w:World)(hp:vS (Kw w) p):Calls Tryz.prog 10 #[.agg (xh p).toArray] w (Pure (B (kS p)) w):=by
 have B0:=hp.aY.small
 unfold maxLen at B0
 refine eH func10 rfl rfl fun hH=>SR<|gN hH (v:= .agg _) rfl<|fun b3 w1 bp=>va (v:=B false) rfl<|aa<|ai<|SR<|V (fA m5 0 O zO O)<|V (iN (sub:=CE _) gI O O O (bp.blk (i:=0) O) (DS _))<|aH O bp (AY _ _ (hp.s.mono bp.kw)) (ay call34 O)<|fun w4 bY=>V (bJ O)<|mB rfl<|ez 8 O (fun h8=> ?_) (fun h8=> ?_)
 .refine aE (v:=B true) rfl<|aa<|ct rfl<|SR<|va (v:=B false) rfl<|aa<|aj<|oB O ?_ bY
  (rw[ahM (nt ‹(!jc p.s)=true›)];done)
 refine V (fA m5 2 O vp O)<|V (bZ (hp.aY.sl.hp bY) nZ O O (bY.cell (i:=0) O O))<|V (aC (hp.aY.sl.hp bY) O nZ O)<|V (dN O O)<|mB rfl<|aa<|aF O (fun h10=> ?_) (fun h10=> ?_)
 .refine SR<|va (v:=B false) rfl<|aa<|aj<|oB O ?_ bY
  (rw[ahN J];done)
 refine an<|ai<|SR<|va (v:=I 0) rfl<|aa<|aA<|have hsz:¬64<p.aY.length:=J;bt (G:=Int) (fun k s' w'=>(Fr (2::3::(rg 14 16 [])) _ s')/\(Hp w w' _)/\(s' 3=I k)/\(0<=k)/\(k<=p.aY.length)/\(∀j:Int,0<=j->j<k->kO p.s (p.aY.getD j.toNat dQ)=true)) (fun k=>(p.aY.length-k).toNat) (0) ⟨Fr.refl _ _,bY,rfl,J,J,fun j a b=>absurd b J⟩<| ?_
 rintro k ax2 I8 ⟨Kk,df,aln,h0,hk,hg⟩
 have ES:=Kk.w1 1
 refine ai<|SR<|aE aln<|V (fA m5 2 O vp ES)<|V (bZ (hp.aY.sl.hp df) nZ O O (df.cell (i:=0) O O))<|V (aC (hp.aY.sl.hp df) O nZ O)<|V (aN O O)<|aa<|aF O (fun To=> ?_) (fun To=> ?_)
 .refine an<|ai<|aA<|ai<|ed aP df<|fun QT gT=>have aaU:=gT;AQ 0 O aaU (fA m5 0 O zO ES)<|AT 1 O aaU (fun w hS=>iN (sub:=CE _) gI O O O (hS.blk (i:=0) O) (DS _))<|AQ 2 O aaU (fA m5 2 O vp ES)<|AT 3 O aaU (fun w hS=>bZ (hp.aY.sl.hp hS) nZ O O (hS.cell (i:=0) O O))<|AQ 4 O aaU (run_move aln)<|AT 5 O aaU (fun w hS=>ah (hp.aY.sl.hp hS) nZ HU O O J)<|AT 6 O aaU (fun w hS=>dZ (dv:=dQ) vR (hp.aY.sl.hp hS) fg O O O J)<|A1 7<|cw O aD O gT sR (AZ _ _ _ (hp.s.mono gT.kw) ((hp.at J J).mono gT.kw)) (aM call35 O O)<|fun Ja er=>AQ 8 O er (bJ O)<|AD<|bW O (fun O0=> ?_) (fun O0=> ?_)
  .refine SR<|va (v:=B false) rfl<|aa<|aj<|oB O ?_ er
   (rw[ahO h0 ‹k<_› (nt ‹(!kO p.s _)=true›)];done)
  refine an<|au<|aE aln<|V (ax O O J)<|aI rfl<|aa<| ?_
  refine⟨k+1,aW,Kk.u4.u4.u4.u4.u1,er,(aK I aL),J,J,?_⟩
  exact fun j u v=>if e:j=k then e▸nf ‹(!kO _ _)=false›else hg j u J
 refine a8 (id:=0) rfl<|SR<|va (v:=B true) rfl<|aa<|aj<|oB O ?_ df
 (rw[ahP (nf ‹(!jc p.s)=false›) J ‹¬k<_› hg];done)
theorem BY(x:iO)(w:World)(hx:J8 (Kw w) x):Calls Tryz.prog 33 #[.agg (uR x).toArray] w (Pure (B (xk x)) w):=by
 have B0:=hx.code.small
 have Ke:=hx.a.fields.small
 have hm3:=hx.b.fields.small
 unfold maxLen at B0 Ke hm3
 refine eH func33 rfl rfl fun hH=>SR<|gN hH (v:= .agg _) rfl<|fun b3 w1 bp=>va (v:=B false) rfl<|aa<|ai<|SR<|V (fA fg 2 O xW O)<|V (bZ (hx.code.sl.hp bp) ia O O (bp.cell (i:=0) O O))<|V (aC (hx.code.sl.hp bp) O ia O)<|V (dN O O)<|mB rfl<|bK 9 O (fun h5=> ?_) (fun h5=> ?_)
 .refine aE (v:=B true) rfl<|mB rfl<|cC O rfl<|aE (v:=B true) rfl<|mB rfl<|cC O rfl<|aE (v:=B true) rfl<|aa<|ct rfl<|SR<|va (v:=B true) rfl<|aa<|aj<|oB O ?_ bp
  exact(DT J).symm
 refine V (fA fg 12 O HT O)<|V (fA qb 0 O vk O)<|V (bZ (hx.a.fields.sl.hp bp) m4 O O (bp.cell (i:=0) O O))<|V (aC (hx.a.fields.sl.hp bp) O m4 O)<|V (dN O O)<|mB rfl<|mB rfl<|bK 16 O (fun h7=> ?_) (fun h7=> ?_)
 .refine aE (v:=B true) rfl<|mB rfl<|cC O rfl<|aE (v:=B true) rfl<|aa<|ct rfl<|SR<|va (v:=B true) rfl<|aa<|aj<|oB O ?_ bp
  exact(DT J).symm
 refine V (fA fg 14 O HT O)<|V (fA qb 0 O vk O)<|V (bZ (hx.b.fields.sl.hp bp) m4 O O (bp.cell (i:=0) O O))<|V (aC (hx.b.fields.sl.hp bp) O m4 O)<|V (dN O O)<|mB rfl<|mB rfl<|bK 23 O (fun h9=> ?_) (fun h9=> ?_)
 .refine aE (v:=B true) rfl<|aa<|ct rfl<|SR<|va (v:=B true) rfl<|aa<|aj<|oB O ?_ bp
  exact(DT J).symm
 refine V (fA fg 17 O kr O)<|V (aG iy O O (bp.cell (i:=0) O (v:= .string _) O))<|V (lB O iy O)<|V (dN O O)<|mB rfl<|aa<|aF O (fun h11=> ?_) (fun h11=> ?_)
 .refine SR<|va (v:=B true) rfl<|aa<|aj<|oB O ?_ bp
  exact(DT J).symm
 refine an<|ai<|ai<|ed aP bp<|fun zc bX=>have aaV:=bX;AQ 1 O aaV (fA fg 12 O HT O)<|AQ 2 O aaV (fA qb 0 O vk O)<|AT 3 O aaV (fun w hS=>bZ (hx.a.fields.sl.hp hS) m4 O O (hS.cell (i:=0) O O))<|AQ 5 O aaV (fA fg 14 O HT O)<|AQ 6 O aaV (fA qb 0 O vk O)<|AT 7 O aaV (fun w hS=>bZ (hx.b.fields.sl.hp hS) m4 O O (hS.cell (i:=0) O O))<|AQ 10 O aaV (mV (I 0) O)<|A1 0<|cH O aD O bX sR (f:=fun b=> .slice (some ⟨b,0,none⟩) 0 0) (s3 m4 HR)<|fun b16 QT gT=> ?_
 (try simp only[lj]at gT)
 have er:=gT.sF 0 10 O az
 refine A1 4<|fT O aD O er (j:=0) O (fun _=>(sQ sR)) (hx.a.fields.sl.hp er) O O m4 O O (size:=10) (bytes:=88) O O O az (M9 _) (by show(0+_)*_<=_;omega) (by show 0+_<=_;simp only[maxLen];omega)<|fun v20 K9 iD=>A1 8<|fT O aD O iD (j:=0) O (fun _=>(sQ sR)) (hx.b.fields.sl.hp iD) O O m4 O O (size:=10) (bytes:=88) O O O az (M9 _) (by show(_+_)*_<=_;omega) (by show _+_<=_;simp only[maxLen];omega)<|fun v23 NU cF=>A1 9<|cf O aD O cF (sQ sR) (aC (cF.sl (i:=0) O) O m4 O)<|AD<|aA<|have hap:(x.a.fields++x.b.fields).length=x.a.fields.length+x.b.fields.length:=ec;?_
 simp only[gO,eN,<-Gb,<-ec]at cF
 refine bt (G:=Int) (fun k s' w'=>(Fr (2::(4::(rg 39 9 []))) _ s')/\(Hp w w' _)/\(s' 39=I k)/\(0<=k)/\(k<=(x.a.fields++x.b.fields).length)/\(∀j:Int,0<=j->j<k->decide (40<((x.a.fields++x.b.fields).getD j.toNat nO).name.size)=false)) (fun k=>((x.a.fields++x.b.fields).length-k).toNat) (0) ⟨Fr.refl _ _,cF,rfl,J,J,fun j a b=>absurd b J⟩ ?_
 rintro k aEW Wx ⟨aj0,jg,aaW,h0,hk,hg⟩
 obtain⟨avm,avn⟩:=aj0.w2 37 38
 refine SR<|V (aN aaW avn)<|aa<|ai<|aF O (fun Wv=> ?_) (fun Wv=> ?_)
 .refine an<|ai<|aA<|SR<|V (ah (jg.sl (i:=0) O) m4 HR avm aaW J)<|V (dZ (dv:=nO) sK (jg.sl (i:=0) O) HP O O O J)<|lK jg (aS ZX)<|fun b31 w29 iW=>bk iW (i:=0) O (dO (c':=(uv _).toArray) O O O (M0 _) (iW.blk (i:=0) O) O)<|fun w32 ko=>aa<|SR<|V (fA HP 0 O kr O)<|V (aG iy O O (ko.cell (i:=0) O (v:= .string _) O))<|V (lB O iy O)<|V (dN O O)<|aa<|aF O (fun BK=> ?_) (fun BK=> ?_)
  .refine SR<|va (v:=B true) rfl<|aa<|aj<|oB O ?_ ko
   exact(adZ O h0 J J).symm
  refine an<|au<|V (ax aaW O J)<|mI rfl<|aa<| ?_
  refine⟨k+1,aW,aj0.u4.u4.u1.u1,(ko.sub (sQ sR)),(aK I aL),J,J,?_⟩
  exact fun j u v=>if e:j=k then e▸gZ (by omega)else hg j u J
 refine a8 (id:=0) rfl<|SR<|va (v:=B false) rfl<|aa<|aj<|oB O ?_ jg
 exact(amP O J J hg).symm
theorem Dw(p:n7)(w:World)(hp:vS (Kw w) p):Calls Tryz.prog 9 #[.agg (xh p).toArray] w (Pure (B (O6 p)) w):=by
 have B0:=hp.aY.small
 unfold maxLen at B0
 refine eH func9 rfl rfl fun hH=>SR<|gN hH (v:= .agg _) rfl<|fun b3 w1 bp=>va (v:=B false) rfl<|aa<|ai<|SR<|V (fA m5 0 O zO O)<|V (iN (sub:=CE _) gI O O O (bp.blk (i:=0) O) (DS _))<|aH O bp (Dd _ _ (hp.s.mono bp.kw)) (ay call32 O)<|fun w4 bY=>mB rfl<|ez 8 O (fun h7=> ?_) (fun h7=> ?_)
 .refine aE (v:=B true) rfl<|aa<|ct rfl<|SR<|va (v:=B true) rfl<|aa<|aj<|oB O ?_ bY
  exact(Qi (.inl aQ)).symm
 refine V (fA m5 2 O vp O)<|V (bZ (hp.aY.sl.hp bY) nZ O O (bY.cell (i:=0) O O))<|V (aC (hp.aY.sl.hp bY) O nZ O)<|V (dN O O)<|mB rfl<|aa<|aF O (fun h9=> ?_) (fun h9=> ?_)
 .refine SR<|va (v:=B true) rfl<|aa<|aj<|oB O ?_ bY
  exact(Qi (.inr J)).symm
 refine an<|ai<|SR<|V (fA m5 2 O vp O)<|V (bZ (hp.aY.sl.hp bY) nZ O O (bY.cell (i:=0) O O))<|V (aC (hp.aY.sl.hp bY) O nZ O)<|aE (v:=I 0) rfl<|aa<|aA<|bt (G:=Int) (fun k s' w'=>(Fr (2::(4::(rg 17 7 []))) _ s')/\(Hp w w' _)/\(s' 17=I k)/\(0<=k)/\(k<=p.aY.length)/\(∀j:Int,0<=j->j<k->xk (p.aY.getD j.toNat dQ)=false)) (fun k=>(p.aY.length-k).toNat) (0) ⟨Fr.refl _ _,bY,rfl,J,J,fun j a b=>absurd b J⟩<| ?_
 rintro k Wz EL ⟨nS,cg,aaX,h0,hk,hg⟩
 obtain⟨avo,avp⟩:=nS.w2 15 16
 refine SR<|V (aN aaX avp)<|aa<|ai<|aF O (fun h12=> ?_) (fun h12=> ?_)
 .refine an<|ai<|aA<|SR<|V (ah (hp.aY.sl.hp cg) nZ HU avo aaX J)<|V (dZ (dv:=dQ) vR (hp.aY.sl.hp cg) fg O O O J)<|lK cg (aS G2)<|fun b15 C2 cG=>bk cG (i:=0) O (dO (c':=(uR _).toArray) O O O (GC (hp.at J J)) (cG.blk (i:=0) O) O)<|fun Ja er=>aa<|SR<|V (cA (cs:=uR _) fg O O O (bj (er.blk (i:=0) O)))<|aH O er (BY _ _ ((hp.at J J).mono er.kw)) (ay call33 O)<|fun K9 iD=>aa<|bW O (fun Ob=> ?_) (fun Ob=> ?_)
  .refine SR<|va (v:=B true) rfl<|aa<|aj<|oB O ?_ iD
   exact(ad0 h0 ‹k<_› aQ).symm
  refine an<|au<|V (ax aaX O J)<|mI rfl<|aa<| ?_
  refine⟨k+1,aW,nS.u4.u4,(iD.sub (sQ sR)),(aK I aL),J,J,?_⟩
  exact fun j u v=>if e:j=k then e▸‹xk _=false›else hg j u J
 refine a8 (id:=0) rfl<|SR<|va (v:=B false) rfl<|aa<|aj<|oB O ?_ cg
 exact(ahW aQ J ‹¬k<_› hg).symm
section
variable{W0 w:World}{n:Nat}{s:NP}{lg:List (Value×mw)}{tm:List Int}{ids:List Nat}{f:Ct}{tl:List (Nat×Rl)}{b c:Nat}{A R Z fr:List bu}
theorem arl(x:iO)(i:Int)(hok:Ea s)(oy:x.code.length<=1000)(hi:0<=i/\i<=1000)(hb:b<=70)(hc:c<=1000)(hT:o6 W0)(hx:J8 (Kw W0) x)(hZ:j9 fr W0 n s lg tm ids f tl b c Z)(hH:Hp W0 w (A++(Z++R))):Calls Tryz.prog 13 #[pt n,.agg (uR x).toArray,I i] w (jY fun u w'=>∃(ok:Bool) (s':NP) (new:List (Value×mw)) (Ub:List Int) (Z':List bu),u=B ok/\Ti s s' x i.toNat ok/\iP new s s'/\TmX x.op ok lg tm Ub/\j9 fr W0 n s' (lg++new) Ub ids f tl b (c+1) Z'/\Hp W0 w' (A++(Z'++R))):=by
 obtain⟨Z2,hM,bp⟩:=hZ.aur hH
 refine(Dv x i hok oy hi hb hc w hT hx hM bp).mono fun e w' hr=>jY.mono ?_ hr
 rintro u w' ⟨ok,s',new,Ub,Z3,rfl,h1,h2,h3,h4,h5⟩
 obtain⟨Zo,ho,hh⟩:=j9.out h4 h5
 exact⟨ok,s',new,Ub,Zo,rfl,h1,h2,h3,ho,hh⟩
end
section
variable{W0 w:World}{n:Nat}{s:NP}{lg:List (Value×mw)}{tm:List Int}{ids:List Nat}{f:Ct}{tl:List (Nat×Rl)}{b c:Nat}{A R Z fr:List bu}
theorem alo(p:lM)(hrs:jc p=true)(hT:o6 W0)(hs:D4 (Kw W0) p)(hH:Hp W0 w A):Calls Tryz.prog 12 #[.agg (IM p),.nilFunc] w (jY fun u w'=>∃(n:Nat) (s:NP) (lg:List (Value×mw)) (tm:List Int) (tl:List (Nat×Rl)) (Z:List bu) (c:Nat),u= .tuple #[pt n,B true]/\tQ p s/\yY s/\s.qs=[]/\s.sk=false/\s.wr= .nilFunc/\c<=100/\j9 [] W0 n s lg tm [] ct0 tl 0 c Z/\Hp W0 w' (A++(Z++[]))):=by
 refine(A5 (fr:=A++([]++[])) p .nilFunc hrs (.inl O) FF.zero w hT hs kU.nil (by simpa using hH)).mono fun e w' hr=>jY.mono ?_ hr
 rintro u w' ⟨n,s,lg,tm,tl,Z,c,rfl,h1,h2,h3,h4,h5,h6,h7,h8,h9⟩
 obtain⟨Zo,ho,hh⟩:=j9.out (A:=A) (R:=[]) (fr:=[]) h8 h9
 exact⟨n,s,lg,tm,tl,Zo,c,rfl,h1,h2,h3,h4,h5,h7,ho,hh⟩
end
theorem BZ{s:NP}{lg:List (Value×mw)}{tm:List Int}{ids:List Nat}{f:Ct}{tl:List (Nat×Rl)}{b c:Nat}{Z:List bu}(p:n7)(hpo:kS p=true)(hcs:∀x∈p.aY,x.code.length<=1000)(hnv:s.ak.length=p.s.vars.length)(hy:wv (iA p.s) (QP p.s p.aY)->lE (iA p.s) (QP p.s p.aY) (vQ s.ak))(w:World)(hp:vS (Kw w) p)(hZ:j9 fr W0 n s lg tm ids f tl b c Z)(hH0:Hp W0 w L)(hs:∀x,x∈Z->x∈L):Calls Tryz.prog 17 #[pt n,.agg (xh p).toArray] w (Pure (B true) w):=by
 obtain⟨hrs,SK⟩:=Ax hpo
 have hsz:=(yX hrs).1
 refine eH func17 rfl rfl fun hH=>SR<|gN hH (v:= .agg _) rfl<|fun b3 w1 bp=>va (v:=B false) rfl<|aa<|SR<|V (cA (cs:=xh _) m5 O O O (bj (bp.blk (i:=0) O)))<|IF O bp (mW (Kw w) p hpo hcs _ bp.kw hp) (ay call14 O)<|fun v6 w7 Z9 eW avd=>have df:Hp _ w7 (_::Z9):=eW.amx (L:=[_]);?_
 obtain⟨aSe,v13,b14,rfl,ao2,auc,aSf,aI1⟩:=avd
 refine V (run_move bA) ?_
 refine V (bg O O)<|V (bg O (v:=B _) O)<| ?_
 refine V (run_assign bA) ?_
 refine aB rfl<|aa<|ai<|SR<|mB rfl<|V (bJ O)<|aa<|bW O (fun Ob=> ?_) (fun Ob=> ?_)
 .refine SR<|va (v:=B true) rfl<|aa<|aj<|oB O ?_ df
  rfl
 refine an<|ai<|SR<|have hle:=hy (aI1.1 (show b14=true from nf ‹(!b14)=false›));have hln:=auc;V (fA m5 0 O zO O)<|V (fA gI 1 O uo O)<|V (bZ (hp.s.vars.sl.hp df) lU O O (df.cell (i:=0) O O))<|V (aC (hp.s.vars.sl.hp df) O lU O)<|aE (v:=I 0) rfl<|aa<|aA<|bt (G:=Int) (fun k s' w'=>(Fr (4::(7::8::(rg 20 19 []))) _ s')/\(Hp w w' _)/\(s' 20=I k)/\(0<=k)/\(k<=p.s.vars.length)) (fun k=>(p.s.vars.length-k).toNat) (0) ⟨Fr.refl _ _,df,rfl,J,J⟩<| ?_
 rintro k ays QV ⟨TC,cF,OV,h0,hk⟩
 obtain⟨acD,aBV,avq,avr⟩:=TC.w4 0 5 18 19
 refine SR<|V (aN OV avr)<|aa<|ai<|aF O (fun xu=> ?_) (fun xu=> ?_)
 .refine an<|ai<|aA<|SR<|aE OV<|V (ah (hp.s.vars.sl.hp cF) lU Fb avq OV J)<|V (dZ (dv:=fq) tF (hp.s.vars.sl.hp cF) o4 O O O J)<|lK cF (aS Tryz.zeroValue63)<|fun b27 w25 jg=>aI rfl<|bk jg (i:=0) O (dO (c':=(O1 _).toArray) O O O LN (jg.blk (i:=0) O) O)<|fun w28 gj=>aa<|ai<|ed aP gj<|fun w30 gU=>have AW:=gU;AQ 0 O AW (fA o4 1 O aO O)<|tI 1 O AW bx 0 O O rfl<|AQ 2 O AW (bV O O)<|AQ 3 O AW (mV (B _) O)<|Cu (dj:=28) O (fun Pt=> ?_) (fun Pt=> ?_)
  .refine BQ 4 O O (bT Pt) gU (run_move acD)<|BQ 5 O O (bT Pt) gU (mV (I _) O)<|BQ 7 O O (bT Pt) gU (run_move aBV)<|BQ 8 O O (bT Pt) gU (mV (I _) O)<|AG 9 O O (bT Pt) gU (fun w hS=>ah (ao2.mono (hS.kz (Le.refl _) (fun x hx=>(mT (mT hx))))).sl bU fl O O J)<|AG 10 O O (bT Pt) gU (fun w hS=>gz (ao2.mono (hS.kz (Le.refl _) (fun x hx=>(mT (mT hx))))).sl bI O O O J)<|A1 6<|cw O (A8 O (bT Pt)) O gU sR (acV _ hZ (hH0.call gU.below) hs) (aM call23 O O)<|fun w34 uW=>BQ 11 O O (bT Pt) uW (PX CZ O O)<|AQ 12 O uW (gM (bT Pt) (v:=B _) O)<|AD<|cL (bR (c:=false) ((by rw[aX ⟨h0,J⟩,gW (anQ hle ‹lE _ _ (yl _ _)› J ‹(List.getD p.s.vars _ _).kind=1›)];rfl)))<|an<|au<|V (ax OV O J)<|mI rfl<|aa<| ?_
   refine⟨k+1,aW,TC.u4.u4.u4.u4.u4.u1,(uW.sub (sQ sR)),(aK I aL),J,J⟩
  refine AK 4 O O (bF Pt) gU<|AK 5 O O (bF Pt) gU<|AK 6 O O (bF Pt) gU<|AK 7 O O (bF Pt) gU<|AK 8 O O (bF Pt) gU<|AK 9 O O (bF Pt) gU<|AK 10 O O (bF Pt) gU<|AK 11 O O (bF Pt) gU<|AQ 12 O AW (ep (bF Pt) (v:=B false) O)<|AD<|cL rfl<|an<|au<|V (ax OV O J)<|mI rfl<|aa<| ?_
  refine⟨k+1,aW,TC.u4.u4.u4.u4.u4.u1,(gU.sub (sQ sR)),(aK I aL),J,J⟩
 refine a8 (id:=0) rfl<|SR<|va (v:=B true) rfl<|aa<|aj<|oB O ?_ cF
 rfl
set_option maxHeartbeats 4000000 in
theorem wI(p:n7)(a:BitVec 64)(w:World)(hp:vS (Kw w) p)(hT:o6 w):Calls Tryz.prog 4 #[.agg (xh p).toArray,U a] w (Pure (B true) w):=by
 have B0:=hp.aY.small
 unfold maxLen at B0
 refine eH func4 rfl rfl fun hH=>SR<|gN hH (v:= .agg _) rfl<|fun b3 w1 bp=>va (v:=B false) rfl<|aa<|ai<|SR<|V (cA (cs:=xh _) m5 O O O (bj (bp.blk (i:=0) O)))<|aH O bp (Dw _ _ (hp.mono bp.kw)) (ay call9 O)<|fun w4 bY=>mB rfl<|ez 17 O (fun h7=> ?_) (fun h7=> ?_)
 .refine aE (v:=B true) rfl<|aa<|ct rfl<|SR<|aH O bY (ke _ (hT.hp bY)) (DE call11)<|fun w8 iE=>aB rfl<|aa<|aj<|oB O ?_ iE
  rfl
 refine V (cA (cs:=xh _) m5 O O O (bj (bY.blk (i:=0) O)))<|aH O bY (A6 _ _ (hp.mono bY.kw)) (ay call10 O)<|fun I8 cP=>V (bJ O)<|mB rfl<|aa<|bW O (fun Ec=> ?_) (fun Ec=> ?_)
 .refine SR<|aH O cP (ke _ (hT.hp cP)) (DE call11)<|fun Ja er=>aB rfl<|aa<|aj<|oB O ?_ er
  rfl
 refine an<|SR<|have hpo:kS p=true:=nf ‹(!kS p)=false›;?_
 obtain⟨hrs,SK⟩:=Ax hpo
 have hcs:∀x∈p.aY,x.code.length<=1000:=fun x hx=>((amO ‹O6 p=false›).2.2 x hx).c
 have h64:=anR hpo
 refine V (fA m5 0 O zO O)<|V (iN (sub:=CE _) gI O O O (cP.blk (i:=0) O) (DS _))<|cD O (alo p.s hrs hT hp.s cP) (aM call12 O (show _=Value.nilFunc from O))<| ?_
 rintro _ w36 ⟨n21,s22,aSi,aSj,aI2,Z26,c27,rfl,aBW,aBX,auC,aI3,aI4,aI5,akM,BK⟩
 have uw:Hp _ w36 (_::(Z26++[])):=BK
 refine V (run_move bA) ?_
 refine V (bg O (v:=Pn _ _) O)<|V (bg O (v:=B _) O)<|va (v:=Pn _ _) rfl<|aB rfl<|aa<|ai<|SR<|mB rfl<|V (bJ O)<|aa<|cL rfl<|an<|ai<|SR<|V (fA m5 2 O vp O)<|V (bZ (hp.aY.sl.hp uw) nZ O O (uw.cell (i:=0) O O))<|V (aC (hp.aY.sl.hp uw) O nZ O)<|aE (v:=I 0) rfl<|aa<|aA<|bt (G:=Int×NP×(List bu)) (fun⟨k,s1,Z1⟩ s' w'=>(Fr (4::(rg 7 6 (rg 34 49 []))) _ s')/\(Hp w w' (_::Z1))/\(s' 34=I k)/\(0<=k)/\(k<=p.aY.length)/\(Pc p.s p.aY k.toNat s1)/\(∃lg tm f F5,Z1=F5++[]/\j9 [] w n21 s1 lg tm [] f aI2 k.toNat (c27+k.toNat) F5)) (fun⟨k,s1,Z1⟩=>(p.aY.length-k).toNat) ((0,s22,(Z26++[]))) ⟨Fr.refl _ _,uw,rfl,J,J,Pc.start (BF.start aBW aBX auC) aI3 aI4,⟨_,_,_,_,rfl,akM⟩⟩<| ?_
 rintro⟨k,s1,Z1⟩ aSl w39 ⟨alp,kF,F6,h0,hk,hI,hS⟩
 obtain⟨arm,acX,Rf,avs,avt⟩:=alp.w5 1 2 5 32 33
 obtain⟨lg1,Lc,f1,F5,rfl,JZ⟩:=hS
 have hkc:=aI5
 refine SR<|V (aN F6 avt)<|aa<|ai<|aF O (fun h41=> ?_) (fun h41=> ?_)
 .refine an<|ai<|aA<|SR<|aE F6<|V (ah (hp.aY.sl.hp kF) nZ HU avs F6 J)<|have hxm:=dy (d:=dQ) h0 ‹k<_›;V (dZ (dv:=dQ) vR (hp.aY.sl.hp kF) fg O O O J)<|lK kF (aS G2)<|fun b44 w42 mo=>aI rfl<|bk mo (i:=0) O (dO (c':=(uR _).toArray) O O O (GC (hp.at J J)) (mo.blk (i:=0) O) O)<|fun w45 oe=>aa<|SR<|aE Rf<|aH O oe (acW JZ oe (fun x hx=>(mT (mT (dL _ hx))))) (ay call16 O)<|fun w47 jB=> ?_
  refine V (run_move bA) ?_
  refine V (bg O (v:=U _) O)<|V (bg O (v:=B _) O)<|aU rfl<|aB rfl<|aa<|ai<|SR<| ?_
  cases Es:s1.sk
  .refine aE Rf<|V (cA (cs:=uR _) fg O O O (bj (jB.blk (i:=0) O)))<|mI rfl<|cD O (arl (p.aY.getD k.toNat dQ) k hI.nw.ns.ok (hcs _ hxm) J J J hT (hp.at h0 ‹k<_›) (A:=[_,_]) (R:=[]) JZ jB) (bz call13 O O O)<| ?_
   rintro _ w62 ⟨aSm,s53,aSo,aSp,Z56,rfl,aI6,aSq,aSr,aBY,h61⟩
   have nU:Hp _ w62 (_::_::(Z56++[])):=h61
   obtain⟨PA,N5,hI2,avl⟩:=hI.add J J SK hcs aI6
   have hok:=PA Es
   subst hok
   refine mB rfl<|V (bJ O)<|mB rfl<|cC O rfl<|aE (v:=B true) rfl<|V (LX qZ O O)<|aa<|cL (bR (c:=false) ((by first|rfl|exact XZ _)))<|an<|SR<|aE arm<|mI rfl<|V (iZ bx xR O)<|V (yF O O)<|V (kx O (b:=1#64) O)<|V (iU O (b:=1#64) O)<|mB rfl<|bK 62 O (fun h67=> ?_) (fun h67=> ?_)
   .refine mB rfl<|V (bJ O)<|mB rfl<|aa<|ct rfl<|ai<|gp aP nU (sP (sP (sA sR)))<|fun w68 Ek=>have Hx:=Ek.sub (sP (sP (sA sR)));AQ 0 O Hx (fA m5 0 O zO acX)<|AT 1 O Hx (fun w hS=>iN (sub:=CE _) gI O O O (hS.blk (i:=1) O) (DS _))<|AQ 2 O Hx (fA m5 2 O vp acX)<|AT 3 O Hx (fun w hS=>bZ (hp.aY.sl.hp hS) nZ O O (hS.cell (i:=1) O O))<|AQ 4 O Hx (mV (I _) O)<|AQ 5 O Hx (ax O O J)<|AT 6 O Hx (fun w hS=>p5 (hp.aY.sl.hp hS) nZ HU O O J)<|AQ 7 O Hx (dI (vs:=[(0,.agg (IM p.s)),(1,uL p.av (k+1).toNat)]) O (aaI p.s (p.aY.take (k+1).toNat) (KW (ace hp.aY (k+1).toNat J)).2))<|A1 8<|YR O aD O Ek (sP (sP (sA sR))) (mW (Kw w) (⟨p.s,uL p.av (k+1).toNat,p.aY.take (k+1).toNat⟩:n7) (anV hpo _ _) (fun x hx=>hcs x (r7 hx)) _ Ek.kw (hp.take J)) (ay call14 O)<|fun v72 w73 Z75 uZ aI7=>have OR:Hp _ w73 (_::_::(Z75++(Z56++[]))):=uZ.HD (L:=[_,_]) (L':=(Z56++[]));have Eo:Hp _ w73 (_::_::(Z56++(Z75++[]))):=Hp.swz (A:=[_,_]) OR;?_
    obtain⟨aSs,v81,b82,rfl,aSu,aGd,aSv,aI8⟩:=aI7
    have alq:=Eo.sub (sP (sP (sA (sA sR))))
    refine AQ 9 O alq (run_move bA) ?_
    refine AQ 10 O alq (bg O O)<|AQ 11 O alq (bg O (v:=B _) O)<| ?_
    refine AQ 12 O alq (run_assign bA) ?_
    refine AQ 13 O alq (aV (B _) O)<|AD<|SR<|aE Rf<|cD O (Hy hT hI2.nw J J (A:=[_,_]) (R:=(Z75++[])) aBY Eo) (ay call15 O)<| ?_
    rintro _ aI9 ⟨aJa,s91,aSx,f93,a94,j95,Z96,rfl,aJc,aSy,aSz,aMb,aMc,aBZ,aJd⟩
    have JY:Hp _ aI9 (_::_::(Z96++(Z75++[]))):=aJd
    have HB:(k+1).toNat=k.toNat+1:=J
    obtain⟨zB,aJe,-⟩:=hI2.set J aJc
    have hob:aJa=b82:=gH.2 (aJe.trans (by rw[<-HB];exact aI8.symm))
    subst hob
    have JT:Hp _ _ (_::_::(Z96++[])):=JY.sub (sP (sP (XL sR (List.nil_sublist _))))
    refine mB rfl<|V (LX qZ O O)<|aa<|cL (bR (c:=false) ((XZ _)))<|an<|au<|V (ax F6 O J)<|mI rfl<|aa<| ?_
    refine⟨(k+1,s91,(Z96++[])),aW,alp.u4.u4.u4.u4.u4.u4.u4.u4.u4.u4.u4.u4.u4.u1.u1.u1,(JT.sub (sQ sR)),(aK I xZ),J,J,?_,?_⟩
    ·(rw[show(k+1).toNat=k.toNat+1 by omega];exact zB)
    exact⟨_,_,_,_,rfl,aBZ.more J J⟩
   refine aE (v:=B false) rfl<|aa<|cL rfl<|an<|au<|V (ax F6 O J)<|mI rfl<|aa<| ?_
   refine⟨(k+1,s53,(Z56++[])),aW,alp.u4.u4.u4.u4.u4.u4.u4.u4.u4.u1,(nU.sub (sQ sR)),(aK I xZ),J,J,?_,?_⟩
   ·(rw[show(k+1).toNat=k.toNat+1 by omega];exact hI2)
   exact⟨_,_,_,_,rfl,aBY.more J J⟩
  refine aE Rf<|V (cA (cs:=uR _) fg O O O (bj (jB.blk (i:=0) O)))<|mI rfl<|cD O (arl (p.aY.getD k.toNat dQ) k hI.nw.ns.ok (hcs _ hxm) J J J hT (hp.at h0 ‹k<_›) (A:=[_,_]) (R:=[]) JZ jB) (bz call13 O O O)<| ?_
  rintro _ aum ⟨aMd,aB0,aMe,aMf,Xb,rfl,aB1,aMg,aMh,arn,aJg⟩
  have Dh:Hp _ aum (_::_::(Xb++[])):=aJg
  obtain⟨PA,N5,hI2,avl⟩:=hI.add J J SK hcs aB1
  have hok:=N5 Es
  subst hok
  refine mB rfl<|V (bJ O)<|mB rfl<|cC O rfl<|V (fA fg 0 O aO O)<|lI bx Dh 0 O O rfl<|V (jZ O O)<|mB rfl<|V (LX qZ O O)<|aa<|cL (bR (c:=false) ((by first|rfl|exact XZ _)))<|an<|SR<|aE arm<|mI rfl<|V (iZ bx xR O)<|V (yF O O)<|V (kx O (b:=1#64) O)<|V (iU O (b:=1#64) O)<|mB rfl<|bK 62 O (fun aJh=> ?_) (fun aJh=> ?_)
  .refine mB rfl<|V (bJ O)<|mB rfl<|aa<|cL rfl<|an<|au<|V (ax F6 O J)<|mI rfl<|aa<| ?_
   refine⟨(k+1,aB0,(Xb++[])),aW,alp.u4.u4.u4.u4.u4.u4.u4.u4.u4.u1,(Dh.sub (sQ sR)),(aK I xZ),J,J,?_,?_⟩
   ·(rw[show(k+1).toNat=k.toNat+1 by omega];exact hI2)
   exact⟨_,_,_,_,rfl,arn.more J J⟩
  refine aE (v:=B false) rfl<|aa<|cL rfl<|an<|au<|V (ax F6 O J)<|mI rfl<|aa<| ?_
  refine⟨(k+1,aB0,(Xb++[])),aW,alp.u4.u4.u4.u4.u4.u4.u4.u4.u4.u1,(Dh.sub (sQ sR)),(aK I xZ),J,J,?_,?_⟩
  ·(rw[show(k+1).toNat=k.toNat+1 by omega];exact hI2)
  exact⟨_,_,_,_,rfl,arn.more J J⟩
 refine a8 (id:=0) rfl<|SR<|have hkl:k.toNat=p.aY.length:=J;V (cA (cs:=xh _) m5 O O acX (bj (kF.blk (i:=0) O)))<|IF O kF (mW (Kw w) p hpo hcs _ kF.kw hp) (ay call14 O)<|fun v130 ae3 ao5 xD aB2=>have aB3:Hp _ ae3 (_::(ao5++(F5++[]))):=xD.HD (L:=[_]) (L':=(F5++[]));have WX:Hp _ ae3 (_::(F5++(ao5++[]))):=Hp.swz (A:=[_]) aB3;?_
 obtain⟨aMi,v139,aJi,rfl,aMj,aMk,aMl,aB4⟩:=aB2
 refine V (run_move bA) ?_
 refine V (bg O O)<|V (bg O (v:=B _) O)<| ?_
 refine V (run_assign bA) ?_
 refine aB rfl<|aa<|SR<|aE Rf<|cD O (Hy hT hI.nw J J (A:=[_]) (R:=(ao5++[])) JZ WX) (ay call15 O)<| ?_
 rintro _ aJj ⟨aB5,aSA,aMm,f151,a152,aSB,aJk,rfl,aB6,aMn,aMo,aMp,aMq,aB7,aJl⟩
 have Dj:Hp _ aJj (_::(aJk++(ao5++[]))):=aJl
 obtain⟨-,avu,avv⟩:=hI.set (Nat.le_of_eq hkl) aB6
 rw[hkl,HM]at avu avv
 have hob:aB5=aJi:=gH.2 (avu.trans aB4.symm)
 subst hob
 refine mB rfl<|V (af4 qZ O O)<|mB rfl<|cC O (bR (c:=true) ((beq_self_eq_true _)))<|mB rfl<|V (bJ O)<|mB rfl<|ez 95 O (fun aJm=> ?_) (fun aJm=> ?_)
 .refine aE (v:=B true) rfl<|mB rfl<|mB rfl<|cC O rfl<|aH O Dj (ke _ (hT.hp Dj)) (DE call11)<|fun aSC aB8=>mB rfl<|aB rfl<|aa<|aj<|oB O ?_ aB8
  rfl
 refine aE Rf<|V (cA (cs:=xh _) m5 O O acX (bj (Dj.blk (i:=0) O)))<|aH O Dj (BZ p hpo hcs (avv (nf ‹(!_)=false›)).1.nv (fun hs=>(avv (avu.2 hs)).2) _ (hp.mono Dj.kw) aB7 Dj (fun x hx=>(mT (dL _ hx)))) (aM call17 O O)<|fun aSD W3=>mB rfl<|mB rfl<|mB rfl<|cC O rfl<|aH O W3 (ke _ (hT.hp W3)) (DE call11)<|fun aSE aB9=>mB rfl<|aB rfl<|aa<|aj<|oB O ?_ aB9
 rfl
end
end Go.Proofs.YtlhjdflgjbkpmaaGreatDoor.W

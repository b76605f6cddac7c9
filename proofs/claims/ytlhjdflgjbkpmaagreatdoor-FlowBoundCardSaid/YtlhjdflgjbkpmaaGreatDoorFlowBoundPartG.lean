/- Part 7 of the proof of FlowBound: its plain laws and the walks of its functions. -/
import Derived.Test.YtlhjdflgjbkpmaaGreatDoorFlowBoundPartF
set_option linter.all false
namespace Go.Proofs.YtlhjdflgjbkpmaaGreatDoor.W
section
open Go Go.RowKit Go.Proofs.YtlhjdflgjbkpmaaGreatDoor.E Go.Proofs.YtlhjdflgjbkpmaaGreatDoor.M
set_option maxRecDepth 100000
open Go.Proofs.Tryz
variable{fr:List a7}
variable{W0 w:World}{n m:Nat}{cs:List (List Nat)}{wr:Value}{vL:Value}{vt:Value}{vv:Value}{vy:Value}{vu:Value}{vq:Value}{sn:Int}{vW:Value}{vU:Value}{vT:Value}{cn:Int}{sk:Bool}{wy:BitVec 64}{vd:Value}{vm:Value}{cW:Option (Nat×Array Value)}{cU:Option (Nat×Array Value)}{W:List (BitVec 64)}{ul:List (Value×jD)}{ts:List Int}{au:List pg}{aX:List Int}{aj:List El}{a6:List (BitVec 64)}{us:List jM}{qs:List dw}{lg:List (Value×lU)}{tm:List Int}{L:List a7}
set_option maxHeartbeats 4000000 in
theorem G8{ids:List Nat}{tl:List (Nat×Rl)}{f:Ct}{nk:Nat}{Zf R:List a7}(Jzz:yl->Prop)(mu:yl->Nat)(hm:m+aj.length<=100000)(TG:a6.length=aj.length)(Oo:us.length=aj.length)(kD:(bq cs).length=aj.length)(Qi:aj.length<=1000)(hlg:lg.length+1000*mu (Vx (sj cs us au aX qs sn aj.length ⟨aj,a6,[],List.replicate qs.length false⟩).s sn qs.length)<=400000000000)(xA:∀k:Nat,k<us.length->dI 3 (us.getD k cY)∈R/\(us.getD k cY).l.length<=1000/\∀i∈(us.getD k cY).l,0<=i/\i<(qs.length:Int))(hf:Fe nk f)(hnk:nk+3*mu (Vx (sj cs us au aX qs sn aj.length ⟨aj,a6,[],List.replicate qs.length false⟩).s sn qs.length)<=90000000000)(WS:0<=sn/\sn<=qs.length)(hqn:qs.length<=1000)(hqo:Zi au.length aj.length qs)(hlt:aX.length=aj.length)(hlr:∀k:Nat,k<aX.length->0<=aX.getD k 0/\aX.getD k 0<au.length)(hI0:Jzz (Vx (sj cs us au aX qs sn aj.length ⟨aj,a6,[],List.replicate qs.length false⟩).s sn qs.length))(hst:∀cX eA JW mz x,Jzz ⟨cX,eA,x::JW,mz⟩->∀r,ng (bq (sj cs us au aX qs sn aj.length ⟨aj,a6,[],List.replicate qs.length false⟩).cs) us (au.getD (qs.getD x.toNat cP).aX.toNat o3).p.sh (qs.getD x.toNat cP) cX eA JW (mz.set x.toNat false) wy=r->r.ok=true->Jzz ⟨r.aj,r.a6,r.wl,r.wi⟩/\mu ⟨r.aj,r.a6,r.wl,r.wi⟩<mu ⟨cX,eA,x::JW,mz⟩)(w:World)(hT:oG W0)(hlv:Vs TX (Kz (Kw W0) R) ids tl au)(hZ:kp (Ba fr) ids f tl Zf)(I7:Zb (Kz (Kw W0) R) qs)(h:wN FX n m cs vW vU cW cU W ul ts cn R)(hH:Hp W0 w (nE n wr vL vt vv vy vu vq sn vW vU vT cn sk wy vd vm cW cU W ul ts au aX aj a6 us qs lg tm ((Zf++R)))):Calls Tryz.prog 42 #[pt n] w (jj fun u w'=>∃(ok:Bool) (s:yl) (TH:BitVec 64) (a:Nat) (N2 N3 WX:Value) (QH QI:Option (Nat×Array Value)) (W':List (BitVec 64)) (yA:List (Value×jD)) (ts':List Int) (QJ:Int) (vd':Value) (new:List (Value×lU)) (Lb Z':List a7) (f':Ct),u=B ok/\SpR (bq (sj cs us au aX qs sn aj.length ⟨aj,a6,[],List.replicate qs.length false⟩).cs) us au qs s ok wy TH/\Jzz s/\a+mu s<=mu (Vx (sj cs us au aX qs sn aj.length ⟨aj,a6,[],List.replicate qs.length false⟩).s sn qs.length)+(if ok then 0 else 1)/\wN FX n (m+aj.length) (sj cs us au aX qs sn aj.length ⟨aj,a6,[],List.replicate qs.length false⟩).cs N2 N3 QH QI W' yA ts' QJ (Lb++R)/\(∀x∈new,mJ NX n Lb x/\(ok=false->II x.2))/\new.length<=1001*aj.length+1000*a+1/\iD new (NP.mk au aX aj a6 ((pO us)) qs sn cs sk TH wr) (NP.mk au aX (s.aj) (s.a6) ((pO us)) qs ((if ok then(qs.length:Int)else sn)) ((sj cs us au aX qs sn aj.length ⟨aj,a6,[],List.replicate qs.length false⟩).cs) sk TH wr)/\kp (Ba fr) ids f' tl Z'/\pn f f' a a (a+(sj cs us au aX qs sn aj.length ⟨aj,a6,[],List.replicate qs.length false⟩).j)/\Hp W0 w' (nE n wr vL vt vv vy vu vq ((if ok then(qs.length:Int)else sn)) (N2) (N3) (WX) (QJ) sk TH (vd') vm (QH) (QI) (W') (yA) (ts') au aX (s.aj) (s.a6) us qs (lg++new) tm ((Z'++(Lb++R))))):=by
 simp only[nE]at hH
 refine en func42 rfl rfl<|SR<|gV hH (v:=Pn _ _) rfl<|fun b3 w1 aZ=>va (v:=B false) rfl<|aa<|YX<|SR<| ?_
 obtain⟨R1,Wy⟩:∃R1:List a7,R1=[a7.blk b3 (.cells #[pt n] 31 (0,0))]++R:=⟨_,rfl⟩
 have gy:=Hp.mh (A:=[_,_,_,_,_,_,_,_,_,_,_,_]) (B:=[a7.blk b3 (.cells #[pt n] 31 (0,0))]) (R:=Zf) (aZ.pj [1,1,1,1,1,1,1,1,1,1,1,1])
 rw[<-Wy]at gy
 simp only[gf,eC]at gy
 have hb5:a7.blk b3 (.cells #[pt n] 31 (0,0))∈R1:=by rw[Wy];simp
 have aez:Vs TX (Kz (Kw W0) R1) ids tl au:=hlv.mono (Le.zz fun x hx=>by rw[Wy];exact bG _ hx)
 have an8:Zb (Kz (Kw W0) R1) qs:=I7.mono (Le.zz fun x hx=>by rw[Wy];exact bG _ hx)
 have Oa:=h.mono (L':=R1) fun e he=>by rw[Wy];exact bG _ he
 have Kg:∀k:Nat,k<us.length->dI 3 (us.getD k cY)∈R1/\(us.getD k cY).l.length<=1000/\∀i∈(us.getD k cY).l,0<=i/\i<(qs.length:Int):=fun k hk=>⟨by rw[Wy];exact bG _ (xA k hk).1,(xA k hk).2⟩
 refine V (aC dc O O (gy.oR ((fun x hx=>(mT (mT (mT (mT (mT (mT (mT (mT (mT (mT (mT (mT (bG _ hx)))))))))))))) _ hb5) (v:=Pn _ _) O))<|V (af O)<|V (fA cw 6 O xh O)<|lV nN gy 0 O O rfl<|V (aA (gy.sl (i:=9) O) O nN O)<|xP (qs.length) (qs.length) gy (zN (f:=B) (z0:=false) qv O O O O (show _=Value.int .i64 ((qs.length:Nat):Int)from O) (show _=Value.int .i64 ((qs.length:Nat):Int)from O) az J)<|fun b8 w6 eN=>have iJ:=eN.JR (i:=0) (n:=qs.length) (l:=List.replicate (qs.length) false) (f:=B) O aF J;?_
 simp only[iM]at iJ
 refine V (dx (vs:=[(1,(.slice (some ⟨b8,0,none⟩) (qs.length) (qs.length)))]) O (OY _ _ _))<|gV iJ (v:= .agg _) rfl<|fun b12 GJ dJ=>have cm:=dJ.fx 3 1;va (v:=Pn _ _) rfl<|aa<|SR<|V (aC dc O O (cm.oR ((fun x hx=>(mT (mT (mT (mT (mT (mT (mT (mT (mT (mT (mT (mT (mT (mT (mT (bG _ hx))))))))))))))))) _ hb5) (v:=Pn _ _) O))<|aE (v:=Pn _ _) rfl<|bY O (DX (cq:=none) (ql:= .slice none 0 0) (wl:=[]) (wi:=List.replicate qs.length false) hm TG Oo kD Qi J (IK _) (by rw[Q2];omega) (fun k hk=>⟨(Kg k hk).1,(Kg k hk).2.1,fun i hi=>by have:=(Kg k hk).2.2 i hi;simp only[Q2,m9];omega⟩) hf J WS hqn hqo.pl hlt hlr _ hT aez hZ an8 Oa trivial (cm.pj [3,3,3,3,3,3,3,3,3,3,3,3,1])) (aN call84 O O)<| ?_
 rintro _ w32 ⟨c16,akv,akw,an9,aoa,aob,W39,aoc,aod,aoe,aGR,q18,aGS,aGT,aAy,Z22,f23,aGU,rfl,ab9,aGV,aGW,aGX,aGY,aGZ,aG0,jT⟩
 subst aGU
 simp only[nE,wE]at jT
 have kZ:=jT.pk [13,12,12]
 refine aa<|ag<|SR<|V (aC dc O O (kZ.oR ((fun x hx=>(mT (mT (mT (mT (mT (mT (mT (mT (mT (mT (mT (mT (mT (mT (mT (bG _ (bG _ hx)))))))))))))))))) _ hb5) (v:=Pn _ _) O))<|V (af O)<|V (fA cw 7 O a8 O)<|lI bf kZ 3 O O rfl<|aI rfl<|aa<|ay<|have ok0:=asu (cs:=cs) (us:=us) (au:=au) (aX:=aX) (qs:=qs) (sn:=sn) (aj:=aj) (a6:=a6) J (fun k hk=>(Kg k hk).2.2) J;bk (G:=Int×Value×(Option (Nat×Array Value))×(List Int)×(List Bool)) (fun⟨k,xQ,Bx,pU,mz⟩ s' w'=>(Fr (4::(rg 21 12 [])) _ s')/\(Hp W0 w' (qE Bx xQ 3 (pU.map I):: .blk b12 (.cells #[xQ,(.slice (some ⟨b8,0,none⟩) (qs.length) (qs.length))] 156 (0,0))::jG B (.slice (some ⟨b8,0,none⟩) (qs.length) (qs.length)) 4 mz::_))/\(s' 4=I k)/\(sn<=k)/\(k<=qs.length)/\(qO Bx xQ (pU.map I))/\((pU,mz)=(rj ((sj cs us au aX qs sn aj.length ⟨aj,a6,[],List.replicate qs.length false⟩).s.wl,(sj cs us au aX qs sn aj.length ⟨aj,a6,[],List.replicate qs.length false⟩).s.wi) (upI sn (k-sn).toNat)))) (fun⟨k,xQ,Bx,pU,mz⟩=>(qs.length-k).toNat) ((sn,q18,aGS,(sj cs us au aX qs sn aj.length ⟨aj,a6,[],List.replicate qs.length false⟩).s.wl,(sj cs us au aX qs sn aj.length ⟨aj,a6,[],List.replicate qs.length false⟩).s.wi)) ⟨Fr.refl _ _,kZ,rfl,J,J,aG0,(by rw[Int.sub_self];rfl)⟩<| ?_
 rintro⟨k,xQ,Bx,pU,mz⟩ aPC w44 ⟨aAz,vC,akx,h0,hk,Ot,hp⟩
 obtain⟨aqr,aqs⟩:=aAz.w2 1 3
 have ok1:Qg qs.length aj.length a6.length ⟨(sj cs us au aX qs sn aj.length ⟨aj,a6,[],List.replicate qs.length false⟩).s.aj,(sj cs us au aX qs sn aj.length ⟨aj,a6,[],List.replicate qs.length false⟩).s.a6,pU,mz⟩:=by have h1:=am7 ok0 (l:=upI sn (k-sn).toNat) (fun i hi=>by obtain⟨j,hj,rfl⟩:=fX.1 hi;have:=pX.1 hj;omega);rw[<-hp]at h1;exact h1
 have wq1:=ok1.wq.len
 have li1:=ok1.li
 simp only at wq1 li1
 refine ag<|SR<|aE akx<|V (aC dc O aqr (vC.oR ((fun x hx=>(mT (mT (mT (mT (mT (mT (mT (mT (mT (mT (mT (mT (mT (mT (mT (bG _ (bG _ hx)))))))))))))))))) _ hb5) (v:=Pn _ _) O))<|V (af O)<|V (fA cw 6 O xh O)<|lV nN vC 3 O O rfl<|V (aA (vC.sl (i:=12) O) O nN O)<|V (aM O O)<|aa<|aD O (fun h46=> ?_) (fun h46=> ?_)
 .refine ak<|ag<|ay<|aq<|aE aqs<|aE akx<|bY O (pV _ J J _ Ot (vC.pj [1])) (aN call85 O O)<| ?_
  rintro _ w49 ⟨rfl,v51,c52,aG1,eT⟩
  simp only[wE]at eT
  have gH:=eT.pk [1]
  refine aa<|aq<|aE akx<|V (ax O O J)<|aI rfl<|aa<| ?_
  refine⟨(k+1,v51,c52,(oX (pU,mz) k).1,(oX (pU,mz) k).2),aT,aAz.u4.u4.u4.u1,(Hp.conv gH aO),(aJ I aO),J,J,?_,?_⟩
  .exact aG1
  (rw[aio h0,adV,<-hp])
 refine aY (id:=0) rfl<|ag<|YY<|ag<|ay<|have ek:k=qs.length:=J;?_
 rw[ek]at hp
 have e0:(⟨(sj cs us au aX qs sn aj.length ⟨aj,a6,[],List.replicate qs.length false⟩).s.aj,(sj cs us au aX qs sn aj.length ⟨aj,a6,[],List.replicate qs.length false⟩).s.a6,pU,mz⟩:yl)=(Vx (sj cs us au aX qs sn aj.length ⟨aj,a6,[],List.replicate qs.length false⟩).s sn qs.length):=by unfold Vx;rw[<-hp]
 have amS:(bq (sj cs us au aX qs sn aj.length ⟨aj,a6,[],List.replicate qs.length false⟩).cs).length=aj.length:=by rw[am8];omega
 have aG2:=axi (cs:=cs) (us:=us) (au:=au) (aX:=aX) (qs:=qs) (sn:=sn) (n:=aj.length) (s:=⟨aj,a6,[],List.replicate qs.length false⟩)
 have aPE:(sj cs us au aX qs sn aj.length ⟨aj,a6,[],List.replicate qs.length false⟩).j<=1000*1000:=kM aG2 (xd J J)
 refine bk (G:=Value×Value×(Option (Nat×Array Value))×(List El)×(List (BitVec 64))×(List Int)×(List Bool)×(List (Value×lU))×(List a7)×(List a7)×Ct×Nat×(List a7)) (fun⟨Wu,xQ,Bx,cX,eA,pU,mz,new,Lb,Hj,f1,a,Z1⟩ s' w'=>(Fr (2::(rg 33 17 [])) _ s')/\(Hp W0 w' (qE Bx xQ 3 (pU.map I):: .blk b12 (.cells #[xQ,(.slice (some ⟨b8,0,none⟩) (qs.length) (qs.length))] 156 (0,0))::jG B (.slice (some ⟨b8,0,none⟩) (qs.length) (qs.length)) 4 mz:: .blk n (.cells #[wr,vL,vt,vv,vy,vu,vq,I sn,akv,akw,an9,I aoe,B sk,U wy,Wu,vm] 111 (0,0))::cE aoa akv 35 (W39.map U)::cE aob akw 1 (aoc.map Prod.fst)::jG I an9 3 aod::vh WT 13 vL 119 au::jG I vt 3 aX::vh s8 8 vv 37 cX::jG U vy 35 eA::jG jM.v vu 99 us::vh pQ 13 vq 128 qs::jG Prod.fst Wu 1 (lg++new)::jG I vm 3 tm::Z1))/\(Jzz ⟨cX,eA,pU,mz⟩)/\(Qg qs.length aj.length a6.length ⟨cX,eA,pU,mz⟩)/\(Z1=Hj++(Lb++R1))/\(kp (Ba fr) ids f1 tl Hj)/\(pn f f1 a a (a+(sj cs us au aX qs sn aj.length ⟨aj,a6,[],List.replicate qs.length false⟩).j))/\(a+mu ⟨cX,eA,pU,mz⟩<=mu (Vx (sj cs us au aX qs sn aj.length ⟨aj,a6,[],List.replicate qs.length false⟩).s sn qs.length))/\(qO Bx xQ (pU.map I))/\(wN FX n (m+aj.length) (sj cs us au aX qs sn aj.length ⟨aj,a6,[],List.replicate qs.length false⟩).cs akv akw aoa aob W39 aoc aod aoe (Lb++R1))/\(∀x∈new,mJ NX n Lb x/\II x.2)/\(new.length<=1001*aj.length+1000*a)/\(iD new (NP.mk au aX aj a6 ((pO us)) qs sn cs sk wy wr) (NP.mk au aX cX eA ((pO us)) qs sn ((sj cs us au aX qs sn aj.length ⟨aj,a6,[],List.replicate qs.length false⟩).cs) sk wy wr))) (fun⟨Wu,xQ,Bx,cX,eA,pU,mz,new,Lb,Hj,f1,a,Z1⟩=>mu ⟨cX,eA,pU,mz⟩) ((aGR,xQ,Bx,(sj cs us au aX qs sn aj.length ⟨aj,a6,[],List.replicate qs.length false⟩).s.aj,(sj cs us au aX qs sn aj.length ⟨aj,a6,[],List.replicate qs.length false⟩).s.a6,pU,mz,aGT,aAy,Z22,f23,0,(Z22++(aAy++R1)))) ⟨Fr.refl _ _,vC,(by rw[e0];exact hI0),ok1,rfl,aGY,(aGZ.more (mW _) (mW _) J),(by rw[e0];omega),Ot,ab9,aGV,(by have:=aGW;omega),aGX⟩ ?_
 rintro⟨Wu,xQ,Bx,cX,eA,pU,mz,new,Lb,Hj,f1,a,Z1⟩ ax3 w55 ⟨NR,jg,hI,aak,hz,N7,Hl,ham,Ot,aof,WY,hnl,hbk⟩
 obtain⟨G7,NS⟩:=NR.t2 1 aqr 3 aqs
 subst hz
 have lv1:cX.length=aj.length:=aak.lv
 have ly1:eA.length=a6.length:=aak.ly
 have li1:mz.length=qs.length:=aak.li
 have wq1:=aak.wq.len
 simp only at wq1
 refine ag<|SR<|aE NS<|V (af O)<|V (fA yS 0 O dB O)<|lV bz jg 1 O O rfl<|V (aA (jg.slQ (i:=0) O Ot) O bz O)<|V (cD O O)<|aa<|aD O (fun OW=> ?_) (fun OW=> ?_)
 .refine ak<|ay<|ag<|ag<| ?_
  obtain⟨x,JW,hxw⟩:=List.exists_cons_of_length_pos (show 0<pU.length by have h9:=‹(0:Int)<_›;simpa using h9)
  subst hxw
  have htk:=aak.take
  have Tq:=hqo.at htk.1.1 htk.1.2
  have wq2:=htk.2.wq.len
  simp only[m9]at wq2
  have hqx:DJ (Kz (Kw W0) (Lb++R1)) (qs.getD x.toNat cP):=(an8.at htk.1.1 htk.1.2).mono (Le.zz fun y hy=>bG _ hy)
  have aG3:Vs TX (Kz (Kw W0) (Lb++R1)) ids tl au:=aez.mono (Le.zz fun y hy=>bG _ hy)
  refine fT (z:=⟨some _,_,_,_,_,none⟩) aP O aP jg (sQ (sQ (sQ sR)))<|fun w58 Bm=>have aal:=Bm.sub (sQ (sQ (sQ sR)));AT 0 O aal (fun w hS=>aC dc O G7 (hS.oR ((fun x hx=>(mT (mT (mT (mT (mT (mT (mT (mT (mT (mT (mT (mT (bG _ (bG _ hx))))))))))))))) _ hb5) (v:=Pn _ _) O))<|AQ 1 O aal (run_move NS)<|AT 2 O aal (fun w hS=>aC dc O G7 (hS.oR ((fun x hx=>(mT (mT (mT (mT (mT (mT (mT (mT (mT (mT (mT (mT (bG _ (bG _ hx))))))))))))))) _ hb5) (v:=Pn _ _) O))<|AQ 3 O aal (af O)<|AQ 4 O aal (fA cw 6 O xh O)<|tV 5 O aal nN 0 O O rfl<|AQ 6 O aal (run_move NS)<|A1 7<|xu O aH O (DW (wi:=mz) x (by have:=htk.1;omega) _ Ot (Bm.pj [1])) (an call87 O) (fun u w' ⟨_,TK,TL,_,h⟩=>((show Hp _ w' (wE _ _ _ _ _ _ (_::_::_::_::_::_::_::_::_::_::_::_::(Hj++(Lb++R1))))from h).pj [1]).sub (sQ (sQ (sQ sR))))<| ?_
  rintro _ w62 ⟨rfl,v64,c65,aG4,pT⟩
  simp only[wE]at pT
  have aeA:=pT.pk [1]
  refine AT 8 O (aeA.sub (sQ (sQ (sQ sR)))) (fun w hS=>ah (hS.sl (i:=9) O) nN Lm O O J)<|AT 9 O (aeA.sub (sQ (sQ (sQ sR)))) (fun w hS=>eF (dv:=cP) ph (hS.sl (i:=9) O) iW O O O J)<|AD<|bY O (Kf (qs.getD x.toNat cP) J J J J J EQ J (fun k hk=>⟨bG _ (Kg k hk).1,(Kg k hk).2.1,fun i hi=>by have:=(Kg k hk).2.2 i hi;simp only[Q2,m9];omega⟩) (Hl.ok hf) J Tq.aX Tq.code (by have:=Tq.to;omega) (fun hp=>by have:=Tq.pl hp;omega) (fun v hv=>by have:=Tq.vars v hv;omega) _ hT aG3 N7 hqx aof aG4 (aeA.pj [3,3,3,3,3,3,3,3,3,3,3,3,1])) (bB call86 O O O)<| ?_
  rintro _ w83 ⟨r70,aAA,q72,aG5,aAB,aer,Z76,O1,rfl,aog,aAC,auE,Tr,aG7,nr⟩
  simp only[nE,wE]at nr
  have We:=nr.pk [13,12,12]
  refine aa<|bW O (fun h87=> ?_) (fun h87=> ?_)
  .refine aY (id:=3) rfl<|have hok:r70.ok=true:=nU;have hwy:r70.wy=wy:=(by rw[<-O1];exact asr (by rw[O1];exact hok));?_
   rw[hwy]at auE
   have hlo:=aip (cl:=(bq (sj cs us au aX qs sn aj.length ⟨aj,a6,[],List.replicate qs.length false⟩).cs)) (us:=us) (sh:=(au.getD (qs.getD x.toNat cP).aX.toNat o3).p.sh) (q:=(qs.getD x.toNat cP)) (wy:=wy) (fun k hk=>(Kg k hk).2.2) J htk.2
   rw[O1]at hlo
   have auF:=hst cX eA JW mz x hI r70 O1 hok
   have TJ:=Vv (aez.at Tq.aX.1 Tq.aX.2).dep (bq (sj cs us au aX qs sn aj.length ⟨aj,a6,[],List.replicate qs.length false⟩).cs) us (au.getD (qs.getD x.toNat cP).aX.toNat o3).p.sh (qs.getD x.toNat cP) cX eA JW (mz.set x.toNat false) wy f1
   rw[O1]at TJ
   refine⟨(aAA,q72,aG5,r70.aj,r70.a6,r70.wl,r70.wi,new++aAB,aer++Lb,Z76,Vt (au.getD (qs.getD x.toNat cP).aX.toNat o3).d r70.ks f1,a+1,(Z76++(aer++(Lb++R1)))),?_,NR.u4.u4.u4.u4.u1,(Hp.conv We (by simp only[dG,hwy];done)),?_,?_,?_,?_,?_,?_,?_,?_,?_,?_,?_⟩
   .exact auF.2
   .exact auF.1
   .exact hlo
   ·(simp only[dG])
   .exact Tr
   .exact(Hl.trans TJ).more J J J
   ·(have:=auF.2;omega)
   .exact aG7
   .exact aof.mono fun e he=>(by rw[dG];exact bG _ he)
   .exact(fun x hx=>by rcases eI.1 hx with q|q;exact⟨(WY x q).1.mono (fun e he=>bG _ he),(WY x q).2⟩;exact⟨(aog x q).1.mono (fun e he=>dy _ he),(aog x q).2⟩)
   ·(have:=aAC;have:=vx (cl:=(bq (sj cs us au aX qs sn aj.length ⟨aj,a6,[],List.replicate qs.length false⟩).cs)) (i:=(qs.getD x.toNat cP).to.var);rw[cZ];omega)
   exact hbk.trans auE
  refine ak<|SR<|va (v:=B false) rfl<|aa<|ai<|have hrf:r70.ok=false:=nU;have hno:=ass (cl:=(bq (sj cs us au aX qs sn aj.length ⟨aj,a6,[],List.replicate qs.length false⟩).cs)) (us:=us) (sh:=(au.getD (qs.getD x.toNat cP).aX.toNat o3).p.sh) (q:=(qs.getD x.toNat cP)) (aj:=cX) (a6:=eA) (wl:=JW) (wi:=mz.set x.toNat false) (wy:=wy) (by rw[O1];exact hrf);?_
  rw[O1]at hno
  have TJ:=Vv (aez.at Tq.aX.1 Tq.aX.2).dep (bq (sj cs us au aX qs sn aj.length ⟨aj,a6,[],List.replicate qs.length false⟩).cs) us (au.getD (qs.getD x.toNat cP).aX.toNat o3).p.sh (qs.getD x.toNat cP) cX eA JW (mz.set x.toNat false) wy f1
  rw[O1]at TJ
  have hbw:=(hbk.wy (fun x hx=>(WY x hx).2) r70.wy).trans auE
  have Fx:=(We.sub (sQ (sQ (sQ sR))))
  rw[hno.1,hno.2]at Fx hbw
  subst Wy
  refine iY (v:=B false) O O ⟨false,⟨cX,eA,x::JW,mz⟩,r70.wy,a+1,akv,akw,an9,aoa,aob,W39,aoc,aod,aoe,aAA,new++aAB,((aer++Lb)++[a7.blk b3 (.cells #[pt n] 31 (0,0))]),Z76,_,rfl,.inr ⟨rfl,x,JW,rfl,by rw[O1];exact hrf,by rw[O1]⟩,hI,iP,aof.mono fun e he=> ?_,fun y hy=> ?_,?_,hbw,Tr,(Hl.trans TJ).more J J J,Hp.conv (by rw[<-dG]at Fx;exact Fx) (by simp only[dG,gf,eC,uL,xj,tR];done)⟩
  .simp only[eI]at he⊢;rcases he with q|q|q;exact .inl (.inl (.inr q));exact .inl (.inr q);exact .inr q
  .rcases eI.1 hy with q|q;exact⟨(WY y q).1.mono (fun e he=>dy _ (bG _ he)),fun _=>(WY y q).2⟩;exact⟨(aog y q).1.mono (fun e he=>dy _ (dy _ he)),fun _=>(aog y q).2⟩
  (have:=aAC;have:=vx (cl:=(bq (sj cs us au aX qs sn aj.length ⟨aj,a6,[],List.replicate qs.length false⟩).cs)) (i:=(qs.getD x.toNat cP).to.var);rw[cZ];omega)
 refine aY (id:=2) rfl<|SR<|V (aC dc O G7 (jg.oR ((fun x hx=>(mT (mT (mT (mT (mT (mT (mT (mT (mT (mT (mT (mT (mT (mT (mT (bG _ (bG _ hx)))))))))))))))))) _ hb5) (v:=Pn _ _) O))<|V (af O)<|V (fA cw 7 O a8 O)<|lI bf jg 3 O O rfl<|nu jg (aW Tryz.zeroValue3)<|fun b91 w89 tN=>bt tN (i:=0) O (bQ O O (v:=I _) O O O (tN.blk (i:=0) O) az)<|fun w94 Tj=>aa<|ag<|fT (z:=⟨none,_,_,_,_,none⟩) aP O aP Tj sR<|fun w96 Tk=>have Wz:=Tk;AT 0 O Wz (fun w hS=>aC dc O G7 (hS.oR ((fun x hx=>(mT (mT (mT (mT (mT (mT (mT (mT (mT (mT (mT (mT (mT (mT (mT (mT (bG _ (bG _ hx))))))))))))))))))) _ hb5) (v:=Pn _ _) O))<|AT 1 O Wz (fun w hS=>aC dc O G7 (hS.oR ((fun x hx=>(mT (mT (mT (mT (mT (mT (mT (mT (mT (mT (mT (mT (mT (mT (mT (mT (bG _ (bG _ hx))))))))))))))))))) _ hb5) (v:=Pn _ _) O))<|AQ 2 O Wz (af O)<|AQ 3 O Wz (fA cw 6 O xh O)<|tV 4 O Wz nN 4 O O rfl<|AT 5 O Wz (fun w hS=>aA (hS.sl (i:=13) O) O nN O)<|AQ 6 O Wz (af O)<|AQ 7 O Wz (fA cw 7 O a8 O)<|AD<|bt Tk (i:=4) O (bQ O O (v:=I _) O O O (Tk.blk (i:=4) O) aF)<|fun w98 aex=> ?_
 simp only[iM,kL,m7,ia,Nat.reduceAdd]at aex
 refine aa<|SR<|V (aC dc O G7 (aex.oR ((fun x hx=>(mT (mT (mT (mT (mT (mT (mT (mT (mT (mT (mT (mT (mT (mT (mT (mT (bG _ (bG _ hx))))))))))))))))))) _ hb5) (v:=Pn _ _) O))<| ?_
 refine V (nV bC G7) ?_
 refine bY O (iA _ _ (.seen sn) EQ _ (aex.pj [4,4,4,4,4,4,4,4,4,4,4,4])) (aN y9 O O) ?_
 rintro _ aAq ⟨rfl,aG8,Ob⟩
 simp only[nE]at Ob
 have QL:=Ob.pk [12,12,12,12]
 refine aa<|SR<|va (v:=B true) rfl<|aa<|ai<|have hnil:pU=[]:=List.length_eq_zero_iff.1 (by have h9:=‹¬(0:Int)<_›;simpa using h9);have vH:=Hp.mh (A:=[_,_,_,_,_,_,_,_,_,_,_,_]) (B:=[_]) (R:=Hj) ((QL.sub (sP (sQ (sQ (sQ sR))))).pj [1,1,1,1,1,1,1,1,1,1,1,1]);?_
 subst Wy
 refine iY (v:=B true) O O ⟨true,⟨cX,eA,pU,mz⟩,wy,a,akv,akw,an9,aoa,aob,W39,aoc,aod,aoe,aG8,new++[((iH 88 #[pt b91,pt b3]),.seen sn)],(([a7.blk b91 (.cells #[I sn] 3 (0,0))]++Lb)++[a7.blk b3 (.cells #[pt n] 31 (0,0))]),Hj,f1,rfl,.inl ⟨rfl,hnil,rfl⟩,hI,iP,aof.mono fun e he=> ?_,fun y hy=> ?_,?_,hbk.trans (adW (s:=(NP.mk au aX cX eA ((pO us)) qs sn ((sj cs us au aX qs sn aj.length ⟨aj,a6,[],List.replicate qs.length false⟩).cs) sk wy wr)) (k:=(qs.length:Int))),N7,Hl,Hp.conv vH (by simp only[dG,gf,eC,uL,xj,tR];rfl)⟩
 .simp only[eI]at he⊢;rcases he with q|q|q;exact .inl (.inl (.inr q));exact .inl (.inr q);exact .inr q
 .rcases eI.1 hy with q|q;exact⟨(WY y q).1.mono (fun e he=>dy _ (bG _ he)),fun _=>(WY y q).2⟩;rw[dY.1 q];exact⟨⟨_,_,rfl,aF,aF⟩,fun q=>by cases q⟩
 (rw[cZ,gN];omega)
theorem Jc{s:NP}{R L0 Z:List a7}(o:Int)(ho:0<=o/\o<=lg.length)(hlg:lg.length<=600000000000)(hb:okB (Cv lg o.toNat) s)(hu:∀s1:NP,∀k:Int,o<=k->k<lg.length->okN (lg.getD k.toNat Zj).2 s1->an1 W0 n m R L0 (lg.getD k.toNat Zj) s1)(w:World)(hZ:vJ n m s lg tm R L0 Z)(hH:Hp W0 w Z):Calls Tryz.prog 43 #[pt n,I o] w (jj fun u w'=>u= .tuple #[]/\∃Z',vJ n m (DK (Cv lg o.toNat) s) (lg.take o.toNat) tm R L0 Z'/\Hp W0 w' Z'):=by
 refine enter func43 rfl ntmps43 rfl ?_
 obtain⟨F1,L2,uj,Od,rfl⟩:=hZ
 have bP:=hH
 simp only[NZ,nE]at bP
 refine ag<|SR<|aE (v:=Pn _ _) rfl<|V (af O)<|V (fA cw 14 O jV O)<|lV gR bP 0 O O rfl<|V (aA (bP.sl (i:=10) O) O gR O)<|V (fF O O J)<|aI rfl<|aa<|ay<| ?_
 obtain⟨Zc,hZc,hHc⟩:∃Z,vJ n m s lg tm R L0 Z/\Hp W0 _ Z:=⟨_,⟨F1,L2,uj,Od,rfl⟩,bP⟩
 refine bk (G:=Int×(List a7)) (fun⟨k,Z1⟩ s' w'=>(Fr (4::(rg 11 13 [])) _ s')/\(Hp W0 w' (Z1))/\(s' 4=I (k-1))/\(o<=k)/\(k<=lg.length)/\(vJ n m (DK (Cv lg k.toNat) s) lg tm R L0 Z1)) (fun⟨k,Z1⟩=>(k-o).toNat) ((lg.length,Zc)) ⟨Fr.refl _ _,hHc,rfl,J,J,(by rw[aiq J];exact hZc)⟩ ?_
 rintro⟨k,Z1⟩ sg7 w7 ⟨FL,eN,IV,h0,hk,N7⟩
 obtain⟨FD,ael⟩:=FL.w2 0 1
 refine ag<|SR<|aE IV<|aE ael<|V (dD O O)<|aa<|aD O (fun h9=> ?_) (fun h9=> ?_)
 .refine ak<|ag<|ay<|aq<| ?_
  obtain⟨F10,L11,aHb,aHc,rfl⟩:=N7
  have cg:=eN
  simp only[NZ,nE]at cg
  refine aE FD<|V (af O)<|V (fA cw 14 O jV O)<|lV gR cg 0 O O rfl<|aE IV<|V (ah (cg.sl (i:=10) O) gR sizeOf1 O O J)<|V (aC underlying1 O O ((cg.sl (i:=10) O).cell _ _ (lf (dv:=Zj) J)))<|have hkk:(k-1).toNat<lg.length:=J;have ek:(k-1).toNat+1=k.toNat:=J;have hok:=am9 (o:=o.toNat) J hkk hb;?_
  rw[ek]at hok
  obtain⟨aPM,aHd,aHe,aAD,aAE⟩:=hu _ (k-1) J J hok lg tm _ _ ⟨F10,L11,aHb,aHc,rfl⟩ cg
  refine bY O aAE (LZ aAD (cs:=aHd) aHe) ?_
  rintro _ w20 ⟨rfl,Z21,aHf,eO⟩
  have hzk:=aHf
  rw[<-ek,<-adX hkk]at hzk
  refine aa<|aq<|aE IV<|V (fF O O J)<|aI rfl<|aa<| ?_
  refine⟨(k-1,Z21),aT,FL.u4.u4.u4.u1.u1,(Hp.conv eO aO),(aJ I aO),J,J,?_⟩
  exact hzk
 refine aY (id:=0) rfl<|aq<|have ek:k=o:=J;?_
 rw[ek]at N7
 obtain⟨F24,L25,aAF,aHh,rfl⟩:=N7
 have gk:=eN
 simp only[NZ,nE]at gk
 refine aE FD<|aE FD<|V (af O)<|V (fA cw 14 O jV O)<|lV gR gk 0 O O rfl<|aE ael<|V (wx (gk.sl (i:=10) O) gR sizeOf1 O O J)<|V (af O)<|V (fA cw 14 O jV O)<|have mo:=Hp.aDX gk (i:=10) O (m:=o.toNat) J;bt mo (i:=0) O (bQ O O (v:=(q7 F24.vd (o.toNat))) O (bj (mo.get (i:=10) O)).1 (bj (mo.get (i:=10) O)).2 (mo.blk (i:=0) O) aF)<|fun w29 jf=> ?_
 simp only[iM,kL,m7,ia,Nat.reduceAdd]at jf
 refine aa<|pK O ⟨rfl,_,⟨{F24 with vd:=(q7 F24.vd (o.toNat))},L25,⟨aAF.fo,aAF.us⟩,aHh,rfl⟩,(jf)⟩
theorem Oe(v:Int)(w:World)(hb:w.heap[n]?=some (.cells #[wr,vL,vt,vv,vy,vu,vq,I sn,vW,vU,vT,I cn,B sk,U wy,vd,vm] 111 (0,0)))(hy:Sl w vy 1 a6.length (a6.map U)):Calls Tryz.prog 21 #[pt n,I v] w (Pure (U (if 0<=v/\v<a6.length then a6.getD v.toNat 0 else 0)) w):=by
 refine eH func21 rfl rfl fun hH=>SR<|va (v:=U 0#64) rfl<|aa<|ag<|SR<|aE (v:=Pn _ _) rfl<|V (kJ dc O O)<|mB rfl<|bZ O rfl<|mI rfl<|V (aM O O)<|mB rfl<|mB rfl<|bM 11 O (fun h2=> ?_) (fun h2=> ?_)
 .refine aE (v:=B true) rfl<|aa<|cC rfl<|SR<|va (v:=U 0#64) rfl<|aa<|ai<|oU O ?_ hH
  (rw[aR J]<;>rfl)
 refine mI rfl<|aE (v:=Pn _ _) rfl<|V (af O)<|V (fA cw 4 O jh O)<|V (aC c8 O O (hH.eE hb O))<|V (aA (hy.hp hH) O c8 O)<|V (dD O O)<|mB rfl<|aa<|aD O (fun h4=> ?_) (fun h4=> ?_)
 .refine SR<|va (v:=U 0#64) rfl<|aa<|ai<|oU O ?_ hH
  (rw[aR J]<;>rfl)
 refine ak<|SR<|aE (v:=Pn _ _) rfl<|V (af O)<|V (fA cw 4 O jh O)<|V (aC c8 O O (hH.eE hb O))<|mI rfl<|V (ah (hy.hp hH) c8 dg O O J)<|V (aC dZ O O ((hy.hp hH).cell _ _ (lf (dv:=0#64) J)))<|aU rfl<|aa<|ai<|oU O ?_ hH
 (rw[aS ⟨J,J⟩]<;>rfl)
theorem Jd(w:World)(hb:w.heap[n]?=some (.cells #[wr,vL,vt,vv,vy,vu,vq,I sn,vW,vU,vT,I cn,B sk,U wy,vd,vm] 111 (0,0))):Calls Tryz.prog 16 #[pt n] w (Pure (.tuple #[U wy,B sk]) w):=by
 refine eH func16 rfl rfl fun hH=>SR<|va (v:=U 0#64) rfl<|va (v:=B false) rfl<|aa<|ag<|SR<|aE (v:=Pn _ _) rfl<|V (kJ dc O O)<|aa<|cL rfl<|ak<|ag<|ed aP hH<|fun w1 aZ=>have kH:=aZ;AQ 0 O kH (mV (Pn _ _) O)<|AQ 1 O kH (af O)<|AQ 2 O kH (fA cw 13 O dg O)<|AT 3 O kH (fun w hS=>aC dZ O O (hS.eE hb (v:=U _) O))<|AQ 4 O kH (mV (Pn _ _) O)<|AQ 5 O kH (af O)<|AQ 6 O kH (fA cw 12 O nS O)<|AT 7 O kH (fun w hS=>aC xg O O (hS.eE hb (v:=B _) O))<|AQ 8 O kH (aV (U _) O)<|AQ 9 O kH (aV (B _) O)<|AD<|ai<|jZ O O O aZ.below
theorem Je(v:Int)(w:World)(hb:w.heap[n]?=some (.cells #[wr,vL,vt,vv,vy,vu,vq,I sn,vW,vU,vT,I cn,B sk,U wy,vd,vm] 111 (0,0)))(hv:Sl w vv 8 aj.length (aj.flatMap s8)):Calls Tryz.prog 23 #[pt n,I v] w (Pure (.agg (jv (if 0<=v/\v<aj.length then aj.getD v.toNat dH else dH))) w):=by
 refine eH func23 rfl rfl fun hH=>SR<|nu hH (aW jO)<|fun b3 w1 aZ=>aa<|ag<|SR<|aE (v:=Pn _ _) rfl<|V (kJ dc O O)<|mB rfl<|bZ O rfl<|mI rfl<|V (aM O O)<|mB rfl<|mB rfl<|bM 11 O (fun h5=> ?_) (fun h5=> ?_)
 .refine aE (v:=B true) rfl<|aa<|cC rfl<|SR<|V (dx (vs:=[]) O (yq))<|bt aZ (i:=0) O (ez O O O (aZ.blk (i:=0) O))<|fun w8 iJ=>aa<|ai<|tW O O iJ (i:=0) O cH O nT ⟨?_,iJ.below⟩
  (rw[aR J]<;>rfl)
 refine mI rfl<|aE (v:=Pn _ _) rfl<|V (af O)<|V (fA cw 3 O mX O)<|V (aC dR O O (aZ.eE hb O))<|V (aA (hv.hp aZ) O dR O)<|V (dD O O)<|mB rfl<|aa<|aD O (fun h11=> ?_) (fun h11=> ?_)
 .refine SR<|V (dx (vs:=[]) O (yq))<|bt aZ (i:=0) O (ez O O O (aZ.blk (i:=0) O))<|fun Np fp=>aa<|ai<|tW O O fp (i:=0) O cH O nT ⟨?_,fp.below⟩
  (rw[aR J]<;>rfl)
 refine ak<|SR<|aE (v:=Pn _ _) rfl<|V (af O)<|V (fA cw 3 O mX O)<|V (aC dR O O (aZ.eE hb O))<|mI rfl<|V (ah (hv.hp aZ) dR iq O O J)<|V (lK (hv.hp aZ) cH O O O J)<|bt aZ (i:=0) O (ez O O O (aZ.blk (i:=0) O))<|fun Ou gW=>aa<|ai<|tW O O gW (i:=0) O cH O nT ⟨?_,gW.below⟩
 (rw[aS ⟨J,J⟩]<;>rfl)
section
theorem aam{R L0:List a7}{s:NP}{x:Value}{v:Int}{was:El}{had:BitVec 64}(hx:mJ NX n L0 (x,.raise v was had))(hok:okN (.raise v was had) s):an1 W0 n m R L0 (x,.raise v was had) s:=by
 rintro lg tm Z w ⟨F,L,hI,hL,rfl⟩ hH
 obtain⟨b1,b2,b3,b4,hf,hb1,WV,hb3,hb4⟩:=hx
 subst hf
 refine⟨_,[pt b1,pt b2,pt b3,pt b4],rfl,call193,?_⟩
 refine(FF hok _ (bG _ (bG _ (hL _ _ hb1))) (bG _ (bG _ (hL _ _ WV))) (bG _ (bG _ (hL _ _ hb3))) (bG _ (bG _ (hL _ _ hb4))) hH).mono fun e w' hr=>jj.mono ?_ hr
 rintro u w' ⟨rfl,hh⟩
 exact⟨rfl,_,⟨F,L,⟨hI.fo,hI.us⟩,hL,rfl⟩,hh⟩
theorem aan{R L0:List a7}{s:NP}{x:Value}{k:Int}(hm:m<=100000)(hx:mJ NX n L0 (x,.merge k)):an1 W0 n m R L0 (x,.merge k) s:=by
 rintro lg tm Z w ⟨F,L,hI,hL,rfl⟩ hH
 obtain⟨b1,b2,hf,hb1,WV⟩:=hx
 subst hf
 refine⟨_,[pt b1,pt b2],rfl,call157,?_⟩
 refine(FG (R:=F.us.map (dI 3)++R) hm _ (by rw[dG];exact bG _ (bG _ (hL _ _ hb1))) (by rw[dG];exact bG _ (bG _ (hL _ _ WV))) hI.fo (by rw[dG];exact hH)).mono fun e w' hr=>jj.mono ?_ hr
 rintro u w' ⟨rfl,zvW,zvU,zvT,zcW,zcU,zW,zul,zts,zcn,Lb,hfo,hh⟩
 exact⟨rfl,_,⟨{F with vW:=zvW,vU:=zvU,vT:=zvT,cW:=zcW,cU:=zcU,W:=zW,ul:=zul,ts:=zts,cn:=zcn},Lb++L,⟨hfo,hI.us⟩,fun b o h=>bG _ (hL b o h),rfl⟩,by rw[dG]at hh;exact hh⟩
theorem aoh{R L0:List a7}{s:NP}{x:Value×lU}(hm:m<=100000)(hx:mJ NX n L0 x)(hr:II x.2)(hok:okN x.2 s):an1 W0 n m R L0 x s:=by
 obtain⟨v,c⟩:=x
 cases c with
 |raise v was had=>exact aam hx hok
 |merge k=>exact aan hm hx
 |_=>exact hr.elim
end
theorem G9{s:NP}{L0 Z:List a7}{ids:List Nat}{tl:List (Nat×Rl)}{f:Ct}{nk:Nat}{Zf:List a7}(Jzz:yl->Prop)(mu:yl->Nat)(M:Nat)(hm:m+s.aj.length<=100000)(hok:DL s)(hwy:s.sk=false->s.wy=0)(hlg:lg.length+1000*M<=400000000000)(htm:tm.length<=100000000)(hf:Fe nk f)(hnk:nk+3*M<=90000000000)(hJ:∀us:List jM,pO us=s.us->Jzz (Vx (sj s.cs us s.au s.aX s.qs s.sn s.aj.length ⟨s.aj,s.a6,[],List.replicate s.qs.length false⟩).s s.sn s.qs.length)/\mu (Vx (sj s.cs us s.au s.aX s.qs s.sn s.aj.length ⟨s.aj,s.a6,[],List.replicate s.qs.length false⟩).s s.sn s.qs.length)<=M/\∀cX eA JW mz x,Jzz ⟨cX,eA,x::JW,mz⟩->∀r,ng (bq (sj s.cs us s.au s.aX s.qs s.sn s.aj.length ⟨s.aj,s.a6,[],List.replicate s.qs.length false⟩).cs) us (s.au.getD (s.qs.getD x.toNat cP).aX.toNat o3).p.sh (s.qs.getD x.toNat cP) cX eA JW (mz.set x.toNat false) s.wy=r->r.ok=true->Jzz ⟨r.aj,r.a6,r.wl,r.wi⟩/\mu ⟨r.aj,r.a6,r.wl,r.wi⟩<mu ⟨cX,eA,x::JW,mz⟩)(w:World)(hT:oG W0)(hlv:Vs TX (Kz (Kw W0) L0) ids tl s.au)(hZ:kp (Ba fr) ids f tl Zf)(I7:Zb (Kz (Kw W0) L0) s.qs)(hZn:vJ n m s lg tm Zf L0 Z)(hH:Hp W0 w Z):Calls Tryz.prog 15 #[pt n] w (jj fun u w'=>(s.sk=true/\u=B false/\∃Z',vJ n m s lg tm Zf L0 Z'/\Hp W0 w' Z')\/(s.sk=false/\∃(us:List jM) (ok:Bool) (c:yl) (TH:BitVec 64) (a:Nat) (s':NP) (new:List (Value×lU)) (L1 Z' Zf':List a7) (f':Ct),pO us=s.us/\u=B ok/\SpR (bq (sj s.cs us s.au s.aX s.qs s.sn s.aj.length ⟨s.aj,s.a6,[],List.replicate s.qs.length false⟩).cs) us s.au s.qs c ok s.wy TH/\Jzz c/\a+mu c<=mu (Vx (sj s.cs us s.au s.aX s.qs s.sn s.aj.length ⟨s.aj,s.a6,[],List.replicate s.qs.length false⟩).s s.sn s.qs.length)+(if ok then 0 else 1)/\s'=(if ok then(NP.mk s.au s.aX c.aj c.a6 s.us s.qs s.qs.length (sj s.cs us s.au s.aX s.qs s.sn s.aj.length ⟨s.aj,s.a6,[],List.replicate s.qs.length false⟩).cs s.sk s.wy s.wr)else{s with sk:=true,wy:=TH})/\(∀x∈new,mJ NX n L1 x)/\new.length<=1001*s.aj.length+1000*a+1/\iD new s s'/\(∀b o,a7.blk b o∈L0->a7.blk b o∈L1)/\kp (Ba fr) ids f' tl Zf'/\pn f f' a a (a+(sj s.cs us s.au s.aX s.qs s.sn s.aj.length ⟨s.aj,s.a6,[],List.replicate s.qs.length false⟩).j)/\vJ n (m+s.aj.length) s' (lg++new) (tm++[(lg.length:Int)]) Zf' L1 Z'/\Hp W0 w' Z')):=by
 refine enter func15 rfl ntmps15 rfl ?_
 obtain⟨F1,L2,uj,Od,rfl⟩:=hZn
 have bP:=hH
 simp only[NZ,nE]at bP
 have iT:=Hp.mh (A:=[_,_,_,_,_,_,_,_,_,_,_,_]) (B:=F1.us.map (dI 3)) (R:=Zf) bP
 simp only[gf,eC]at iT
 refine SR<|gV iT (v:=Pn _ _) rfl<|fun b9 w7 eU=>va (v:=B false) rfl<|aa<|ag<|SR<| ?_
 obtain⟨R1,Wy⟩:∃R1:List a7,R1=[a7.blk b9 (.cells #[pt n] 31 (0,0))]++(F1.us.map (dI 3)++L2):=⟨_,rfl⟩
 have bV:=Hp.mh (A:=[_,_,_,_,_,_,_,_,_,_,_,_]) (B:=[a7.blk b9 (.cells #[pt n] 31 (0,0))]) (R:=Zf) (eU.pj [1,1,1,1,1,1,1,1,1,1,1,1])
 rw[<-Wy]at bV
 simp only[gf,eC]at bV
 have aeB:a7.blk b9 (.cells #[pt n] 31 (0,0))∈R1:=by rw[Wy];simp
 have hle:Le (Kz (Kw W0) L0) (Kz (Kw W0) R1):=Le.zb fun b o h=>by rw[Wy];exact bG _ (bG _ (Od b o h))
 have aez:=hlv.mono hle
 have an8:=I7.mono hle
 have Oa:=uj.fo.mono (L':=R1) fun e he=>by rw[Wy];exact bG _ (bG _ he)
 refine V (aC dc O O (bV.oR ((fun x hx=>(mT (mT (mT (mT (mT (mT (mT (mT (mT (mT (mT (mT (bG _ hx)))))))))))))) _ aeB) (v:=Pn _ _) O))<|aG O bV (oD _ (bV.blk (i:=0) O)) (an call40 O)<|fun Bv cm=>V (bO O)<|aa<|bW O (fun wc=> ?_) (fun wc=> ?_)
 .refine SR<|va (v:=B false) rfl<|aa<|ai<|have dS:=(cm);?_
  subst Wy
  exact iY (v:=B false) O O (.inl ⟨jY,rfl,_,⟨F1,[]++([a7.blk b9 (.cells #[pt n] 31 (0,0))]++L2),⟨uj.fo.mono fun e he=>bG _ (bG _ he),uj.us⟩,fun b o h=>bG _ (bG _ (Od b o h)),rfl⟩,Hp.Zk (A:=[_,_,_,_,_,_,_,_,_,_,_,_]) (Lb:=[]) (E:=[a7.blk b9 (.cells #[pt n] 31 (0,0))]) dS⟩)
 refine ak<|SR<|V (aC dc O O (cm.oR ((fun x hx=>(mT (mT (mT (mT (mT (mT (mT (mT (mT (mT (mT (mT (bG _ hx)))))))))))))) _ aeB) (v:=Pn _ _) O))<|bY O (pC J _ cm) (an call41 O)<| ?_
 rintro _ w20 ⟨rfl,v22,fB⟩
 simp only[nE]at fB
 refine aa<|SR<|V (aC dc O O (fB.oR ((fun x hx=>(mT (mT (mT (mT (mT (mT (mT (mT (mT (mT (mT (mT (bG _ hx)))))))))))))) _ aeB) (v:=Pn _ _) O))<|V (af O)<|V (fA cw 14 O jV O)<|lV gR fB 0 O O rfl<|V (aA (fB.sl (i:=10) O) O gR O)<|aI rfl<|aa<|ag<|SR<|V (aC dc O O (fB.oR ((fun x hx=>(mT (mT (mT (mT (mT (mT (mT (mT (mT (mT (mT (mT (bG _ hx)))))))))))))) _ aeB) (v:=Pn _ _) O))<|have Kg:∀k:Nat,k<F1.us.length->dI 3 (F1.us.getD k cY)∈R1/\(F1.us.getD k cY).l.length<=1000/\∀i∈(F1.us.getD k cY).l,0<=i/\i<(s.qs.length:Int):=(fun k hk=>by rw[Wy];exact⟨bG _ (Vz hok uj.us (L:=[]) k hk|>.1|>fun q=>by rw[lY]at q;exact dy _ q),(Vz hok uj.us (t:=0) (L:=[]) k hk).2⟩);have anW:F1.us.length=s.aj.length:=(by rw[<-gd,uj.us];exact hok.Oo);?_
 obtain⟨hJ0,hJ1,hJ2⟩:=hJ _ uj.us
 refine bY O (G8 Jzz mu hm hok.TG anW hok.kD hok.Qi J Kg hf J hok.WS hok.hqn hok.hqo hok.hlt hok.hlr hJ0 hJ2 _ hT aez hZ an8 Oa fB) (an call42 O) ?_
 rintro _ w43 ⟨aAG,aeC,aoj,a28,aAH,aAI,aAJ,aAK,aAL,W50,aAM,aAN,aAO,aAP,aAQ,Ts,Z32,f33,rfl,aok,aAR,aAS,aqt,auH,aHj,WA,aAT,aAU,vC⟩
 simp only[nE]at vC
 refine aa<|bW O (fun h55=> ?_) (fun h55=> ?_)
 .refine SR<|va (v:=B true) rfl<|aa<|ai<|have Bu:s.sk=false:=jY;have hof:aAG=true:=nU;have oZ:=(vC);?_
  subst hof
  subst Wy
  simp only[uL]at oZ WA
  rw[uj.us]at WA
  have aHk:aoj=s.wy:=by rcases aok with⟨_,_,q⟩|⟨q,_⟩;exact q;cases q
  rw[aHk]at oZ WA aok
  refine iY (v:=B true) O O (.inr ⟨Bu,F1.us,true,aeC,s.wy,a28,_,aAQ,(Ts++([a7.blk b9 (.cells #[pt n] 31 (0,0))]++L2)),_,Z32,f33,uj.us,rfl,aok,aAR,aAS,rfl,(fun x hx=>(auH x hx).1.mono fun e he=>dy _ he),aHj,WA,(fun b o h=>bG _ (bG _ (Od b o h))),aAT,aAU,⟨{F1 with vW:=aAH,vU:=aAI,vT:=aAJ,cW:=aAK,cU:=aAL,W:=W50,ul:=aAM,ts:=aAN,cn:=aAO,vd:=aAP,vm:=v22},(Ts++([a7.blk b9 (.cells #[pt n] 31 (0,0))]++L2)),⟨aqt.Eb fun b o h=>VA h,uj.us⟩,fun _ _ h=>h,rfl⟩,Hp.Zk (A:=[_,_,_,_,_,_,_,_,_,_,_,_]) oZ⟩)
 refine ak<|SR<|V (aC dc O O (vC.oR ((fun x hx=>(mT (mT (mT (mT (mT (mT (mT (mT (mT (mT (mT (mT (bG _ (bG _ hx))))))))))))))) _ aeB) (v:=Pn _ _) O))<|V (af O)<|V (fA cw 13 O dg O)<|V (aC dZ O O (vC.cell (i:=0) O (v:=U _) O))<|aU rfl<|aa<|SR<|V (aC dc O O (vC.oR ((fun x hx=>(mT (mT (mT (mT (mT (mT (mT (mT (mT (mT (mT (mT (bG _ (bG _ hx))))))))))))))) _ aeB) (v:=Pn _ _) O))<|mI rfl<|have hof:aAG=false:=nU;have aao:=(vC);?_
 subst hof
 subst Wy
 simp only[tR,xj]at aao WA aAS
 have Qi:=hok.Qi
 rw[uj.us]at WA
 obtain⟨Zc,hZc,hHc⟩:∃Z,vJ n (m+s.aj.length) (NP.mk s.au s.aX aeC.aj aeC.a6 s.us s.qs s.sn (sj s.cs F1.us s.au s.aX s.qs s.sn s.aj.length ⟨s.aj,s.a6,[],List.replicate s.qs.length false⟩).cs s.sk aoj s.wr) (lg++aAQ) (tm++[(lg.length:Int)]) Z32 (Ts++([a7.blk b9 (.cells #[pt n] 31 (0,0))]++L2)) Z/\Hp W0 _ Z:=⟨_,⟨{F1 with vW:=aAH,vU:=aAI,vT:=aAJ,cW:=aAK,cU:=aAL,W:=W50,ul:=aAM,ts:=aAN,cn:=aAO,vd:=aAP,vm:=v22},(Ts++([a7.blk b9 (.cells #[pt n] 31 (0,0))]++L2)),⟨aqt.Eb fun b o h=>VA h,uj.us⟩,fun _ _ h=>h,rfl⟩,Hp.Zk (A:=[_,_,_,_,_,_,_,_,_,_,_,_]) aao⟩
 refine bY O (Jc (s:=(NP.mk s.au s.aX aeC.aj aeC.a6 s.us s.qs s.sn (sj s.cs F1.us s.au s.aX s.qs s.sn s.aj.length ⟨s.aj,s.a6,[],List.replicate s.qs.length false⟩).cs s.sk aoj s.wr)) (R:=Z32) (L0:=(Ts++([a7.blk b9 (.cells #[pt n] 31 (0,0))]++L2))) (Z:=Zc) (lg.length:Int) EQ EQ (by rw[ef,Vy];exact WA.ok) (fun s1 k h1 h2 hok=>aoh hm ((auH _ (abu h1 h2)).1.mono fun e he=>dy _ he) ((auH _ (abu h1 h2)).2 O) hok) _ hZc hHc) (aN call43 O O) ?_
 rintro _ w60 ⟨rfl,Z61,aAV,pT⟩
 rw[ef,Vy,uH,WA.und]at aAV
 obtain⟨F64,L65,aAW,aol,rfl⟩:=aAV
 have mM:=pT
 simp only[NZ,nE]at mM
 refine aa<|ag<|fT (z:=⟨none,_,_,_,_,none⟩) aP O aP mM (sQ sR)<|fun w69 vE=>have NY:=vE.sub (sQ sR);AT 0 O NY (fun w hS=>aC dc O O (hS.oR ((fun x hx=>(mT (mT (mT (mT (mT (mT (mT (mT (mT (mT (mT (bG _ (bG _ hx)))))))))))))) _ (aol _ _ (show a7.blk b9 (.cells #[pt n] 31 (0,0))∈(Ts++([a7.blk b9 (.cells #[pt n] 31 (0,0))]++L2))by simp))) (v:=Pn _ _) O))<|AT 1 O NY (fun w hS=>aC dc O O (hS.oR ((fun x hx=>(mT (mT (mT (mT (mT (mT (mT (mT (mT (mT (mT (bG _ (bG _ hx)))))))))))))) _ (aol _ _ (show a7.blk b9 (.cells #[pt n] 31 (0,0))∈(Ts++([a7.blk b9 (.cells #[pt n] 31 (0,0))]++L2))by simp))) (v:=Pn _ _) O))<|AQ 2 O NY (mV (U _) O)<|AQ 3 O NY (af O)<|AQ 4 O NY (fA cw 12 O nS O)<|A1 5<|dU O aH vE (j:=0) O (sQ sR) (bQ O O (v:=B true) O O O (vE.blk (i:=0) O) aF)<|fun w73 Ak=> ?_
 simp only[iM,kL,m7,ia,Nat.reduceAdd]at Ak
 refine AQ 6 O (Ak.sub (sQ sR)) (af O)<|AQ 7 O (Ak.sub (sQ sR)) (fA cw 13 O dg O)<|AD<|bt Ak (i:=0) O (bQ O O (v:=U _) O O O (Ak.blk (i:=0) O) aF)<|fun w75 rq=> ?_
 simp only[iM,kL,m7,ia,Nat.reduceAdd]at rq
 refine aa<|SR<|V (aC dc O O (rq.oR ((fun x hx=>(mT (mT (mT (mT (mT (mT (mT (mT (mT (mT (mT (mT (bG _ (bG _ hx))))))))))))))) _ (aol _ _ (show a7.blk b9 (.cells #[pt n] 31 (0,0))∈(Ts++([a7.blk b9 (.cells #[pt n] 31 (0,0))]++L2))by simp))) (v:=Pn _ _) O))<| ?_
 refine V (xV bC) ?_
 refine bY O (iA _ _ .stuck J _ rq) (aN y9 O O) ?_
 rintro _ w79 ⟨rfl,v81,tK⟩
 simp only[nE]at tK
 refine aa<|SR<|va (v:=B false) rfl<|aa<|ai<|have Bu:s.sk=false:=jY;have tM:=(tK);iY (v:=B false) O O (.inr ⟨Bu,F1.us,false,aeC,aoj,a28,_,[((iH 45 #[pt b9]),.stuck)],(Ts++([a7.blk b9 (.cells #[pt n] 31 (0,0))]++L2)),_,Z32,f33,uj.us,rfl,aok,aAR,iP,rfl,(fun x hx=>by rw[dY.1 hx];exact⟨_,rfl,aF⟩),(by rw[gN];omega),Zl Bu (hwy Bu),(fun b o h=>bG _ (bG _ (Od b o h))),aAT,aAU,⟨{F64 with vd:=v81,vm:=F64.vm},L65,⟨aAW.fo,aAW.us⟩,aol,rfl⟩,tM⟩)
theorem Of(x:Value)(hx:x.cells=#[x])(w:World):Calls Tryz.prog 36 #[x] w (jj fun u w'=>∃(n:Nat) (Z:List a7),u=pt n/\Hp w w' Z/\vJ n 0 (NP.mk [] [] [] [] [] [] 0 [[]] false 0 x) [] [] [] [] Z):=by
 refine eH func36 rfl rfl fun hH=>SR<|va (v:= .pointer none) rfl<|aa<|SR<|V (run_move (show _=x from O))<|V (dx (vs:=[(0,x)]) O (aet hx))<|gV hH (v:= .agg _) rfl<|fun b3 w1 aZ=>va (v:=Pn _ _) rfl<|aa<|ai<|have hN:=(((((((((((aZ.fx 3 1).fx 1 1).fx 128 13).fx 99 1).fx 35 1).fx 37 8).fx 3 1).fx 119 13).fx 3 1).fx 1 1).fx 35 1);iY O (v:=pt b3) O ⟨b3,_,rfl,hN.perm (xR (l₁:=[_,_,_,_,_,_,_,_,_,_,_]) (l₂:=[_])),⟨.slice none 0 0,.slice none 0 0,.slice none 0 0,.slice none 0 0,.slice none 0 0,.slice none 0 0,.slice none 0 0,.slice none 0 0,.slice none 0 0,0,.slice none 0 0,.slice none 0 0,none,none,[],[],[],[]⟩,[],⟨⟨⟨[],rfl,trivial,trivial,⟨rfl,rfl,rfl⟩,trivial,(fun x hx=>by cases hx),er _,er _⟩,rfl⟩,rfl⟩,(fun b o h=>oO),rfl⟩
theorem Og{s:NP}{L0 Z:List a7}{ids:List Nat}{tl:List (Nat×Rl)}{f:Ct}{Zf:List a7}(p:kW)(hfn:p.aL.length<=1000)(hnn:∀f∈p.aL,f.names.length<=1000)(hll:s.au.length<=1000)(hlg:lg.length<=550000000000)(htm:tm.length<=100000000)(hwr:WrF s.wr ids)(w:World)(hT:oG W0)(hsh:ld (Kz (Kw W0) L0) p)(hZ:kp (Ba fr) ids f tl Zf)(hZn:vJ n m s lg tm Zf L0 Z)(hH:Hp W0 w Z):Calls Tryz.prog 19 #[pt n,.agg (q9 p)] w (jj fun u w'=>((s.sk=true\/lW p.sh=false)/\u=I (-1)/\∃Z',vJ n m s lg tm Zf L0 Z'/\Hp W0 w' Z')\/(s.sk=false/\∃(x:pg) (fv:Value) (Qn:List (Nat×Rl)) (L1 Z' Zf':List a7),lW p.sh=true/\u=I s.au.length/\x.p.sh=p.sh/\x.low=iu p.sh eY/\WrD s.wr x.d/\(∀b o,a7.blk b o∈L0->a7.blk b o∈L1)/\WU TX (Kz (Kw W0) L1) ids (tl++Qn) x/\mJ NX n L1 (fv,.aX s.au.length)/\kp (Ba fr) ids f (tl++Qn) Zf'/\iD [(fv,.aX s.au.length)] s {s with au:=s.au++[x]}/\vJ n m {s with au:=s.au++[x]} (lg++[(fv,.aX s.au.length)]) (tm++[(lg.length:Int)]) Zf' L1 Z'/\Hp W0 w' Z')):=by
 refine enter func19 rfl ntmps19 rfl ?_
 obtain⟨F1,L2,uj,Od,rfl⟩:=hZn
 have bP:=hH
 simp only[NZ,nE]at bP
 have iT:=Hp.mh (A:=[_,_,_,_,_,_,_,_,_,_,_,_]) (B:=F1.us.map (dI 3)) (R:=Zf) bP
 simp only[gf,eC]at iT
 have aAX:=hsh.mono (Le.zb (K:=Kw W0) Od)
 refine SR<|gV iT (v:=Pn _ _) rfl<|fun b9 w7 eU=>gV eU (v:= .agg _) rfl<|fun b12 GJ dJ=>va (v:=I 0) rfl<|aa<|ag<|SR<|lP dc dJ 1 O O rfl<|aG O dJ (oD _ (dJ.blk (i:=2) O)) (an call40 O)<|fun Bw cg=>V (bO O)<|mB rfl<|fO 11 O (fun J6=> ?_) (fun J6=> ?_)
 .refine aE (v:=B true) rfl<|aa<|cC rfl<|SR<|va (v:=I (-1)) rfl<|aa<|ai<|iY (v:=I (-1)) O O (.inl ⟨jY,rfl,_,⟨F1,L2,uj,Od,rfl⟩,Hp.mh (A:=[_,_,_,_,_,_,_,_,_,_,_,_]) (cg.sub (sQ (sQ sR)))⟩)
 refine V (cM (cs:=[B _,_]) dL O O O (bp (cg.blk (i:=0) O)))<|aG O cg (xI p _ (aAX.mono (cg.kz (Le.refl _) (fun x hx=>(mT (mT (mT (mT (mT (mT (mT (mT (mT (mT (mT (mT (mT (mT (bG _ (bG _ hx))))))))))))))))))) (hT.hp cg)) (an call50 O)<|fun Ou gW=>V (bO O)<|mB rfl<|aa<|bW O (fun h22=> ?_) (fun h22=> ?_)
 .refine SR<|va (v:=I (-1)) rfl<|aa<|ai<|iY (v:=I (-1)) O O (.inl ⟨jY,rfl,_,⟨F1,L2,uj,Od,rfl⟩,Hp.mh (A:=[_,_,_,_,_,_,_,_,_,_,_,_]) (gW.sub (sQ (sQ sR)))⟩)
 refine ak<|SR<|lP dc gW 1 O O rfl<|bY O (pC J _ (gW.pj [2,2,2,2,2,2,2,2,2,2,2,2])) (an call41 O)<| ?_
 rintro _ w25 ⟨rfl,v27,kG⟩
 simp only[nE]at kG
 have gk:=kG.pk [12,12]
 refine aa<|SR<|V (cM (cs:=[B _,_]) dL O O O (bp (gk.blk (i:=0) O)))<|xP 1 1 gk (Mo Ri O O O (l:=[p]) O az az O)<|fun b31 w29 jf=>Yy O jf (AY (Kz (Kw W0) (F1.us.map (dI 3)++L2)) (.slice (some ⟨b31,0,none⟩) 1 1) [p] (show 1<=1000 by decide) (by simpa using hfn) (by simpa using hnn) _ (jf.kz (Le.refl _) (fun x hx=>(mT (mT (mT (mT (mT (mT (mT (mT (mT (mT (mT (mT (mT (mT (mT (bG _ hx)))))))))))))))))) (Hp.oQ Mm jf (i:=0) (l:=[p]) O (show 1<=maxLen by decide)) ⟨fun x hx=>by rw[dY.1 hx];exact aAX.mono (Le.zz fun y hy=>bG _ hy)⟩) (an call51 O)<|fun v34 w35 JJ oe aHl=>have m5:Hp _ w35 (_::_::_::_::_::_::_::_::_::_::_::_::_::_::_::(JJ++(Zf++(F1.us.map (dI 3)++L2)))):=oe.Jo (L:=[_,_,_,_,_,_,_,_,_,_,_,_,_,_,_]) (L':=(Zf++(F1.us.map (dI 3)++L2)));have iU:Hp _ w35 (_::_::_::_::_::_::_::_::_::_::_::_::_::_::_::(Zf++(JJ++(F1.us.map (dI 3)++L2)))):=Hp.swz (A:=[_,_,_,_,_,_,_,_,_,_,_,_,_,_,_]) m5;?_
 obtain⟨rF,rfl,aqu,auI⟩:=aHl
 refine nu iU (aW Tryz.zeroValue56)<|fun b47 w45 sx=>bt sx (i:=0) O (Iq auI O O O (sx.blk (i:=0) O) O)<|fun w50 wg=> ?_
 simp only[z2,gU,pull]at wg
 refine aa<|SR<|V (fA dL 0 O nS O)<|V (aC xg O O (wg.cell (i:=2) O (v:=B _) O))<|V (fA dL 0 O nS O)<|bt (c':=#[B p.tuple,rF.fv]) wg (i:=0) O (bQ (off:=0+0) O O (v:=B p.tuple) O O O (wg.blk (i:=0) O) aF)<|fun w53 gH=> ?_
 simp only[z2,gU,pull]at gH
 have WW:ld (Kz (Kw W0) (JJ++(F1.us.map (dI 3)++L2))) (⟨p.tuple,rF.fv,rF.aL⟩:kW):=(show ld _ (⟨p.tuple,rF.fv,rF.aL⟩:kW)from⟨auI.aL,auI.each⟩).mono Le.kk
 have hps:(⟨p.tuple,rF.fv,rF.aL⟩:kW).sh=p.sh:=by show(⟨p.tuple,rF.aL.map qk.fc⟩:Sh)=p.sh;rw[Qj aqu];rfl
 obtain⟨pf1,pf2⟩:=ana aqu hfn hnn
 refine aa<|E4 (G:=(Nat)×(List a7)×(List a7)×(pg)×(List (Nat×Rl))) gH (6::(rg 24 6 [])) (fun(L:List a7) (⟨q6,Z1,Zq,x1,Qn⟩:(Nat)×(List a7)×(List a7)×(pg)×(List (Nat×Rl)))=> .blk q6 (.cells (WT x1).toArray 119 (0,0))::(L.take 16++(Z1++(Zq++(JJ++(F1.us.map (dI 3)++L2)))))) (fun(⟨q6,Z1,Zq,x1,Qn⟩:(Nat)×(List a7)×(List a7)×(pg)×(List (Nat×Rl))) s'=>(s' 6= .pointer (some ⟨q6,0,none⟩))/\(kp (Ba fr) ids f (tl++Qn) Z1)/\((WU TX (Kz (Kw W0) (Zq++(JJ++(F1.us.map (dI 3)++L2)))) ids (tl++Qn) x1))/\(x1.p=(⟨p.tuple,rF.fv,rF.aL⟩:kW))/\(x1.d.dep=0)/\(x1.low=iu x1.p.sh eY)) ?_ ?_
 .refine fT (z:=⟨none,_,_,_,_,none⟩) aP O aP gH (sP (sP (sP (sP (sP (sP (sP (sP (sP (sP (sP (sP (sP (sP (sP (sP (sA sR)))))))))))))))))<|fun w55 oZ=>have auJ:=oZ.sub (sP (sP (sP (sP (sP (sP (sP (sP (sP (sP (sP (sP (sP (sP (sP (sP (sA sR)))))))))))))))));AT 0 O auJ (fun w hS=>cM (cs:=[B _,_]) dL O O O (bp (hS.blk (i:=0) O)))<|AT 1 O auJ (fun w hS=>cM (cs:=[B _,_]) dL O O O (bp (hS.blk (i:=0) O)))<|AT 3 O auJ (fun w hS=>cM (cs:=[B _,_]) dL O O O (bp (hS.blk (i:=0) O)))<|gD 2 6 aP ?_ ?_
  .refine xu O aH O (NW (Kz (Kw W0) (JJ++(F1.us.map (dI 3)++L2))) (⟨p.tuple,rF.fv,rF.aL⟩:kW) pf1 pf2 _ (oZ.kz (Le.refl _) (fun x hx=>(mT (mT (mT (mT (mT (mT (mT (mT (mT (mT (mT (mT (mT (mT (mT (mT (bG _ hx))))))))))))))))))) WW) (an call52 O) (fun u w' ⟨_,_,_,_,_,_,_,_,_,_,_,_,_,_,_,_,_,h⟩=>(oZ.call h.below).sub (sP (sP (sP (sP (sP (sP (sP (sP (sP (sP (sP (sP (sP (sP (sP (sP (sA sR)))))))))))))))))) ?_
   rintro _ w59 ⟨f1,f2,f3,a1,a2,a3,p60,aeD,akz,aP0,akA,rfl,aAY,aAZ,aqv,aqw,aA0,h70⟩
   obtain⟨Z71,aom,wh⟩:∃Z,kp (Ba fr) ids f (tl++akz) Z/\Hp _ _ (_::_::_::_::_::_::_::_::_::_::_::_::_::_::_::_::(Z++(akA++(JJ++(F1.us.map (dI 3)++L2))))):=⟨_,hZ.app aA0,Hp.ao7 (A:=[_,_,_,_,_,_,_,_,_,_,_,_,_,_,_,_]) (Hp.D4 oZ h70)⟩
   refine gD 4 6 aP ?_ ?_
   .refine bX O aH O wh (sP (sP (sP (sP (sP (sP (sP (sP (sP (sP (sP (sP (sP (sP (sP (sP (sA (sA sR)))))))))))))))))) (vB (⟨p.tuple,rF.fv,rF.aL⟩:kW) _ (WW.mono (wh.kz (Le.refl _) (fun x hx=>(mT (mT (mT (mT (mT (mT (mT (mT (mT (mT (mT (mT (mT (mT (mT (mT (bG _ (bG _ hx))))))))))))))))))))) (hT.hp wh)) (an call53 O)<|fun w74 GY=>AQ 5 O (GY.sub (sP (sP (sP (sP (sP (sP (sP (sP (sP (sP (sP (sP (sP (sP (sP (sP (sA (sA sR))))))))))))))))))) (dx (vs:=[(0,.agg (q9 (⟨p.tuple,rF.fv,rF.aL⟩:kW))),(1,.agg #[iH f1 a1,iH f2 a2,iH f3 a3]),(2,.agg (jv (iu (⟨p.tuple,rF.fv,rF.aL⟩:kW).sh eY)))]) O (xK _ _ _ _ (.base p60 aeD) _))<|A1 6<|cK O aH O GY (sP (sP (sP (sP (sP (sP (sP (sP (sP (sP (sP (sP (sP (sP (sP (sP (sA (sA sR)))))))))))))))))) (f:=fun b=> .pointer (some ⟨b,0,none⟩)) (aW Tryz.zeroValue119)<|fun b78 w76 Tt=>AD<|have hlx:WU TX (Kz (Kw W0) (akA++(JJ++(F1.us.map (dI 3)++L2)))) ids (tl++akz) ⟨(⟨p.tuple,rF.fv,rF.aL⟩:kW),_,_,_,.base p60 aeD,iu (⟨p.tuple,rF.fv,rF.aL⟩:kW).sh eY⟩:=⟨aAY.mono Le.kk,⟨aqv,fun i hi q hq=>bG _ (aqw i hi q hq)⟩,aAZ,WW.mono (Le.zz fun x hx=>bG _ hx),mW _⟩;bt Tt (i:=0) O (dF O O O (Gz hlx) (Tt.blk (i:=0) O) O)<|fun w79 tK=> ?_
    simp only[z2,gU,pull]at tK
    refine aa ?_
    refine⟨((Fr.refl _ _)).u4.u1.u1.u1,(b78,Z71,akA,⟨(⟨p.tuple,rF.fv,rF.aL⟩:kW),_,_,_,.base p60 aeD,iu (⟨p.tuple,rF.fv,rF.aL⟩:kW).sh eY⟩,akz),(Hp.conv tK X8),rfl,?_,?_,aO,aO,aO⟩
    .exact aom
    exact hlx
   refine cK O aH O wh (sP (sP (sP (sP (sP (sP (sP (sP (sP (sP (sP (sP (sP (sP (sP (sP (sA (sA sR)))))))))))))))))) (f:=fun b=> .pointer (some ⟨b,0,none⟩)) (aW Tryz.zeroValue119)<|fun b83 w81 tM=>A1 4<|bX O aH O tM (sQ (sP (sP (sP (sP (sP (sP (sP (sP (sP (sP (sP (sP (sP (sP (sP (sP (sA (sA sR))))))))))))))))))) (vB (⟨p.tuple,rF.fv,rF.aL⟩:kW) _ (WW.mono (tM.kz (Le.refl _) (fun x hx=>(mT (mT (mT (mT (mT (mT (mT (mT (mT (mT (mT (mT (mT (mT (mT (mT (mT (bG _ (bG _ hx)))))))))))))))))))))) (hT.hp tM)) (an call53 O)<|fun w84 We=>AQ 5 O (We.sub (sQ (sP (sP (sP (sP (sP (sP (sP (sP (sP (sP (sP (sP (sP (sP (sP (sP (sA (sA sR)))))))))))))))))))) (dx (vs:=[(0,.agg (q9 (⟨p.tuple,rF.fv,rF.aL⟩:kW))),(1,.agg #[iH f1 a1,iH f2 a2,iH f3 a3]),(2,.agg (jv (iu (⟨p.tuple,rF.fv,rF.aL⟩:kW).sh eY)))]) O (xK _ _ _ _ (.base p60 aeD) _))<|AD<|have hlx:WU TX (Kz (Kw W0) (akA++(JJ++(F1.us.map (dI 3)++L2)))) ids (tl++akz) ⟨(⟨p.tuple,rF.fv,rF.aL⟩:kW),_,_,_,.base p60 aeD,iu (⟨p.tuple,rF.fv,rF.aL⟩:kW).sh eY⟩:=⟨aAY.mono Le.kk,⟨aqv,fun i hi q hq=>bG _ (aqw i hi q hq)⟩,aAZ,WW.mono (Le.zz fun x hx=>bG _ hx),mW _⟩;bt We (i:=0) O (dF O O O (Gz hlx) (We.blk (i:=0) O) O)<|fun w86 IX=> ?_
   simp only[z2,gU,pull]at IX
   refine aa ?_
   refine⟨((Fr.refl _ _)).u4.u1.u1.u1,(b83,Z71,akA,⟨(⟨p.tuple,rF.fv,rF.aL⟩:kW),_,_,_,.base p60 aeD,iu (⟨p.tuple,rF.fv,rF.aL⟩:kW).sh eY⟩,akz),(Hp.conv IX X8),rfl,?_,?_,aO,aO,aO⟩
   .exact aom
   exact hlx
  refine cK O aH O oZ (sP (sP (sP (sP (sP (sP (sP (sP (sP (sP (sP (sP (sP (sP (sP (sP (sA sR))))))))))))))))) (f:=fun b=> .pointer (some ⟨b,0,none⟩)) (aW Tryz.zeroValue119)<|fun b90 w88 I3=>A1 2<|xu O aH O (NW (Kz (Kw W0) (JJ++(F1.us.map (dI 3)++L2))) (⟨p.tuple,rF.fv,rF.aL⟩:kW) pf1 pf2 _ (I3.kz (Le.refl _) (fun x hx=>(mT (mT (mT (mT (mT (mT (mT (mT (mT (mT (mT (mT (mT (mT (mT (mT (mT (bG _ hx)))))))))))))))))))) WW) (an call52 O) (fun u w' ⟨_,_,_,_,_,_,_,_,_,_,_,_,_,_,_,_,_,h⟩=>(I3.call h.below).sub (sQ (sP (sP (sP (sP (sP (sP (sP (sP (sP (sP (sP (sP (sP (sP (sP (sP (sA sR)))))))))))))))))))<| ?_
  rintro _ w93 ⟨f1,f2,f3,a1,a2,a3,p94,auK,auL,aP4,auM,rfl,aHn,aA1,auN,auO,auP,aHo⟩
  obtain⟨aHp,aA2,QG⟩:∃Z,kp (Ba fr) ids f (tl++auL) Z/\Hp _ _ (_::_::_::_::_::_::_::_::_::_::_::_::_::_::_::_::_::(Z++(auM++(JJ++(F1.us.map (dI 3)++L2))))):=⟨_,hZ.app auP,Hp.ao7 (A:=[_,_,_,_,_,_,_,_,_,_,_,_,_,_,_,_,_]) (Hp.D4 I3 aHo)⟩
  refine A1 4<|bX O aH O QG (sQ (sP (sP (sP (sP (sP (sP (sP (sP (sP (sP (sP (sP (sP (sP (sP (sP (sA (sA sR))))))))))))))))))) (vB (⟨p.tuple,rF.fv,rF.aL⟩:kW) _ (WW.mono (QG.kz (Le.refl _) (fun x hx=>(mT (mT (mT (mT (mT (mT (mT (mT (mT (mT (mT (mT (mT (mT (mT (mT (mT (bG _ (bG _ hx)))))))))))))))))))))) (hT.hp QG)) (an call53 O)<|fun aHq QO=>AQ 5 O (QO.sub (sQ (sP (sP (sP (sP (sP (sP (sP (sP (sP (sP (sP (sP (sP (sP (sP (sP (sA (sA sR)))))))))))))))))))) (dx (vs:=[(0,.agg (q9 (⟨p.tuple,rF.fv,rF.aL⟩:kW))),(1,.agg #[iH f1 a1,iH f2 a2,iH f3 a3]),(2,.agg (jv (iu (⟨p.tuple,rF.fv,rF.aL⟩:kW).sh eY)))]) O (xK _ _ _ _ (.base p94 auK) _))<|AD<|have hlx:WU TX (Kz (Kw W0) (auM++(JJ++(F1.us.map (dI 3)++L2)))) ids (tl++auL) ⟨(⟨p.tuple,rF.fv,rF.aL⟩:kW),_,_,_,.base p94 auK,iu (⟨p.tuple,rF.fv,rF.aL⟩:kW).sh eY⟩:=⟨aHn.mono Le.kk,⟨auN,fun i hi q hq=>bG _ (auO i hi q hq)⟩,aA1,WW.mono (Le.zz fun x hx=>bG _ hx),mW _⟩;bt QO (i:=0) O (dF O O O (Gz hlx) (QO.blk (i:=0) O) O)<|fun aP5 WB=> ?_
  simp only[z2,gU,pull]at WB
  refine aa ?_
  refine⟨((Fr.refl _ _)).u4.u1.u1.u1,(b90,aHp,auM,⟨(⟨p.tuple,rF.fv,rF.aL⟩:kW),_,_,_,.base p94 auK,iu (⟨p.tuple,rF.fv,rF.aL⟩:kW).sh eY⟩,auL),(Hp.conv WB X8),rfl,?_,?_,aO,aO,aO⟩
  .exact aA2
  exact hlx
 rintro⟨q6,Z1,Zq,x1,Qn⟩ aK4 auo aA3 CY ⟨Tu,N7,hx1,hxp,hxd,Px⟩
 simp only[Ho,wY,gf,eC]at CY
 have tO:=aA3.w1 2
 refine ag<|SR<|V (aC dc O tO (CY.cell (i:=4) O (v:=Pn _ _) O))<|V (af O)<|V (fA cw 0 O sizeOf74 O)<|lV underlying74 CY 5 O O rfl<|V (adZ hwr.fn underlying74 O O)<|aa<|bW O (fun at5=> ?_) (fun at5=> ?_)
 .obtain⟨mwf,fwf,cwf,hwf,aHr,aHs,aHt⟩:=hwr.yes aK
  refine fT (z:=⟨none,_,_,_,_,none⟩) aP O aP CY (sP (sP (sP (sP (sP (sP (sP (sP (sP (sP (sP (sP (sP (sP (sP (sP (sP (sA sR))))))))))))))))))<|fun auC Ev=>have QR:=Ev.sub (sP (sP (sP (sP (sP (sP (sP (sP (sP (sP (sP (sP (sP (sP (sP (sP (sP (sA sR))))))))))))))))));AT 0 O QR (fun w hS=>aC dc O tO (hS.cell (i:=4) O (v:=Pn _ _) O))<|AQ 1 O QR (af O)<|AQ 2 O QR (fA cw 0 O sizeOf74 O)<|tV 3 O QR underlying74 5 O O rfl<|AQ 4 O QR (fA BK 2 O sizeOf117 Tu)<|AT 5 O QR (fun w hS=>iB (sub:=[_,_,_]) pF O O O (hS.blk (i:=0) O) O)<|A1 6<|xu O aH O (aHt (Kz (Kw W0) (Zq++(JJ++(F1.us.map (dI 3)++L2)))) x1.d x1.e x1.l x1.j _ (Ev.kz (Le.refl _) (fun x hx=>(mT (mT (mT (mT (mT (mT (mT (mT (mT (mT (mT (mT (mT (mT (mT (mT (mT (bG _ hx)))))))))))))))))))) hx1.ops) (Zm aHs (rfl.trans hwf) O) (fun u w' ⟨_,h,_⟩=>(Ev.call h.below).sub (sP (sP (sP (sP (sP (sP (sP (sP (sP (sP (sP (sP (sP (sP (sP (sP (sP (sA sR)))))))))))))))))))<| ?_
  rintro _ aP7 ⟨Oh,auq,g1,g2,g3,c1,c2,c3,rfl,aA4⟩
  have JH:Hp _ _ (_::_::_::_::_::_::_::_::_::_::_::_::_::_::_::_::_::(Z1++(Oh++(Zq++(JJ++(F1.us.map (dI 3)++L2)))))):=Hp.swz (A:=[_,_,_,_,_,_,_,_,_,_,_,_,_,_,_,_,_]) (Hp.Jo (L:=[_,_,_,_,_,_,_,_,_,_,_,_,_,_,_,_,_]) (L':=(Z1++(Zq++(JJ++(F1.us.map (dI 3)++L2))))) (Hp.D4 Ev auq))
  have WQ:WU TX (Kz (Kw W0) (Oh++(Zq++(JJ++(F1.us.map (dI 3)++L2))))) ids (tl++Qn) ⟨x1.p,iH g1 c1,iH g2 c2,iH g3 c3,.wrap mwf x1.d,x1.low⟩:=⟨aA4.mono Le.kk,⟨aHr,hx1.EX⟩,hx1.sh,hx1.zx.mono (Le.zz fun x hx=>bG _ hx),by show x1.d.dep+1<=1;omega⟩
  refine AQ 7 O (JH.sub (sP (sP (sP (sP (sP (sP (sP (sP (sP (sP (sP (sP (sP (sP (sP (sP (sP (sA (sA sR)))))))))))))))))))) (fA BK 2 O sizeOf117 Tu)<|AD<|bt JH (i:=0) O (PB (sub:=[iH g1 c1,iH g2 c2,iH g3 c3]) (c':=WT ⟨x1.p,iH g1 c1,iH g2 c2,iH g3 c3,.wrap mwf x1.d,x1.low⟩) O O O (by simp[Value.oneCell',iH]) (JH.blk (i:=0) O) (by simp[qQ]) O)<|fun aP8 WC=> ?_
  simp only[z2,gU,pull]at WC
  refine aa<|SR<|V (aC dc O tO (WC.cell (i:=4) O (v:=Pn _ _) O))<|V (af O)<|V (fA cw 1 O tB O)<|lV oF WC 5 O O rfl<|V (aA (WC.sl (i:=9) O) O oF O)<|nu WC (aW Tryz.zeroValue3)<|fun aon aA5 acg=>bt acg (i:=0) O (bQ O O (v:=I _) O O O (acg.blk (i:=0) O) (by first|decide|simp))<|fun an5 A0=> ?_
  simp only[z2,gU,pull]at A0
  refine aa<|ag<|fT (z:=⟨none,_,_,_,_,none⟩) aP O aP A0 (sP (sP (sP (sP (sP (sP (sP (sP (sP (sP (sQ (sP (sP (sP (sP (sP (sP (sP (sA sR)))))))))))))))))))<|fun auQ CZ=>have yC:=CZ.sub (sP (sP (sP (sP (sP (sP (sP (sP (sP (sP (sQ (sP (sP (sP (sP (sP (sP (sP (sA sR)))))))))))))))))));AT 0 O yC (fun w hS=>aC dc O tO (hS.cell (i:=5) O (v:=Pn _ _) O))<|AT 1 O yC (fun w hS=>aC dc O tO (hS.cell (i:=5) O (v:=Pn _ _) O))<|AQ 2 O yC (af O)<|AQ 3 O yC (fA cw 1 O tB O)<|tV 4 O yC oF 6 O O rfl<|AT 5 O yC (fun w hS=>cM (cs:=WT _) BK O O Tu (bp (hS.blk (i:=1) O)))<|A1 6<|cK O aH O CZ (sP (sP (sP (sP (sP (sP (sP (sP (sP (sP (sQ (sP (sP (sP (sP (sP (sP (sP (sA sR))))))))))))))))))) (f:=fun b=> .slice (some ⟨b,0,none⟩) 1 1) (n7 qQ oF O O O (l:=[⟨x1.p,iH g1 c1,iH g2 c2,iH g3 c3,.wrap mwf x1.d,x1.low⟩]) O az az O)<|fun aHu aHv G5=>A1 7<|Sz (a:=⟨x1.p,iH g1 c1,iH g2 c2,iH g3 c3,.wrap mwf x1.d,x1.low⟩) O aH qQ az O G5 (i:=11) O (fun _=>(sQ (sP (sP (sP (sP (sP (sP (sP (sP (sP (sP (sQ (sP (sP (sP (sP (sP (sP (sP (sA sR))))))))))))))))))))) (Hp.oQ qQ G5 (i:=0) (l:=[⟨x1.p,iH g1 c1,iH g2 c2,iH g3 c3,.wrap mwf x1.d,x1.low⟩]) O kU) O O oF O O (bytes:=120) O O O (fun u hu=>Gz WQ u qy) J az<|fun akB aoo pz=> ?_
  simp only[z2,gU,pull]at pz
  refine AQ 8 O (pz.sub (sQ (sP (sP (sP (sP (sP (sP (sP (sP (sP (sP (sQ (sP (sP (sP (sP (sP (sP (sP (sA sR))))))))))))))))))))) (af O)<|AQ 9 O (pz.sub (sQ (sP (sP (sP (sP (sP (sP (sP (sP (sP (sP (sQ (sP (sP (sP (sP (sP (sP (sP (sA sR))))))))))))))))))))) (fA cw 1 O tB O)<|AD<|bt pz (i:=7) O (bQ O O (v:=akB) O (bj (pz.get (i:=11) O)).1 (bj (pz.get (i:=11) O)).2 (pz.blk (i:=7) O) aF)<|fun aA6 C0=> ?_
  simp only[iM,kL,m7,ia,Nat.reduceAdd]at C0
  refine aa<|SR<|V (aC dc O tO (C0.cell (i:=6) O (v:=Pn _ _) O))<| ?_
  refine V (nV tO bC) ?_
  refine bY O (iA _ _ (.aX s.au.length) (by first|omega|(simp only[cZ];omega)) _ (C0.pj [7,7,7,7,7,7,7,7,7,7,7,7])) (aN y9 O O) ?_
  rintro _ aA7 ⟨rfl,aHw,ach⟩
  simp only[nE]at ach
  have aqy:=ach.pk [12,12,12,12,12,12,12]
  refine aa<|SR<|lI bf aqy 1 O O rfl<|aI rfl<|aa<|ai<|have WD:=Hp.mh (A:=[_,_,_,_,_,_,_,_,_,_,_,_]) (B:=[_,_]) (R:=Z1) ((aqy.sub (sQ (sP (sQ (sQ (sQ (sQ sR))))))).pj [2,2,2,2,2,2,2,2,2,2,2,2,1]);have hmv:∀b o,a7.blk b o∈(Oh++(Zq++(JJ++(F1.us.map (dI 3)++L2))))->a7.blk b o∈([a7.blk b9 (.cells #[pt n] 31 (0,0)),a7.blk aon (.cells #[I s.au.length] 3 (0,0))]++(Oh++(Zq++(JJ++L2)))):=(fun b o hb=>by have h2:=SI (A:=Oh++Zq++JJ) (gs:=F1.us) (t:=3) (B:=L2) (by simpa only[dG]using hb);simp only[dG]at h2;exact bG _ h2);iY (v:=I s.au.length) O O (.inr ⟨jY,⟨x1.p,iH g1 c1,iH g2 c2,iH g3 c3,.wrap mwf x1.d,x1.low⟩,(iH 54 #[pt b9,pt aon]),Qn,([a7.blk b9 (.cells #[pt n] 31 (0,0)),a7.blk aon (.cells #[I s.au.length] 3 (0,0))]++(Oh++(Zq++(JJ++L2)))),_,Z1,jY,rfl,?_,?_,⟨fun q=>absurd (q.symm.trans ‹ait s.wr=true›) KV,by show x1.d.dep+1<=1;omega⟩,(fun b o hb=>(fun e he=>bG _ (bG _ (bG _ (bG _ (he))))) _ (Od b o hb)),WQ.mono (Le.zb hmv),?_,N7,VB,⟨{F1 with vL:=akB,vm:=v27,vd:=aHw},([a7.blk b9 (.cells #[pt n] 31 (0,0)),a7.blk aon (.cells #[I s.au.length] 3 (0,0))]++(Oh++(Zq++(JJ++L2)))),⟨uj.fo.mono (fun e he=>bG _ (bG _ (bG _ (bG _ (he))))),uj.us⟩,fun _ _ q=>q,rfl⟩,Hp.us4 (A:=[_,_,_,_,_,_,_,_,_,_,_,_]) WD⟩)
  .show x1.p.sh=p.sh;rw[hxp];exact hps
  .show x1.low=_;rw[Px,hxp];exact aJ (fun q=>iu q eY) hps
  exact⟨_,_,rfl,aF,aF⟩
 refine ak<|SR<|V (aC dc O tO (CY.cell (i:=4) O (v:=Pn _ _) O))<|V (af O)<|V (fA cw 1 O tB O)<|lV oF CY 5 O O rfl<|V (aA (CY.sl (i:=9) O) O oF O)<|nu CY (aW Tryz.zeroValue3)<|fun aop aGv JE=>bt JE (i:=0) O (bQ O O (v:=I _) O O O (JE.blk (i:=0) O) (by first|decide|simp))<|fun aP9 aqz=> ?_
 simp only[z2,gU,pull]at aqz
 refine aa<|ag<|fT (z:=⟨none,_,_,_,_,none⟩) aP O aP aqz (sP (sP (sP (sP (sP (sP (sP (sP (sP (sP (sQ (sP (sP (sP (sP (sP (sP (sP (sA sR)))))))))))))))))))<|fun aQa aqA=>have QS:=aqA.sub (sP (sP (sP (sP (sP (sP (sP (sP (sP (sP (sQ (sP (sP (sP (sP (sP (sP (sP (sA sR)))))))))))))))))));AT 0 O QS (fun w hS=>aC dc O tO (hS.cell (i:=5) O (v:=Pn _ _) O))<|AT 1 O QS (fun w hS=>aC dc O tO (hS.cell (i:=5) O (v:=Pn _ _) O))<|AQ 2 O QS (af O)<|AQ 3 O QS (fA cw 1 O tB O)<|tV 4 O QS oF 6 O O rfl<|AT 5 O QS (fun w hS=>cM (cs:=WT _) BK O O Tu (bp (hS.blk (i:=1) O)))<|A1 6<|cK O aH O aqA (sP (sP (sP (sP (sP (sP (sP (sP (sP (sP (sQ (sP (sP (sP (sP (sP (sP (sP (sA sR))))))))))))))))))) (f:=fun b=> .slice (some ⟨b,0,none⟩) 1 1) (n7 qQ oF O O O (l:=[x1]) O az az O)<|fun aQb aQc aqB=>A1 7<|Sz (a:=x1) O aH qQ az O aqB (i:=11) O (fun _=>(sQ (sP (sP (sP (sP (sP (sP (sP (sP (sP (sP (sQ (sP (sP (sP (sP (sP (sP (sP (sA sR))))))))))))))))))))) (Hp.oQ qQ aqB (i:=0) (l:=[x1]) O kU) O O oF O O (bytes:=120) O O O (fun u hu=>Gz hx1 u qy) J az<|fun aA8 aA9 C1=> ?_
 simp only[z2,gU,pull]at C1
 refine AQ 8 O (C1.sub (sQ (sP (sP (sP (sP (sP (sP (sP (sP (sP (sP (sQ (sP (sP (sP (sP (sP (sP (sP (sA sR))))))))))))))))))))) (af O)<|AQ 9 O (C1.sub (sQ (sP (sP (sP (sP (sP (sP (sP (sP (sP (sP (sQ (sP (sP (sP (sP (sP (sP (sP (sA sR))))))))))))))))))))) (fA cw 1 O tB O)<|AD<|bt C1 (i:=7) O (bQ O O (v:=aA8) O (bj (C1.get (i:=11) O)).1 (bj (C1.get (i:=11) O)).2 (C1.blk (i:=7) O) aF)<|fun aQd akC=> ?_
 simp only[iM,kL,m7,ia,Nat.reduceAdd]at akC
 refine aa<|SR<|V (aC dc O tO (akC.cell (i:=6) O (v:=Pn _ _) O))<| ?_
 refine V (nV tO bC) ?_
 refine bY O (iA _ _ (.aX s.au.length) (by first|omega|(simp only[cZ];omega)) _ (akC.pj [7,7,7,7,7,7,7,7,7,7,7,7])) (aN y9 O O) ?_
 rintro _ aQe ⟨rfl,v175,aqC⟩
 simp only[nE]at aqC
 have aqD:=aqC.pk [12,12,12,12,12,12,12]
 refine aa<|SR<|lI bf aqD 1 O O rfl<|aI rfl<|aa<|ai<|have WE:=Hp.mh (A:=[_,_,_,_,_,_,_,_,_,_,_,_]) (B:=[_,_]) (R:=Z1) ((aqD.sub (sQ (sP (sQ (sQ (sQ (sQ sR))))))).pj [2,2,2,2,2,2,2,2,2,2,2,2,1]);have hmv:∀b o,a7.blk b o∈(Zq++(JJ++(F1.us.map (dI 3)++L2)))->a7.blk b o∈([a7.blk b9 (.cells #[pt n] 31 (0,0)),a7.blk aop (.cells #[I s.au.length] 3 (0,0))]++(Zq++(JJ++L2))):=(fun b o hb=>by have h2:=SI (A:=Zq++JJ) (gs:=F1.us) (t:=3) (B:=L2) (by simpa only[dG]using hb);simp only[dG]at h2;exact bG _ h2);iY (v:=I s.au.length) O O (.inr ⟨jY,x1,(iH 54 #[pt b9,pt aop]),Qn,([a7.blk b9 (.cells #[pt n] 31 (0,0)),a7.blk aop (.cells #[I s.au.length] 3 (0,0))]++(Zq++(JJ++L2))),_,Z1,jY,rfl,?_,?_,⟨fun _=>hxd,J⟩,(fun b o hb=>(fun e he=>bG _ (bG _ (bG _ (he)))) _ (Od b o hb)),hx1.mono (Le.zb hmv),?_,N7,VB,⟨{F1 with vL:=aA8,vm:=v27,vd:=v175},([a7.blk b9 (.cells #[pt n] 31 (0,0)),a7.blk aop (.cells #[I s.au.length] 3 (0,0))]++(Zq++(JJ++L2))),⟨uj.fo.mono (fun e he=>bG _ (bG _ (bG _ (he)))),uj.us⟩,fun _ _ q=>q,rfl⟩,Hp.us3 (A:=[_,_,_,_,_,_,_,_,_,_,_,_]) WE⟩)
 .show x1.p.sh=p.sh;rw[hxp];exact hps
 .show x1.low=_;rw[Px,hxp];exact aJ (fun q=>iu q eY) hps
 exact⟨_,_,rfl,aF,aF⟩
theorem Kh(k:Int)(v:Value)(l:List dz)(t:iw)(w:World)(hb:w.heap[n]?=some (.cells #[wr,vL,vt,vv,vy,vu,vq,I sn,vW,vU,vT,I cn,B sk,U wy,vd,vm] 111 (0,0)))(hL:Sl w vL 13 au.length (au.flatMap WT))(ht:Sl w vt 1 aX.length (aX.map I))(hc:Sl w v 10 l.length (l.flatMap j6))(hls:∀x∈au,ld (Kw w) x.p)(hT:oG w):Calls Tryz.prog 56 #[pt n,I k,v,.agg (jq t).toArray] w (Pure (B (vY au aX k l t)) w):=by
 have hm3:=hc.small
 unfold maxLen at hm3
 refine eH func56 rfl rfl fun hH=>SR<|gV hH (v:= .agg _) rfl<|fun b3 w1 aZ=>va (v:=B false) rfl<|aa<|ag<|SR<|mI rfl<|V (aM O O)<|mB rfl<|bM 14 O (fun h5=> ?_) (fun h5=> ?_)
 .refine aE (v:=B true) rfl<|mB rfl<|bZ O rfl<|aE (v:=B true) rfl<|aa<|cC rfl<|SR<|va (v:=B false) rfl<|aa<|ai<|oB O ?_ aZ
  exact(M3 J).symm
 refine mI rfl<|aE (v:=Pn _ _) rfl<|V (af O)<|V (fA cw 1 O tB O)<|V (aC oF O O (aZ.eE hb O))<|V (aA (hL.hp aZ) O oF O)<|V (dD O O)<|mB rfl<|mB rfl<|bM 23 O (fun h7=> ?_) (fun h7=> ?_)
 .refine aE (v:=B true) rfl<|aa<|cC rfl<|SR<|va (v:=B false) rfl<|aa<|ai<|oB O ?_ aZ
  exact(M3 J).symm
 refine V (run_move bC) ?_
 refine aG O aZ (GZ _ _ _ (hc.hp aZ)) (an call103 O)<|fun w8 iJ=>V (bO O)<|mB rfl<|aa<|bW O (fun h12=> ?_) (fun h12=> ?_)
 .refine SR<|va (v:=B false) rfl<|aa<|ai<|oB O ?_ iJ
  exact(aiv (nt ‹(!gq _)=true›)).symm
 refine ak<|SR<|aE (v:=Pn _ _) rfl<|V (af O)<|V (fA cw 1 O tB O)<|V (aC oF O O (iJ.eE hb O))<|mI rfl<|V (ah (hL.hp iJ) oF sizeOf119 O O J)<|V (fA BK 0 O yZ O)<|V (n4 (dv:=o3) (off:=0) (cs:=zv _) qQ (hL.hp iJ) dL O O O J (agQ O))<|nu iJ (aW Tryz.zeroValue56)<|fun b15 Bw cg=>have Au:0<=k/\k<au.length:=J;bt cg (i:=0) O (dF O O O (aiu (hls _ (dh Au.1 Au.2))) (cg.blk (i:=0) O) O)<|fun J5 dS=>aa<|ag<|SR<| ?_
 refine V (run_move bC) ?_
 refine V (aA (hc.hp dS) O gI O)<|aE (v:=I 0) rfl<|aa<|ay<|bk (G:=Int) (fun q s' w'=>(Fr (8::(11::(rg 38 28 []))) _ s')/\(Hp w w' _)/\(s' 38=I q)/\(0<=q)/\(q<=l.length)/\(∀j:Int,0<=j->j<q->Fl au aX k (l.getD j.toNat cB)=true)) (fun q=>(l.length-q).toNat) (0) ⟨Fr.refl _ _,dS,rfl,J,J,fun j a b=>absurd b J⟩<| ?_
 rintro q asV Ou ⟨xE,dQ,Jf,h0,hq,hg⟩
 obtain⟨aqE,abR,akD,akE,auR,auS⟩:=xE.w6 0 1 7 9 36 37
 refine SR<|V (aM Jf auS)<|aa<|ag<|aD O (fun KP=> ?_) (fun KP=> ?_)
 .refine ak<|ag<|ay<|SR<|V (ah (hc.hp dQ) gI nR auR Jf J)<|V (eF (dv:=cB) gj (hc.hp dQ) eD O O O J)<|nu dQ (aW CB)<|fun b23 Qu dm=>bt dm (i:=0) O (dF (c':=(j6 _).toArray) O O O (yd _) (dm.blk (i:=0) O) O)<|fun V6 dK=>aa<|SR<|V (fA eD 0 O a8 O)<|lI bf dK 0 O O rfl<|V (bN O O)<|mB rfl<|bM 45 O (fun rp=> ?_) (fun rp=> ?_)
  .refine aE aqE<|V (fA eD 1 O a8 O)<|lI bf dK 0 O O rfl<|aE abR<|aG O dK (Et _ _ _ (dK.ext hb) (ht.hp dK)) (bB call104 O O O)<|fun w30 mo=>V (uO O)<|mB rfl<|mB rfl<|bM 53 O (fun DP=> ?_) (fun DP=> ?_)
   .refine eV O O rfl<|eV O O rfl<|eV O O rfl<|eV O O rfl<|eV O O rfl<|uQ<|aE (v:=B true) rfl<|aa<|cC rfl<|SR<|va (v:=B false) rfl<|aa<|ai<|oB O ?_ mo
    exact(VC h0 ‹q<_› (aiw ‹(List.getD l _ _).op=1› nU)).symm
   refine V (fA eD 0 O a8 O)<|lI bf mo 0 O O rfl<|V (bN O O)<|mB rfl<|bM 57 O (fun h37=> ?_) (fun h37=> ?_)
   .refine V (cM (cs:=[B _,_]) dL O O akE (bp (mo.blk (i:=1) O)))<|V (fA eD 2 O iq O)<|V (r5 cH O O O (mo.blk (i:=0) O) (Gh _))<|aG O mo (Ac _ _ _ ((hls _ (dh Au.1 Au.2)).mono mo.kw) (hT.hp mo)) (aN call105 O O)<|fun w38 m5=>V (bO O)<|mB rfl<|mB rfl<|aa<|bW O (fun h42=> ?_) (fun h42=> ?_)
    .refine SR<|va (v:=B false) rfl<|aa<|ai<|oB O ?_ m5
     exact(M3 J).symm
    refine ak<|aq<|V (ax Jf O J)<|mI rfl<|aa<| ?_
    refine⟨q+1,aT,xE.u4.u4.u4.u4.u4.u4.u4.u1,(m5.sub (sQ sR)),(aJ I aO),J,J,?_⟩
    exact fun j a b=>if e:j=q then e▸Cx afy (by exact .inr (nf ‹(!cF _ _)=false›))else hg j a J
   refine aE (v:=B false) rfl<|mB rfl<|aa<|cL rfl<|ak<|aq<|V (ax Jf O J)<|mI rfl<|aa<| ?_
   refine⟨q+1,aT,xE.u4.u4.u4.u4.u4.u4.u4.u1,(mo.sub (sQ sR)),(aJ I aO),J,J,?_⟩
   exact fun j a b=>if e:j=q then e▸Cx afy (by exact .inl ‹¬(List.getD l _ _).op=2›)else hg j a J
  refine aE (v:=B false) rfl<|mB rfl<|bZ O rfl<|V (fA eD 0 O a8 O)<|lI bf dK 0 O O rfl<|V (bN O O)<|mB rfl<|bM 57 O (fun h44=> ?_) (fun h44=> ?_)
  .refine V (cM (cs:=[B _,_]) dL O O akE (bp (dK.blk (i:=1) O)))<|V (fA eD 2 O iq O)<|V (r5 cH O O O (dK.blk (i:=0) O) (Gh _))<|aG O dK (Ac _ _ _ ((hls _ (dh Au.1 Au.2)).mono dK.kw) (hT.hp dK)) (aN call105 O O)<|fun w45 sx=>V (bO O)<|mB rfl<|mB rfl<|aa<|bW O (fun h49=> ?_) (fun h49=> ?_)
   .refine SR<|va (v:=B false) rfl<|aa<|ai<|oB O ?_ sx
    exact(VC h0 ‹q<_› (aix ‹(List.getD l _ _).op=2› (nt ‹(!cF _ _)=true›))).symm
   refine ak<|aq<|V (ax Jf O J)<|mI rfl<|aa<| ?_
   refine⟨q+1,aT,xE.u4.u4.u4.u4.u4.u4.u4.u1,(sx.sub (sQ sR)),(aJ I aO),J,J,?_⟩
   exact fun j a b=>if e:j=q then e▸Cx afw (by exact .inr (nf ‹(!cF _ _)=false›))else hg j a J
  refine aE (v:=B false) rfl<|mB rfl<|aa<|cL rfl<|ak<|aq<|V (ax Jf O J)<|mI rfl<|aa<| ?_
  refine⟨q+1,aT,xE.u4.u4.u4.u4.u4.u4.u4.u1,(dK.sub (sQ sR)),(aJ I aO),J,J,?_⟩
  exact fun j a b=>if e:j=q then e▸Cx afw (by exact .inl ‹¬(List.getD l _ _).op=2›)else hg j a J
 refine aY (id:=0) rfl<|ag<|SR<|V (fA nO 0 O a8 akD)<|lI bf dQ 1 O O rfl<|V (aM O O)<|aa<|aD O (fun h51=> ?_) (fun h51=> ?_)
 .refine SR<|V (cM (cs:=[B _,_]) dL O O akE (bp (dQ.blk (i:=0) O)))<|V (fA nO 1 O iq akD)<|V (r5 cH O O O (dQ.blk (i:=1) O) (UF _))<|aG O dQ (Ac _ _ _ ((hls _ (dh Au.1 Au.2)).mono dQ.kw) (hT.hp dQ)) (aN call105 O O)<|fun w52 jU=>aB rfl<|aa<|ai<|oB O ?_ jU
  (rw[M4 Au (nf ‹(!gq _)=false›) ‹¬q<_› hg];((rw[anb ‹t.var<0›];rfl)))
 refine ak<|SR<|aE aqE<|V (fA nO 0 O a8 akD)<|lI bf dQ 1 O O rfl<|aE abR<|aG O dQ (Et _ _ _ (dQ.ext hb) (ht.hp dQ)) (bB call104 O O O)<|fun w55 oZ=>aB rfl<|aa<|ai<|oB O ?_ oZ
 (rw[M4 Au (nf ‹(!gq _)=false›) ‹¬q<_› hg];(rw[anc ‹¬t.var<0›]))
theorem Oi{s:NP}{R L0 Z:List a7}(l:Int)(hm:m<=90000)(hok:DL s)(hlg:lg.length<=550000000000)(htm:tm.length<=100000000)(w:World)(hZ:vJ n m s lg tm R L0 Z)(hH:Hp W0 w Z):Calls Tryz.prog 18 #[pt n,I l] w (jj fun u w'=>(¬(s.sk=false/\0<=l/\l<s.au.length)/\u=I (-1)/\∃Z',vJ n m s lg tm R L0 Z'/\Hp W0 w' Z')\/(s.sk=false/\(0<=l/\l<s.au.length)/\u=I s.aj.length/\∃(fv:Value) (L1 Z':List a7),(∀b o,a7.blk b o∈L0->a7.blk b o∈L1)/\mJ NX n L1 (fv,.var s.aj.length ((s.cs.length:Int)-1))/\iD [(fv,.var s.aj.length ((s.cs.length:Int)-1))] s (qn s l (s.au.getD l.toNat o3).low)/\vJ n (m+1) (qn s l (s.au.getD l.toNat o3).low) (lg++[(fv,.var s.aj.length ((s.cs.length:Int)-1))]) (tm++[(lg.length:Int)]) R L1 Z'/\Hp W0 w' Z')):=by
 have Qi:=hok.Qi
 have hlt:=hok.hlt
 have TG:=hok.TG
 have Oo:=hok.Oo
 have hgu:∀F:NF,pO F.us=s.us->F.us.length=s.us.length:=fun F e=>by rw[<-e,gd]
 refine enter func18 rfl ntmps18 rfl ?_
 obtain⟨F1,L2,uj,Od,rfl⟩:=hZ
 have bP:=hH
 simp only[NZ,nE]at bP
 have iT:=bP
 rw[<-dG]at iT
 refine SR<|gV iT (v:=Pn _ _) rfl<|fun b9 w7 eU=>va (v:=I 0) rfl<|aa<|ag<|SR<|lP dc eU 0 O O rfl<|aG O eU (oD _ (eU.blk (i:=1) O)) (an call40 O)<|fun GJ dJ=>V (bO O)<|mB rfl<|fO 10 O (fun KQ=> ?_) (fun KQ=> ?_)
 .refine aE (v:=B true) rfl<|mB rfl<|bZ O rfl<|aE (v:=B true) rfl<|aa<|cC rfl<|SR<|va (v:=I (-1)) rfl<|aa<|ai<|iY (v:=I (-1)) O O (.inl ⟨by simp_all;try omega,rfl,_,⟨F1,L2,uj,Od,rfl⟩,by rw[dG]at*;exact(dJ.sub (sQ sR))⟩)
 refine mI rfl<|V (aM O O)<|mB rfl<|mB rfl<|bM 14 O (fun wc=> ?_) (fun wc=> ?_)
 .refine aE (v:=B true) rfl<|aa<|cC rfl<|SR<|va (v:=I (-1)) rfl<|aa<|ai<|iY (v:=I (-1)) O O (.inl ⟨by simp_all;try omega,rfl,_,⟨F1,L2,uj,Od,rfl⟩,by rw[dG]at*;exact(dJ.sub (sQ sR))⟩)
 refine mI rfl<|lP dc dJ 0 O O rfl<|V (af O)<|V (fA cw 1 O tB O)<|lV oF dJ 1 O O rfl<|V (aA (dJ.sl (i:=5) O) O oF O)<|V (dD O O)<|mB rfl<|aa<|aD O (fun pS=> ?_) (fun pS=> ?_)
 .refine SR<|va (v:=I (-1)) rfl<|aa<|ai<|iY (v:=I (-1)) O O (.inl ⟨by simp_all;try omega,rfl,_,⟨F1,L2,uj,Od,rfl⟩,by rw[dG]at*;exact(dJ.sub (sQ sR))⟩)
 refine ak<|SR<|lP dc dJ 0 O O rfl<|bY O (pC J _ (dJ.pj [1,1,1,1,1,1,1,1,1,1,1,1])) (an call41 O)<| ?_
 rintro _ Qu ⟨rfl,v23,dm⟩
 simp only[nE]at dm
 have mK:=dm.pk [12]
 refine aa<|SR<|lP dc mK 0 O O rfl<|V (af O)<|V (fA cw 3 O mX O)<|lV dR mK 1 O O rfl<|V (aA (mK.sl (i:=7) O) O dR O)<|nu mK (aW Tryz.zeroValue3)<|fun b27 w25 kG=>bt kG (i:=0) O (bQ O O (v:=I _) O O O (kG.blk (i:=0) O) az)<|fun w30 mo=>aa<|ag<|fT (z:=⟨none,_,_,_,_,none⟩) aP O aP mo (sP (sP (sP (sP (sP (sP (sP (sQ sR))))))))<|fun w32 jT=>have N6:=jT.sub (sP (sP (sP (sP (sP (sP (sP (sQ sR))))))));tP 0 O N6 dc 1 O O rfl<|tP 1 O N6 dc 1 O O rfl<|AQ 2 O N6 (af O)<|AQ 3 O N6 (fA cw 2 O dB O)<|tV 4 O N6 bz 2 O O rfl<|AQ 5 O N6 (mV (I _) O)<|A1 6<|cK O aH O jT (sP (sP (sP (sP (sP (sP (sP (sQ sR)))))))) (f:=fun b=> .slice (some ⟨b,0,none⟩) 1 1) (cA bz O O (sz:=1) (vs:=[I _]) O O az az O O)<|fun b36 w34 tJ=> ?_
 (try simp only[o4]at tJ)
 refine A1 7<|Sy O aH O tJ (i:=8) O (fun _=>(sQ (sP (sP (sP (sP (sP (sP (sP (sQ sR)))))))))) (tJ.dV (i:=0) (n:=1) (sz:=1) O O az) O O bz O O (bytes:=8) O O O O J az<|fun v39 w40 iU=>AQ 8 O (iU.sub (sQ (sP (sP (sP (sP (sP (sP (sP (sQ sR)))))))))) (af O)<|AQ 9 O (iU.sub (sQ (sP (sP (sP (sP (sP (sP (sP (sQ sR)))))))))) (fA cw 2 O dB O)<|AD<|bt iU (i:=3) O (bQ O O (v:=v39) O (bj (iU.get (i:=8) O)).1 (bj (iU.get (i:=8) O)).2 (iU.blk (i:=3) O) aF)<|fun w42 kZ=> ?_
 simp only[iM,kL,m7,ia,Nat.reduceAdd]at kZ
 refine aa<|ag<|fT (z:=⟨none,_,_,_,_,none⟩) aP O aP kZ (sP (sP (sP (sP (sP (sP (sP (sP (sP (sQ sR))))))))))<|fun w44 nn=>have Jg:=nn.sub (sP (sP (sP (sP (sP (sP (sP (sP (sP (sQ sR))))))))));tP 0 O Jg dc 2 O O rfl<|tP 1 O Jg dc 2 O O rfl<|AQ 2 O Jg (af O)<|AQ 3 O Jg (fA cw 3 O mX O)<|tV 4 O Jg dR 3 O O rfl<|tP 5 O Jg dc 2 O O rfl<|AQ 6 O Jg (af O)<|AQ 7 O Jg (fA cw 1 O tB O)<|tV 8 O Jg oF 3 O O rfl<|AQ 9 O Jg (mV (I _) O)<|AT 10 O Jg (fun w hS=>ah (hS.sl (i:=7) O) oF sizeOf119 O O J)<|AQ 11 O Jg (fA BK 5 O iq O)<|AT 12 O Jg (fun w hS=>adt (dv:=o3) (off:=5) qQ (hS.sl (i:=7) O) cH O O O J (asv _))<|A1 13<|cK O aH O nn (sP (sP (sP (sP (sP (sP (sP (sP (sP (sQ sR)))))))))) (f:=fun b=> .slice (some ⟨b,0,none⟩) 1 1) (rY dR O O O O)<|fun b48 w46 oC=> ?_
 (try simp only[o4]at oC)
 refine A1 14<|Sz (a:=(s.au.getD l.toNat o3).low) O aH fK az O oC (i:=10) O (fun _=>(sQ (sP (sP (sP (sP (sP (sP (sP (sP (sP (sQ sR)))))))))))) (Hp.oQ fK oC (i:=0) (l:=[_]) O kU) O O dR O O (bytes:=64) O O O (fun u hu=>wH _ u qy) J az<|fun v51 w52 jU=>AQ 15 O (jU.sub (sQ (sP (sP (sP (sP (sP (sP (sP (sP (sP (sQ sR)))))))))))) (af O)<|AQ 16 O (jU.sub (sQ (sP (sP (sP (sP (sP (sP (sP (sP (sP (sQ sR)))))))))))) (fA cw 3 O mX O)<|AD<|bt jU (i:=4) O (bQ O O (v:=v51) O (bj (jU.get (i:=10) O)).1 (bj (jU.get (i:=10) O)).2 (jU.blk (i:=4) O) aF)<|fun w54 jg=> ?_
 simp only[iM,kL,m7,ia,Nat.reduceAdd]at jg
 refine aa<|ag<|fT (z:=⟨none,_,_,_,_,none⟩) aP O aP jg (sP (sP (sP (sP (sP (sP (sP (sP (sP (sP (sP (sQ sR))))))))))))<|fun w56 aao=>have akF:=aao.sub (sP (sP (sP (sP (sP (sP (sP (sP (sP (sP (sP (sQ sR))))))))))));tP 0 O akF dc 3 O O rfl<|tP 1 O akF dc 3 O O rfl<|AQ 2 O akF (af O)<|AQ 3 O akF (fA cw 4 O jh O)<|tV 4 O akF c8 4 O O rfl<|A1 5<|cK O aH O aao (sP (sP (sP (sP (sP (sP (sP (sP (sP (sP (sP (sQ sR)))))))))))) (f:=fun b=> .slice (some ⟨b,0,none⟩) 1 1) (cA c8 O O (sz:=1) (vs:=[U 0#64]) O O az az O O)<|fun b60 w58 Bm=> ?_
 (try simp only[o4]at Bm)
 refine A1 6<|Sy O aH O Bm (i:=12) O (fun _=>(sQ (sP (sP (sP (sP (sP (sP (sP (sP (sP (sP (sP (sQ sR)))))))))))))) (Bm.dV (i:=0) (n:=1) (sz:=1) O O az) O O c8 O O (bytes:=8) O O O O J az<|fun v63 w64 Bl=>AQ 7 O (Bl.sub (sQ (sP (sP (sP (sP (sP (sP (sP (sP (sP (sP (sP (sQ sR)))))))))))))) (af O)<|AQ 8 O (Bl.sub (sQ (sP (sP (sP (sP (sP (sP (sP (sP (sP (sP (sP (sQ sR)))))))))))))) (fA cw 4 O jh O)<|AD<|bt Bl (i:=5) O (bQ O O (v:=v63) O (bj (Bl.get (i:=12) O)).1 (bj (Bl.get (i:=12) O)).2 (Bl.blk (i:=5) O) aF)<|fun w66 aeA=> ?_
 simp only[iM,kL,m7,ia,Nat.reduceAdd]at aeA
 refine aa<|ag<|fT (z:=⟨none,_,_,_,_,none⟩) aP O aP aeA (sP (sP (sP (sP (sP (sP (sP (sP (sP (sP (sP (sP (sP (sQ sR))))))))))))))<|fun w68 OX=>have akG:=OX.sub (sP (sP (sP (sP (sP (sP (sP (sP (sP (sP (sP (sP (sP (sQ sR))))))))))))));tP 0 O akG dc 4 O O rfl<|tP 1 O akG dc 4 O O rfl<|AQ 2 O akG (af O)<|AQ 3 O akG (fA cw 5 O yY O)<|tV 4 O akG o5 5 O O rfl<|A1 5<|cK O aH O OX (sP (sP (sP (sP (sP (sP (sP (sP (sP (sP (sP (sP (sP (sQ sR)))))))))))))) (f:=fun b=> .slice (some ⟨b,0,none⟩) 1 1) (cA o5 O O (sz:=1) (vs:=[.slice none 0 0]) O O az az O O)<|fun b72 w70 ajL=> ?_
 (try simp only[o4]at ajL)
 refine A1 6<|Sy (a:=cY) O aH O ajL (i:=14) O (fun _=>(sQ (sP (sP (sP (sP (sP (sP (sP (sP (sP (sP (sP (sP (sP (sQ sR)))))))))))))))) (ajL.dV (i:=0) (n:=1) (sz:=1) O O az) O O o5 O O (bytes:=24) O O O O (by have:=hgu _ ‹azd _ _ _ _ _›.us;omega) az<|fun v75 w76 Tt=>AQ 7 O (Tt.sub (sQ (sP (sP (sP (sP (sP (sP (sP (sP (sP (sP (sP (sP (sP (sQ sR)))))))))))))))) (af O)<|AQ 8 O (Tt.sub (sQ (sP (sP (sP (sP (sP (sP (sP (sP (sP (sP (sP (sP (sP (sQ sR)))))))))))))))) (fA cw 5 O yY O)<|AD<|bt Tt (i:=6) O (bQ O O (v:=v75) O (bj (Tt.get (i:=14) O)).1 (bj (Tt.get (i:=14) O)).2 (Tt.blk (i:=6) O) aF)<|fun w78 O2=> ?_
 simp only[iM,kL,m7,ia,Nat.reduceAdd]at O2
 refine aa<|SR<|lP dc O2 5 O O rfl<|V (af O)<|V (fA cw 8 O oL O)<|aG O O2 (akd uj.fo J (O2.blk (i:=6) O) (O2.ye (i:=7) O uj.fo.hW) (O2.sl (i:=9) O)) (an call46 O)<|fun w80 aoq=>nu aoq (aW Tryz.zeroValue3)<|fun b84 w82 akH=>bt akH (i:=0) O (bQ O O (v:=I _) O O O (akH.blk (i:=0) O) az)<|fun w87 Fx=>aa<|SR<|lP dc Fx 6 O O rfl<|V (af O)<|V (fA cw 8 O oL O)<|bY O (azc uj.fo J (R:=([_,_,_,_,_,_,_,_,_,_,_,_,_,_,_]++(F1.us.map (dI 3)++R))) (Fx.pj [7,7,7,7])) (an call47 O)<| ?_
 rintro _ aAq ⟨rfl,aHy,aHz,aHA,aHB,aHC,W96,aHD,aHE,aHF,aka,auT,Ob⟩
 have QL:=Hp.mh (A:=[_,_,_,_]) (R:=([_,_,_,_,_,_,_,_,_,_,_,_,_,_,_]++(F1.us.map (dI 3)++R))) Ob
 simp only[gf,eC]at QL
 have vH:=QL.pk [4,4,4,4,4,4,4]
 refine aa<|SR<|lP dc vH 6 O O rfl<| ?_
 refine V (LF bC bC bC) ?_
 refine bY O (iA _ _ (.var s.aj.length ((s.cs.length:Int)-1)) J _ (vH.pj [7,7,7,7,7,7,7,7,7,7,7,7])) (aN y9 O O) ?_
 rintro _ ayZ ⟨rfl,aHG,G1⟩
 simp only[nE]at G1
 have CY:=G1.pk [12,12,12,12,12,12,12]
 refine aa<|SR<|lI bf CY 5 O O rfl<|aI rfl<|aa<|ai<|have WG:=(((CY.sub (sP (sQ (sQ (sQ (sQ sR)))))).pj [3,3,3,3,3,3,3,3,3,3,3,3,2,1])).fx 3 1;have Ep:=Hp.aEb (A:=[_,_,_,_,_,_,_,_,_,_,_,_]) (B:=[a7.blk b9 (.cells #[pt n] 31 (0,0)),a7.blk b27 (.cells #[I s.aj.length] 3 (0,0)),a7.blk b84 (.cells #[I ((s.cs.length:Int)-1)] 3 (0,0))]) (U:=(F1.us.map (dI 3))) (R:=R) WG;iY (v:=I s.aj.length) O O (.inr ⟨jY,J,rfl,(iH 48 #[pt b9,pt b27,pt b84]),([a7.blk b9 (.cells #[pt n] 31 (0,0)),a7.blk b27 (.cells #[I s.aj.length] 3 (0,0)),a7.blk b84 (.cells #[I ((s.cs.length:Int)-1)] 3 (0,0))]++(aka++L2)),_,(fun b o hb=>bG _ (bG _ (Od b o hb))),⟨_,_,_,rfl,aF,aF,aF⟩,aiz hok.hlt hok.TG hok.Oo uj.fo.ne,⟨{F1 with vW:=aHy,vU:=aHz,vT:=aHA,cW:=aHB,cU:=aHC,W:=W96,ul:=aHD,ts:=aHE,cn:=aHF,vt:=v39,vv:=v51,vy:=v63,vu:=v75,vd:=aHG,vm:=v23,us:=F1.us++[cY]},([a7.blk b9 (.cells #[pt n] 31 (0,0)),a7.blk b27 (.cells #[I s.aj.length] 3 (0,0)),a7.blk b84 (.cells #[I ((s.cs.length:Int)-1)] 3 (0,0))]++(aka++L2)),⟨auT.mono fun e he=>bG _ he,aiA uj.us⟩,fun _ _ q=>q,rfl⟩,?_⟩)
 simp only[NZ,nE,qn,gz,lB,BM];exact Ep
theorem wW(v:Value)(l:List dz)(hl:l.length<=1000)(w:World)(hs:Sl w v 10 l.length (l.flatMap j6)):Calls Tryz.prog 57 #[v] w (qB 3 1 (bS l).length ((bS l).map I) w):=by
 have hm:=hs.small
 unfold maxLen at hm
 refine eH func57 rfl rfl fun hH=>SR<|va (v:= .slice none 0 0) rfl<|aa<|SR<|va (v:= .slice none 0 0) rfl<|have iI:=hH.fx 3 1;aa<|ag<|SR<| ?_
 refine V (run_move bC) ?_
 refine V (aA (hs.hp iI) O gI O)<|aE (v:=I 0) rfl<|aa<|ay<|bk (G:=Int×(List Int)×Value) (fun⟨k,m,v3⟩ s' w'=>(Fr (3::(5::6::(rg 9 57 []))) _ s')/\(Hp w w' (.row v3 3 1 (m.length) (m.map I)::_))/\(s' 3=v3)/\(s' 9=I k)/\(0<=k)/\(k<=l.length)/\(m=bS (l.take k.toNat))/\((m.length:Int)<=k)) (fun⟨k,m,v3⟩=>(l.length-k).toNat) ((0,[],(.slice none 0 0:Value))) ⟨Fr.refl _ _,iI,rfl,rfl,J,J,rfl,aF⟩<| ?_
 rintro⟨k,m,v3⟩ sg2 w2 ⟨PD,aZ,J0,akI,h0,hk,hm,hml⟩
 obtain⟨aQj,aHH,aHI⟩:=PD.w3 2 7 8
 refine SR<|V (aM akI aHI)<|aa<|ag<|aD O (fun h4=> ?_) (fun h4=> ?_)
 .refine ak<|ag<|ay<|SR<|V (ah (hs.hp aZ) gI nR aHH akI J)<|V (eF (dv:=cB) gj (hs.hp aZ) eD O O O J)<|nu aZ (aW CB)<|fun b7 w5 iT=>bt iT (i:=0) O (dF (c':=(j6 _).toArray) O O O (yd _) (iT.blk (i:=0) O) O)<|fun w8 iJ=>aa<|ag<|SR<|V (fA eD 0 O a8 O)<|lI bf iJ 0 O O rfl<|V (ke O O)<|mB rfl<|bM 16 O (fun h11=> ?_) (fun h11=> ?_)
  .refine aE (v:=B true) rfl<|aa<|cC rfl<|aY (id:=1) rfl<|aq<|V (ax akI O J)<|mI rfl<|aa<| ?_
   refine⟨(k+1,m,v3),aT,PD.u4.u4.u4.u1.u1,(Hp.conv (iJ.sub (sQ sR)) aO),J0,(aJ I aO),J,J,?_,J⟩
   rw[jy h0 ‹k<_›,<-hm];((rw[aR J];done))
  refine V (fA eD 1 O a8 O)<|lI bf iJ 0 O O rfl<|V (aM O O)<|mB rfl<|aa<|aD O (fun OK=> ?_) (fun OK=> ?_)
  .refine aY (id:=1) rfl<|aq<|V (ax akI O J)<|mI rfl<|aa<| ?_
   refine⟨(k+1,m,v3),aT,PD.u4.u4.u4.u1.u1,(Hp.conv (iJ.sub (sQ sR)) aO),J0,(aJ I aO),J,J,?_,J⟩
   rw[jy h0 ‹k<_›,<-hm];((rw[aR J];done))
  refine ak<|SR<|va (v:=I 0) rfl<|aa<|ag<|ay<|bk (G:=Int) (fun i s' w'=>(Fr (6::(rg 21 15 [])) _ s')/\(Hp w w' _)/\(s' 6=I i)/\(0<=i)/\(i<=m.length)/\(∀j:Nat,j<i.toNat->m.getD j 0<(l.getD k.toNat cB).n)) (fun i=>(m.length-i).toNat) (0) ⟨Fr.refl _ _,iJ,rfl,J,J,fun j h=>absurd h J⟩<| ?_
  rintro i VU Np ⟨kq,cg,kB,i0,hi,hlt⟩
  have qe:=kq.w1 5
  obtain⟨jt,AR⟩:=kq.t2 3 J0 9 akI
  refine ag<|ag<|ed aP cg<|fun SY cI=>have s7:=cI;AQ 0 O s7 (run_move kB)<|AQ 1 O s7 (run_move jt)<|AT 2 O s7 (fun w hS=>aA (hS.sl (i:=1) O) O bz O)<|AQ 3 O s7 (aM O O)<|AQ 4 O s7 (mV (B _) O)<|B5 (dj:=25) O (fun pS=> ?_) (fun pS=> ?_)
  .refine BQ 5 O O (bT pS) cI (run_move jt)<|BQ 6 O O (bT pS) cI (run_move kB)<|AG 7 O O (bT pS) cI (fun w hS=>ah (hS.sl (i:=1) O) bz a8 O O J)<|AG 8 O O (bT pS) cI (fun w hS=>aC bf O O ((hS.sl (i:=1) O).cell _ _ (eG J)))<|BQ 9 O O (bT pS) cI (fA eD 1 O a8 qe)<|AG 10 O O (bT pS) cI (fun w hS=>aC bf O O (hS.cell (i:=0) O (v:=I _) O))<|BQ 11 O O (bT pS) cI (aM O O)<|AQ 12 O s7 (fZ (bT pS) (v:=B _) O)<|AD<|aD O (fun KP=> ?_) (fun KP=> ?_)
   .refine ak<|ay<|aq<|aE kB<|V (ax O O J)<|aI rfl<|aa<| ?_
    refine⟨i+1,aT,kq.u4.u4.u4.u4,cI,(aJ I aO),J,J,?_⟩
    exact fun j hj=>if e:j=i.toNat then e▸‹_<_›else hlt j J
   refine aY (id:=2) rfl<|ag<|ag<|ed aP cI<|fun Qu dm=>have aap:=dm;AQ 0 O aap (run_move kB)<|AQ 1 O aap (run_move jt)<|AT 2 O aap (fun w hS=>aA (hS.sl (i:=1) O) O bz O)<|AQ 3 O aap (aM O O)<|AQ 4 O aap (mV (B _) O)<|B5 (dj:=40) O (fun AM=> ?_) (fun AM=> ?_)
   .refine BQ 5 O O (bT AM) dm (run_move jt)<|BQ 6 O O (bT AM) dm (run_move kB)<|AG 7 O O (bT AM) dm (fun w hS=>ah (hS.sl (i:=1) O) bz a8 O O J)<|AG 8 O O (bT AM) dm (fun w hS=>aC bf O O ((hS.sl (i:=1) O).cell _ _ (eG J)))<|BQ 9 O O (bT AM) dm (fA eD 1 O a8 qe)<|AG 10 O O (bT AM) dm (fun w hS=>aC bf O O (hS.cell (i:=0) O (v:=I _) O))<|BQ 11 O O (bT AM) dm (bN O O)<|AQ 12 O aap (fZ (bT AM) (v:=B _) O)<|AD<|aD O (fun VY=> ?_) (fun VY=> ?_)
    .refine aY (id:=1) rfl<|aq<|V (ax AR O J)<|mI rfl<|aa<| ?_
     refine⟨(k+1,m,v3),aT,(((PD.u4.u4.u4.u1).t kq O)).u4.u4.u4.u4.u4.u4.u4,(Hp.conv (dm.sub (sQ sR)) aO),jt,(aJ I aO),J,J,?_,J⟩
     rw[jy h0 ‹k<_›,<-hm];((rw[aS ⟨J,J⟩];exact(aib (i:=i.toNat) J hlt J).symm))
    refine ak<|SR<|aE jt<|xP 1 1 dm (cA bz O O (sz:=1) (vs:=[I 0]) O O az az O O)<|fun b29 w27 gk=> ?_
    (try simp only[o4]at gk)
    refine jI O gk (i:=2) O (gk.dV (i:=0) (n:=1) (sz:=1) O O az) O O bz O O (size:=1) (bytes:=8) O O O az iF J gC<|fun v30 w31 fJ=> ?_
    refine V (run_assign bC) ?_
    refine aa<|ag<|gK aP fJ (sP (sP (sQ sR)))<|fun w33 ni=>have akJ:=ni.sub (sP (sP (sQ sR)));?_
    refine AQ 0 O akJ (run_move bC) ?_
    refine AQ 1 O akJ (run_move kB)<|AQ 2 O akJ (ax O O J)<| ?_
    refine AQ 4 O akJ (run_move bC) ?_
    refine AQ 5 O akJ (run_move kB)<|gD 3 6 aP ?_ ?_
    .refine cr O aH O ni (sP (sP (sQ sR))) (gh (ni.sl (i:=2) O) bz a8 O O J)<|A1 6<|cr O aH O ni (sP (sP (sQ sR))) (gh (ni.sl (i:=2) O) bz a8 O O J)<|A1 7<|Ch O aH O (p9 (c:=m.length-i.toNat) (o:=(i+1).toNat) ni (i:=2) O J bz O O O (Sl.fr (ni.sl (i:=2) O) i.toNat J) BX J (fun u hu=>s0 (rI hu))) (fun w' h=>h.sub (sP (sP (sQ sR))))<|fun w41 yx=>AD<|aq<| ?_
     refine V (run_move bC) ?_
     refine aE kB<|V (fA eD 1 O a8 qe)<|lI bf yx 1 O O rfl<|V (ah (yx.sl (i:=2) O) bz a8 O O J)<|zE yx (i:=2) O J O (u:=I _) O O O O J<|fun w43 vC=>aa<|aq<|V (ax AR O J)<|mI rfl<|aa<| ?_
     refine⟨(k+1,(m.take i.toNat++(l.getD k.toNat cB).n::m.drop i.toNat),v30),aT,(((PD.u4.u4.u4.u1).t kq O)).u4.u4.u4.u4.u4.u4.u4.u4.u4.u4.u4.u1,(Hp.conv (vC.sub (sQ (sQ sR))) BU),rfl,(aJ I aO),J,J,?_,Lu⟩
     rw[jy h0 ‹k<_›,<-hm];((rw[aS ⟨J,J⟩];exact(zQ (i:=i.toNat) J hlt (fun _=>J)).symm))
    refine cr O aH O ni (sP (sP (sQ sR))) (gh (ni.sl (i:=2) O) bz a8 O O J)<|A1 3<|cr O aH O ni (sP (sP (sQ sR))) (gh (ni.sl (i:=2) O) bz a8 O O J)<|A1 7<|Ch O aH O (p9 (c:=m.length-i.toNat) (o:=(i+1).toNat) ni (i:=2) O J bz O O O (Sl.fr (ni.sl (i:=2) O) i.toNat J) BX J (fun u hu=>s0 (rI hu))) (fun w' h=>h.sub (sP (sP (sQ sR))))<|fun w51 ako=>AD<|aq<| ?_
    refine V (run_move bC) ?_
    refine aE kB<|V (fA eD 1 O a8 qe)<|lI bf ako 1 O O rfl<|V (ah (ako.sl (i:=2) O) bz a8 O O J)<|zE ako (i:=2) O J O (u:=I _) O O O O J<|fun w53 gH=>aa<|aq<|V (ax AR O J)<|mI rfl<|aa<| ?_
    refine⟨(k+1,(m.take i.toNat++(l.getD k.toNat cB).n::m.drop i.toNat),v30),aT,(((PD.u4.u4.u4.u1).t kq O)).u4.u4.u4.u4.u4.u4.u4.u4.u4.u4.u4.u1,(Hp.conv (gH.sub (sQ (sQ sR))) BU),rfl,(aJ I aO),J,J,?_,Lu⟩
    rw[jy h0 ‹k<_›,<-hm];((rw[aS ⟨J,J⟩];exact(zQ (i:=i.toNat) J hlt (fun _=>J)).symm))
   refine AK 5 O O (bF AM) dm<|AK 6 O O (bF AM) dm<|AK 7 O O (bF AM) dm<|AK 8 O O (bF AM) dm<|AK 9 O O (bF AM) dm<|AK 10 O O (bF AM) dm<|AK 11 O O (bF AM) dm<|AQ 12 O aap (dM (bF AM) (v:=B false) O)<|AD<|cL rfl<|ak<|SR<|aE jt<|xP 1 1 dm (cA bz O O (sz:=1) (vs:=[I 0]) O O az az O O)<|fun b57 w55 oZ=> ?_
   (try simp only[o4]at oZ)
   refine jI O oZ (i:=2) O (oZ.dV (i:=0) (n:=1) (sz:=1) O O az) O O bz O O (size:=1) (bytes:=8) O O O az iF J gC<|fun v58 w59 G4=> ?_
   refine V (run_assign bC) ?_
   refine aa<|ag<|gK aP G4 (sP (sP (sQ sR)))<|fun w61 tL=>have akK:=tL.sub (sP (sP (sQ sR)));?_
   refine AQ 0 O akK (run_move bC) ?_
   refine AQ 1 O akK (run_move kB)<|AQ 2 O akK (ax O O J)<| ?_
   refine AQ 4 O akK (run_move bC) ?_
   refine AQ 5 O akK (run_move kB)<|gD 3 6 aP ?_ ?_
   .refine cr O aH O tL (sP (sP (sQ sR))) (gh (tL.sl (i:=2) O) bz a8 O O J)<|A1 6<|cr O aH O tL (sP (sP (sQ sR))) (gh (tL.sl (i:=2) O) bz a8 O O J)<|A1 7<|Ch O aH O (p9 (c:=m.length-i.toNat) (o:=(i+1).toNat) tL (i:=2) O J bz O O O (Sl.fr (tL.sl (i:=2) O) i.toNat J) BX J (fun u hu=>s0 (rI hu))) (fun w' h=>h.sub (sP (sP (sQ sR))))<|fun w69 vE=>AD<|aq<| ?_
    refine V (run_move bC) ?_
    refine aE kB<|V (fA eD 1 O a8 qe)<|lI bf vE 1 O O rfl<|V (ah (vE.sl (i:=2) O) bz a8 O O J)<|zE vE (i:=2) O J O (u:=I _) O O O O J<|fun w71 ajN=>aa<|aq<|V (ax AR O J)<|mI rfl<|aa<| ?_
    refine⟨(k+1,(m.take i.toNat++(l.getD k.toNat cB).n::m.drop i.toNat),v58),aT,(((PD.u4.u4.u4.u1).t kq O)).u4.u4.u4.u4.u4.u4.u4.u4.u4.u4.u4.u1,(Hp.conv (ajN.sub (sQ (sQ sR))) BU),rfl,(aJ I aO),J,J,?_,J⟩
    rw[jy h0 ‹k<_›,<-hm];((rw[aS ⟨J,J⟩];exact(zQ (i:=i.toNat) J hlt (fun _=>J)).symm))
   refine cr O aH O tL (sP (sP (sQ sR))) (gh (tL.sl (i:=2) O) bz a8 O O J)<|A1 3<|cr O aH O tL (sP (sP (sQ sR))) (gh (tL.sl (i:=2) O) bz a8 O O J)<|A1 7<|Ch O aH O (p9 (c:=m.length-i.toNat) (o:=(i+1).toNat) tL (i:=2) O J bz O O O (Sl.fr (tL.sl (i:=2) O) i.toNat J) BX J (fun u hu=>s0 (rI hu))) (fun w' h=>h.sub (sP (sP (sQ sR))))<|fun w79 tK=>AD<|aq<| ?_
   refine V (run_move bC) ?_
   refine aE kB<|V (fA eD 1 O a8 qe)<|lI bf tK 1 O O rfl<|V (ah (tK.sl (i:=2) O) bz a8 O O J)<|zE tK (i:=2) O J O (u:=I _) O O O O J<|fun w81 tM=>aa<|aq<|V (ax AR O J)<|mI rfl<|aa<| ?_
   refine⟨(k+1,(m.take i.toNat++(l.getD k.toNat cB).n::m.drop i.toNat),v58),aT,(((PD.u4.u4.u4.u1).t kq O)).u4.u4.u4.u4.u4.u4.u4.u4.u4.u4.u4.u1,(Hp.conv (tM.sub (sQ (sQ sR))) BU),rfl,(aJ I aO),J,J,?_,J⟩
   rw[jy h0 ‹k<_›,<-hm];((rw[aS ⟨J,J⟩];exact(zQ (i:=i.toNat) J hlt (fun _=>J)).symm))
  refine AK 5 O O (bF pS) cI<|AK 6 O O (bF pS) cI<|AK 7 O O (bF pS) cI<|AK 8 O O (bF pS) cI<|AK 9 O O (bF pS) cI<|AK 10 O O (bF pS) cI<|AK 11 O O (bF pS) cI<|AQ 12 O s7 (dM (bF pS) (v:=B false) O)<|AD<|cL rfl<|aY (id:=2) rfl<|ag<|ag<|ed aP cI<|fun w83 nr=>have ru:=nr;AQ 0 O ru (run_move kB)<|AQ 1 O ru (run_move jt)<|AT 2 O ru (fun w hS=>aA (hS.sl (i:=1) O) O bz O)<|AQ 3 O ru (aM O O)<|AQ 4 O ru (mV (B _) O)<|B5 (dj:=40) O (fun WH=> ?_) (fun WH=> ?_)
  .refine BQ 5 O O (bT WH) nr (run_move jt)<|BQ 6 O O (bT WH) nr (run_move kB)<|AG 7 O O (bT WH) nr (fun w hS=>ah (hS.sl (i:=1) O) bz a8 O O J)<|AG 8 O O (bT WH) nr (fun w hS=>aC bf O O ((hS.sl (i:=1) O).cell _ _ (eG J)))<|BQ 9 O O (bT WH) nr (fA eD 1 O a8 qe)<|AG 10 O O (bT WH) nr (fun w hS=>aC bf O O (hS.cell (i:=0) O (v:=I _) O))<|BQ 11 O O (bT WH) nr (bN O O)<|AQ 12 O ru (fZ (bT WH) (v:=B _) O)<|AD<|aD O (fun h88=> ?_) (fun h88=> ?_)
   .refine aY (id:=1) rfl<|aq<|V (ax AR O J)<|mI rfl<|aa<| ?_
    refine⟨(k+1,m,v3),aT,(((PD.u4.u4.u4.u1).t kq O)).u4.u4.u4.u4.u4.u4.u4,(Hp.conv (nr.sub (sQ sR)) aO),jt,(aJ I aO),J,J,?_,J⟩
    rw[jy h0 ‹k<_›,<-hm];((rw[aR J];done))
   refine ak<|SR<|aE jt<|xP 1 1 nr (cA bz O O (sz:=1) (vs:=[I 0]) O O az az O O)<|fun b91 w89 tN=> ?_
   (try simp only[o4]at tN)
   refine jI O tN (i:=2) O (tN.dV (i:=0) (n:=1) (sz:=1) O O az) O O bz O O (size:=1) (bytes:=8) O O O az iF J gC<|fun v92 w93 wm=> ?_
   refine V (run_assign bC) ?_
   refine aa<|ag<|gK aP wm (sP (sP (sQ sR)))<|fun w95 vG=>have akL:=vG.sub (sP (sP (sQ sR)));?_
   refine AQ 0 O akL (run_move bC) ?_
   refine AQ 1 O akL (run_move kB)<|AQ 2 O akL (ax O O J)<| ?_
   refine AQ 4 O akL (run_move bC) ?_
   refine AQ 5 O akL (run_move kB)<|gD 3 6 aP ?_ ?_
   .refine cr O aH O vG (sP (sP (sQ sR))) (gh (vG.sl (i:=2) O) bz a8 O O J)<|A1 6<|cr O aH O vG (sP (sP (sQ sR))) (gh (vG.sl (i:=2) O) bz a8 O O J)<|A1 7<|Ch O aH O (p9 (c:=m.length-i.toNat) (o:=(i+1).toNat) vG (i:=2) O J bz O O O (Sl.fr (vG.sl (i:=2) O) i.toNat J) BX J (fun u hu=>s0 (rI hu))) (fun w' h=>h.sub (sP (sP (sQ sR))))<|fun aHJ QT=>AD<|aq<| ?_
    refine V (run_move bC) ?_
    refine aE kB<|V (fA eD 1 O a8 qe)<|lI bf QT 1 O O rfl<|V (ah (QT.sl (i:=2) O) bz a8 O O J)<|zE QT (i:=2) O J O (u:=I _) O O O O J<|fun at3 vH=>aa<|aq<|V (ax AR O J)<|mI rfl<|aa<| ?_
    refine⟨(k+1,(m.take i.toNat++(l.getD k.toNat cB).n::m.drop i.toNat),v92),aT,(((PD.u4.u4.u4.u1).t kq O)).u4.u4.u4.u4.u4.u4.u4.u4.u4.u4.u4.u1,(Hp.conv (vH.sub (sQ (sQ sR))) BU),rfl,(aJ I aO),J,J,?_,J⟩
    rw[jy h0 ‹k<_›,<-hm];((rw[aS ⟨J,J⟩];exact(zQ (i:=i.toNat) J hlt (fun _=>J)).symm))
   refine cr O aH O vG (sP (sP (sQ sR))) (gh (vG.sl (i:=2) O) bz a8 O O J)<|A1 3<|cr O aH O vG (sP (sP (sQ sR))) (gh (vG.sl (i:=2) O) bz a8 O O J)<|A1 7<|Ch O aH O (p9 (c:=m.length-i.toNat) (o:=(i+1).toNat) vG (i:=2) O J bz O O O (Sl.fr (vG.sl (i:=2) O) i.toNat J) BX J (fun u hu=>s0 (rI hu))) (fun w' h=>h.sub (sP (sP (sQ sR))))<|fun aFU Ep=>AD<|aq<| ?_
   refine V (run_move bC) ?_
   refine aE kB<|V (fA eD 1 O a8 qe)<|lI bf Ep 1 O O rfl<|V (ah (Ep.sl (i:=2) O) bz a8 O O J)<|zE Ep (i:=2) O J O (u:=I _) O O O O J<|fun auC Ev=>aa<|aq<|V (ax AR O J)<|mI rfl<|aa<| ?_
   refine⟨(k+1,(m.take i.toNat++(l.getD k.toNat cB).n::m.drop i.toNat),v92),aT,(((PD.u4.u4.u4.u1).t kq O)).u4.u4.u4.u4.u4.u4.u4.u4.u4.u4.u4.u1,(Hp.conv (Ev.sub (sQ (sQ sR))) BU),rfl,(aJ I aO),J,J,?_,J⟩
   rw[jy h0 ‹k<_›,<-hm];((rw[aS ⟨J,J⟩];exact(zQ (i:=i.toNat) J hlt (fun _=>J)).symm))
  refine AK 5 O O (bF WH) nr<|AK 6 O O (bF WH) nr<|AK 7 O O (bF WH) nr<|AK 8 O O (bF WH) nr<|AK 9 O O (bF WH) nr<|AK 10 O O (bF WH) nr<|AK 11 O O (bF WH) nr<|AQ 12 O ru (dM (bF WH) (v:=B false) O)<|AD<|cL rfl<|ak<|SR<|aE jt<|xP 1 1 nr (cA bz O O (sz:=1) (vs:=[I 0]) O O az az O O)<|fun aQl aor yB=> ?_
  (try simp only[o4]at yB)
  refine jI O yB (i:=2) O (yB.dV (i:=0) (n:=1) (sz:=1) O O az) O O bz O O (size:=1) (bytes:=8) O O O az iF J gC<|fun aBa aFL aj6=> ?_
  refine V (run_assign bC) ?_
  refine aa<|ag<|gK aP aj6 (sP (sP (sQ sR)))<|fun aBb rG=>have WI:=rG.sub (sP (sP (sQ sR)));?_
  refine AQ 0 O WI (run_move bC) ?_
  refine AQ 1 O WI (run_move kB)<|AQ 2 O WI (ax O O J)<| ?_
  refine AQ 4 O WI (run_move bC) ?_
  refine AQ 5 O WI (run_move kB)<|gD 3 6 aP ?_ ?_
  .refine cr O aH O rG (sP (sP (sQ sR))) (gh (rG.sl (i:=2) O) bz a8 O O J)<|A1 6<|cr O aH O rG (sP (sP (sQ sR))) (gh (rG.sl (i:=2) O) bz a8 O O J)<|A1 7<|Ch O aH O (p9 (c:=m.length-i.toNat) (o:=(i+1).toNat) rG (i:=2) O J bz O O O (Sl.fr (rG.sl (i:=2) O) i.toNat J) BX J (fun u hu=>s0 (rI hu))) (fun w' h=>h.sub (sP (sP (sQ sR))))<|fun an5 A0=>AD<|aq<| ?_
   refine V (run_move bC) ?_
   refine aE kB<|V (fA eD 1 O a8 qe)<|lI bf A0 1 O O rfl<|V (ah (A0.sl (i:=2) O) bz a8 O O J)<|zE A0 (i:=2) O J O (u:=I _) O O O O J<|fun auQ CZ=>aa<|aq<|V (ax AR O J)<|mI rfl<|aa<| ?_
   refine⟨(k+1,(m.take i.toNat++(l.getD k.toNat cB).n::m.drop i.toNat),aBa),aT,(((PD.u4.u4.u4.u1).t kq O)).u4.u4.u4.u4.u4.u4.u4.u4.u4.u4.u4.u1,(Hp.conv (CZ.sub (sQ (sQ sR))) BU),rfl,(aJ I aO),J,J,?_,Lu⟩
   rw[jy h0 ‹k<_›,<-hm];((rw[aS ⟨J,J⟩];exact(zQ (i:=i.toNat) J hlt (fun _=>J)).symm))
  refine cr O aH O rG (sP (sP (sQ sR))) (gh (rG.sl (i:=2) O) bz a8 O O J)<|A1 3<|cr O aH O rG (sP (sP (sQ sR))) (gh (rG.sl (i:=2) O) bz a8 O O J)<|A1 7<|Ch O aH O (p9 (c:=m.length-i.toNat) (o:=(i+1).toNat) rG (i:=2) O J bz O O O (Sl.fr (rG.sl (i:=2) O) i.toNat J) BX J (fun u hu=>s0 (rI hu))) (fun w' h=>h.sub (sP (sP (sQ sR))))<|fun aoo pz=>AD<|aq<| ?_
  refine V (run_move bC) ?_
  refine aE kB<|V (fA eD 1 O a8 qe)<|lI bf pz 1 O O rfl<|V (ah (pz.sl (i:=2) O) bz a8 O O J)<|zE pz (i:=2) O J O (u:=I _) O O O O J<|fun aA6 C0=>aa<|aq<|V (ax AR O J)<|mI rfl<|aa<| ?_
  refine⟨(k+1,(m.take i.toNat++(l.getD k.toNat cB).n::m.drop i.toNat),aBa),aT,(((PD.u4.u4.u4.u1).t kq O)).u4.u4.u4.u4.u4.u4.u4.u4.u4.u4.u4.u1,(Hp.conv (C0.sub (sQ (sQ sR))) BU),rfl,(aJ I aO),J,J,?_,Lu⟩
  rw[jy h0 ‹k<_›,<-hm];((rw[aS ⟨J,J⟩];exact(zQ (i:=i.toNat) J hlt (fun _=>J)).symm))
 refine aY (id:=0) rfl<|SR<|aE J0<| ?_
 refine V (run_assign bC) ?_
 refine aa<|ai<|JM O O aZ (i:=0) O ((by rw[hm,iV J])) ((by rw[hm,iV J]))
theorem Oj{s:NP}{R L0 Z:List a7}(k:Int)(v:Value)(l:List dz)(t:iw)(y:BitVec 64)(hok:DL s)(hll:l.length<=1000)(hlg:lg.length<=550000000000)(htm:tm.length<=100000000)(w:World)(hT:oG W0)(hls:∀x∈s.au,ld (Kz (Kw W0) L0) x.p)(hc:pN (Kz (Kw W0) L0) v 10 l.length (l.flatMap j6))(hZ:vJ n m s lg tm R L0 Z)(hH:Hp W0 w Z):Calls Tryz.prog 25 #[pt n,I k,v,.agg (jq t).toArray,U y] w (jj fun u w'=>(¬(s.sk=false/\vY s.au s.aX k l t=true)/\u=B false/\∃Z',vJ n m s lg tm R L0 Z'/\Hp W0 w' Z')\/(s.sk=false/\vY s.au s.aX k l t=true/\u=B true/\∃(fv cv vv:Value) (L1 Z':List a7),(∀b o,a7.blk b o∈L0->a7.blk b o∈L1)/\DJ (Kz (Kw W0) L1) (⟨k,cv,l,t,y,vv,bS l⟩:dw)/\mJ NX n L1 (fv,.add s.qs.length (⟨k,cv,l,t,y,vv,bS l⟩:dw))/\iD [(fv,.add s.qs.length (⟨k,cv,l,t,y,vv,bS l⟩:dw))] s (A7 s (⟨k,cv,l,t,y,vv,bS l⟩:dw))/\vJ n m (A7 s (⟨k,cv,l,t,y,vv,bS l⟩:dw)) (lg++[(fv,.add s.qs.length (⟨k,cv,l,t,y,vv,bS l⟩:dw))]) (tm++[(lg.length:Int)]) R L1 Z'/\Hp W0 w' Z')):=by
 have hqn:=hok.hqn
 refine enter func25 rfl ntmps25 rfl ?_
 obtain⟨F1,L2,uj,Od,rfl⟩:=hZ
 have bP:=hH
 simp only[NZ,nE]at bP
 have YK:=hc.mono (Le.zb (K:=Kw W0) Od)
 have aHK:∀x∈s.au,ld (Kz (Kw W0) L2) x.p:=fun x hx=>(hls x hx).mono (Le.zb Od)
 have Kg:∀k:Nat,(F1.us.getD k cY).l.length<=1000:=fun k=>by rw[<-Cw,uj.us];by_cases c:k<s.us.length;exact(hok.xA k c).1;rw[eS,ny J];simp
 refine SR<|gV bP (v:=Pn _ _) rfl<|fun b8 w6 eN=>gV eN (v:= .agg _) rfl<|fun VT w9 bV=>va (v:=B false) rfl<|aa<|ag<|SR<|lP dc bV 1 O O rfl<|aG O bV (oD _ (bV.blk (i:=2) O)) (an call40 O)<|fun Bv cm=>V (bO O)<|mB rfl<|fO 18 O (fun wc=> ?_) (fun wc=> ?_)
 .refine aE (v:=B true) rfl<|aa<|cC rfl<|SR<|va (v:=B false) rfl<|aa<|ai<|iY (v:=B false) O O (.inl ⟨jY,rfl,_,⟨F1,L2,uj,Od,rfl⟩,(cm.sub (sQ (sQ sR)))⟩)
 refine lP dc cm 1 O O rfl<|mI rfl<| ?_
 refine V (run_move bC) ?_
 refine V (cM (cs:=jq _) nO O O O (bp (cm.blk (i:=0) O)))<|aG O cm (Kh _ _ _ _ _ (cm.blk (i:=2) O) (cm.sl (i:=6) O) (cm.sl (i:=7) O) (YK.mono (cm.kz (Le.refl _) (fun x hx=>(mT (mT (mT (mT (mT (mT (mT (mT (mT (mT (mT (mT (mT (mT (bG _ (bG _ hx))))))))))))))))))).sl (fun x hx=>(aHK x hx).mono (cm.kz (Le.refl _) (fun x hx=>(mT (mT (mT (mT (mT (mT (mT (mT (mT (mT (mT (mT (mT (mT (bG _ (bG _ hx))))))))))))))))))) (hT.hp cm)) (jm call56 O O O O)<|fun OM dQ=>V (bO O)<|mB rfl<|aa<|bW O (fun NA=> ?_) (fun NA=> ?_)
 .refine SR<|va (v:=B false) rfl<|aa<|ai<|iY (v:=B false) O O (.inl ⟨jY,rfl,_,⟨F1,L2,uj,Od,rfl⟩,(dQ.sub (sQ (sQ sR)))⟩)
 refine ak<|SR<|lP dc dQ 1 O O rfl<|bY O (pC J _ (dQ.pj [2,2,2,2,2,2,2,2,2,2,2,2])) (an call41 O)<| ?_
 rintro _ w24 ⟨rfl,v26,og⟩
 simp only[nE]at og
 have dK:=og.pk [12,12]
 refine aa<|SR<|lP dc dK 1 O O rfl<|V (af O)<|V (fA cw 6 O xh O)<|lV nN dK 2 O O rfl<|V (aA (dK.sl (i:=11) O) O nN O)<|nu dK (aW Tryz.zeroValue3)<|fun b30 w28 gG=>bt gG (i:=0) O (bQ O O (v:=I _) O O O (gG.blk (i:=0) O) az)<|fun w33 ni=> ?_
 simp only[z2,gU,pull]at ni
 refine aa<|E4 (G:=(Nat)×(Value)×(Value)×(List a7)) ni (12::(rg 33 9 [])) (fun(L:List a7) (⟨q12,cv,vv,Zq⟩:(Nat)×(Value)×(Value)×(List a7))=> .blk q12 (.cells (pQ (⟨k,cv,l,t,y,vv,bS l⟩:dw)).toArray 128 (0,0))::(L.take 15++((F1.us.map (dI 3))++(Zq++(R++L2))))) (fun(⟨q12,cv,vv,Zq⟩:(Nat)×(Value)×(Value)×(List a7)) s'=>(s' 12= .pointer (some ⟨q12,0,none⟩))/\(DJ (Kz (Kw W0) Zq) (⟨k,cv,l,t,y,vv,bS l⟩:dw))) ?_ ?_
 .refine fT (z:=⟨none,_,_,_,_,none⟩) aP O aP ni sR<|fun w35 oe=>have sy:=oe.sub sR;AQ 0 O sy (mV (I _) O)<| ?_
  refine AQ 2 O sy (run_move bC) ?_
  refine AT 4 O sy (fun w hS=>cM (cs:=jq _) nO O O O (bp (hS.blk (i:=1) O)))<|AQ 5 O sy (mV (U _) O)<| ?_
  refine AQ 6 O sy (run_move bC) ?_
  refine gD 1 9 aP ?_ ?_
  .refine cK O aH O oe sR (f:=fun b=> .slice (some ⟨b,0,none⟩) 0 0) (Kr gI nR)<|fun b39 w37 we=> ?_
   (try simp only[o4]at we)
   have oy:=we.EV 0 10 O az
   refine gD 3 9 aP ?_ ?_
   .refine lJ O aH O oy (j:=0) O (fun _=>(sQ sR)) (YK.mono (oy.kz (Le.refl _) (fun x hx=>(mT (mT (mT (mT (mT (mT (mT (mT (mT (mT (mT (mT (mT (mT (mT (mT (bG _ (bG _ hx))))))))))))))))))))).sl O O gI O O (size:=10) (bytes:=80) O O O az (M6 _) J gC<|fun v43 w44 nn=> ?_
    simp only[z2,gU,pull]at nn
    refine gD 7 9 aP ?_ ?_
    .refine HW O aH O nn (sQ sR) (wW _ _ J _ (YK.mono (nn.kz (Le.refl _) (fun x hx=>(mT (mT (mT (mT (mT (mT (mT (mT (mT (mT (mT (mT (mT (mT (mT (mT (bG _ (bG _ hx))))))))))))))))))))).sl) (an call57 O)<|fun v48 w46 oC=>AQ 8 O (oC.sub (sQ (sQ sR))) (dx (vs:=[(0,I k),(1,v43),(2,.agg (jq t).toArray),(3,U y),(4,v48)]) O (Al k l t y (bS l) (bj (oC.get (i:=1) O)).1 (bj (oC.get (i:=0) O)).1))<|A1 9<|cK O aH O oC (sQ (sQ sR)) (f:=fun b=> .pointer (some ⟨b,0,none⟩)) (aW Tryz.zeroValue128)<|fun b51 w49 eT=>AD<| ?_
     obtain⟨Z52,aHM,aHN,-⟩:=(eT.pj [2]).Yx (Kw W0)
     have jg:Hp _ w49 (_::_::_::_::_::_::_::_::_::_::_::_::_::_::_::_::_::(Z52++((F1.us.map (dI 3))++(R++L2)))):=aHM.Jo (L:=[_,_,_,_,_,_,_,_,_,_,_,_,_,_,_,_,_]) (L':=((F1.us.map (dI 3))++(R++L2)))
     have oZ:=Hp.mh (A:=[_,_,_,_,_,_,_,_,_,_,_,_,_,_,_,_,_]) (B:=Z52) (R:=(F1.us.map (dI 3))) jg
     simp only[gf,eC]at oZ
     obtain⟨Z57,aHO,aHP,-⟩:=(oZ.pj [1]).Yx (Kw W0)
     have G4:Hp _ w49 (_::_::_::_::_::_::_::_::_::_::_::_::_::_::_::_::(Z57++((F1.us.map (dI 3))++(Z52++(R++L2))))):=aHO.Jo (L:=[_,_,_,_,_,_,_,_,_,_,_,_,_,_,_,_]) (L':=((F1.us.map (dI 3))++(Z52++(R++L2))))
     have Ag:=Hp.mh (A:=[_,_,_,_,_,_,_,_,_,_,_,_,_,_,_,_]) (B:=Z57) (R:=(F1.us.map (dI 3))) G4
     simp only[gf,eC]at Ag
     have yI:DJ (Kz (Kw W0) (Z57++Z52)) (⟨k,v43,l,t,y,v48,bS l⟩:dw):=⟨pN.mono (by simpa using aHN) (Le.zz fun x hx=>bG _ hx),aHP.mono (Le.zz fun x hx=>dy _ hx)⟩
     refine bt Ag (i:=0) O (dF O O O (s3 yI) (Ag.blk (i:=0) O) O)<|fun w62 pT=> ?_
     simp only[z2,gU,pull]at pT
     refine aa ?_
     refine⟨((Fr.refl _ _)).u4.u4.u1.u1,(b51,v43,v48,(Z57++Z52)),(Hp.conv pT RD),rfl,?_⟩
     exact yI
    refine cK O aH O nn (sQ sR) (f:=fun b=> .pointer (some ⟨b,0,none⟩)) (aW Tryz.zeroValue128)<|fun b66 w64 Bl=>A1 7<|HW O aH O Bl (sQ (sQ sR)) (wW _ _ J _ (YK.mono (Bl.kz (Le.refl _) (fun x hx=>(mT (mT (mT (mT (mT (mT (mT (mT (mT (mT (mT (mT (mT (mT (mT (mT (mT (bG _ (bG _ hx)))))))))))))))))))))).sl) (an call57 O)<|fun v69 w67 mM=>AQ 8 O (mM.sub (sQ (sQ (sQ sR)))) (dx (vs:=[(0,I k),(1,v43),(2,.agg (jq t).toArray),(3,U y),(4,v69)]) O (Al k l t y (bS l) (bj (mM.get (i:=2) O)).1 (bj (mM.get (i:=0) O)).1))<|AD<| ?_
    obtain⟨Z70,aHQ,aHR,-⟩:=(mM.pj [2]).Yx (Kw W0)
    have wh:Hp _ w67 (_::_::_::_::_::_::_::_::_::_::_::_::_::_::_::_::_::(Z70++((F1.us.map (dI 3))++(R++L2)))):=aHQ.Jo (L:=[_,_,_,_,_,_,_,_,_,_,_,_,_,_,_,_,_]) (L':=((F1.us.map (dI 3))++(R++L2)))
    have Ak:=Hp.mh (A:=[_,_,_,_,_,_,_,_,_,_,_,_,_,_,_,_,_]) (B:=Z70) (R:=(F1.us.map (dI 3))) wh
    simp only[gf,eC]at Ak
    obtain⟨Z75,aHS,aHT,-⟩:=Ak.Yx (Kw W0)
    have Kb:Hp _ w67 (_::_::_::_::_::_::_::_::_::_::_::_::_::_::_::_::(Z75++((F1.us.map (dI 3))++(Z70++(R++L2))))):=aHS.Jo (L:=[_,_,_,_,_,_,_,_,_,_,_,_,_,_,_,_]) (L':=((F1.us.map (dI 3))++(Z70++(R++L2))))
    have O2:=Hp.mh (A:=[_,_,_,_,_,_,_,_,_,_,_,_,_,_,_,_]) (B:=Z75) (R:=(F1.us.map (dI 3))) Kb
    simp only[gf,eC]at O2
    have yI:DJ (Kz (Kw W0) (Z75++Z70)) (⟨k,v43,l,t,y,v69,bS l⟩:dw):=⟨pN.mono (by simpa using aHR) (Le.zz fun x hx=>bG _ hx),aHT.mono (Le.zz fun x hx=>dy _ hx)⟩
    refine bt O2 (i:=0) O (dF O O O (s3 yI) (O2.blk (i:=0) O) O)<|fun w80 aoq=> ?_
    simp only[z2,gU,pull]at aoq
    refine aa ?_
    refine⟨((Fr.refl _ _)).u4.u4.u1.u1,(b66,v43,v69,(Z75++Z70)),(Hp.conv aoq RD),rfl,?_⟩
    exact yI
   refine cK O aH O oy (sQ sR) (f:=fun b=> .pointer (some ⟨b,0,none⟩)) (aW Tryz.zeroValue128)<|fun b84 w82 akH=>A1 3<|lJ O aH O akH (j:=1) O (fun _=>(sQ (sQ sR))) (YK.mono (akH.kz (Le.refl _) (fun x hx=>(mT (mT (mT (mT (mT (mT (mT (mT (mT (mT (mT (mT (mT (mT (mT (mT (mT (bG _ (bG _ hx)))))))))))))))))))))).sl O O gI O O (size:=10) (bytes:=80) O O O az (M6 _) J gC<|fun v87 w88 I3=> ?_
   simp only[z2,gU,pull]at I3
   refine A1 7<|HW O aH O I3 (sQ (sQ sR)) (wW _ _ J _ (YK.mono (I3.kz (Le.refl _) (fun x hx=>(mT (mT (mT (mT (mT (mT (mT (mT (mT (mT (mT (mT (mT (mT (mT (mT (mT (bG _ (bG _ hx)))))))))))))))))))))).sl) (an call57 O)<|fun v92 w90 I2=>AQ 8 O (I2.sub (sQ (sQ (sQ sR)))) (dx (vs:=[(0,I k),(1,v87),(2,.agg (jq t).toArray),(3,U y),(4,v92)]) O (Al k l t y (bS l) (bj (I2.get (i:=2) O)).1 (bj (I2.get (i:=0) O)).1))<|AD<| ?_
   obtain⟨Z93,aHU,aHV,-⟩:=(I2.pj [2]).Yx (Kw W0)
   have vG:Hp _ w90 (_::_::_::_::_::_::_::_::_::_::_::_::_::_::_::_::_::(Z93++((F1.us.map (dI 3))++(R++L2)))):=aHU.Jo (L:=[_,_,_,_,_,_,_,_,_,_,_,_,_,_,_,_,_]) (L':=((F1.us.map (dI 3))++(R++L2)))
   have Tk:=Hp.mh (A:=[_,_,_,_,_,_,_,_,_,_,_,_,_,_,_,_,_]) (B:=Z93) (R:=(F1.us.map (dI 3))) vG
   simp only[gf,eC]at Tk
   obtain⟨Z98,aHW,aBc,-⟩:=Tk.Yx (Kw W0)
   have Eu:Hp _ w90 (_::_::_::_::_::_::_::_::_::_::_::_::_::_::_::_::(Z98++((F1.us.map (dI 3))++(Z93++(R++L2))))):=aHW.Jo (L:=[_,_,_,_,_,_,_,_,_,_,_,_,_,_,_,_]) (L':=((F1.us.map (dI 3))++(Z93++(R++L2))))
   have JA:=Hp.mh (A:=[_,_,_,_,_,_,_,_,_,_,_,_,_,_,_,_]) (B:=Z98) (R:=(F1.us.map (dI 3))) Eu
   simp only[gf,eC]at JA
   have yI:DJ (Kz (Kw W0) (Z98++Z93)) (⟨k,v87,l,t,y,v92,bS l⟩:dw):=⟨pN.mono (by simpa using aHV) (Le.zz fun x hx=>bG _ hx),aBc.mono (Le.zz fun x hx=>dy _ hx)⟩
   refine bt JA (i:=0) O (dF O O O (s3 yI) (JA.blk (i:=0) O) O)<|fun aHJ QT=> ?_
   simp only[z2,gU,pull]at QT
   refine aa ?_
   refine⟨((Fr.refl _ _)).u4.u4.u1.u1,(b84,v87,v92,(Z98++Z93)),(Hp.conv QT RD),rfl,?_⟩
   exact yI
  refine cK O aH O oe sR (f:=fun b=> .pointer (some ⟨b,0,none⟩)) (aW Tryz.zeroValue128)<|fun aHX at3 vH=>A1 1<|cK O aH O vH (sQ sR) (f:=fun b=> .slice (some ⟨b,0,none⟩) 0 0) (Kr gI nR)<|fun aQm aHq QO=> ?_
  (try simp only[o4]at QO)
  have WB:=QO.EV 0 10 O az
  refine A1 3<|lJ O aH O WB (j:=0) O (fun _=>(sQ (sQ sR))) (YK.mono (WB.kz (Le.refl _) (fun x hx=>(mT (mT (mT (mT (mT (mT (mT (mT (mT (mT (mT (mT (mT (mT (mT (mT (mT (bG _ (bG _ hx)))))))))))))))))))))).sl O O gI O O (size:=10) (bytes:=80) O O O az (M6 _) J gC<|fun auU auC Ev=> ?_
  simp only[z2,gU,pull]at Ev
  refine A1 7<|HW O aH O Ev (sQ (sQ sR)) (wW _ _ J _ (YK.mono (Ev.kz (Le.refl _) (fun x hx=>(mT (mT (mT (mT (mT (mT (mT (mT (mT (mT (mT (mT (mT (mT (mT (mT (mT (bG _ (bG _ hx)))))))))))))))))))))).sl) (an call57 O)<|fun auV aor yB=>AQ 8 O (yB.sub (sQ (sQ (sQ sR)))) (dx (vs:=[(0,I k),(1,auU),(2,.agg (jq t).toArray),(3,U y),(4,auV)]) O (Al k l t y (bS l) (bj (yB.get (i:=1) O)).1 (bj (yB.get (i:=0) O)).1))<|AD<| ?_
  obtain⟨aeE,aBd,aBe,-⟩:=(yB.pj [1]).Yx (Kw W0)
  have JH:Hp _ aor (_::_::_::_::_::_::_::_::_::_::_::_::_::_::_::_::_::(aeE++((F1.us.map (dI 3))++(R++L2)))):=aBd.Jo (L:=[_,_,_,_,_,_,_,_,_,_,_,_,_,_,_,_,_]) (L':=((F1.us.map (dI 3))++(R++L2)))
  have rG:=Hp.mh (A:=[_,_,_,_,_,_,_,_,_,_,_,_,_,_,_,_,_]) (B:=aeE) (R:=(F1.us.map (dI 3))) JH
  simp only[gf,eC]at rG
  obtain⟨aos,aBf,akM,-⟩:=rG.Yx (Kw W0)
  have akN:Hp _ aor (_::_::_::_::_::_::_::_::_::_::_::_::_::_::_::_::(aos++((F1.us.map (dI 3))++(aeE++(R++L2))))):=aBf.Jo (L:=[_,_,_,_,_,_,_,_,_,_,_,_,_,_,_,_]) (L':=((F1.us.map (dI 3))++(aeE++(R++L2))))
  have Es:=Hp.mh (A:=[_,_,_,_,_,_,_,_,_,_,_,_,_,_,_,_]) (B:=aos) (R:=(F1.us.map (dI 3))) akN
  simp only[gf,eC]at Es
  have yI:DJ (Kz (Kw W0) (aos++aeE)) (⟨k,auU,l,t,y,auV,bS l⟩:dw):=⟨pN.mono (by simpa using aBe) (Le.zz fun x hx=>bG _ hx),akM.mono (Le.zz fun x hx=>dy _ hx)⟩
  refine bt Es (i:=0) O (dF O O O (s3 yI) (Es.blk (i:=0) O) O)<|fun aFW ab4=> ?_
  simp only[z2,gU,pull]at ab4
  refine aa ?_
  refine⟨((Fr.refl _ _)).u4.u4.u1.u1,(aHX,auU,auV,(aos++aeE)),(Hp.conv ab4 RD),rfl,?_⟩
  exact yI
 rintro⟨q12,cv,vv,Zq⟩ aK8 aQn aBg A0 ⟨Tv,aeF⟩
 simp only[Ho,wY,gf,eC]at A0
 obtain⟨aaq,aCK,aot⟩:=aBg.w3 5 10 11
 have hfb:vY s.au s.aX k l t=true:=nf ‹(!vY _ _ _ _ _)=false›
 have hvs:=ad1 hfb
 have Qi:=VD l
 have hvl:∀v∈bS l,0<=v/\v<s.us.length:=fun v hv=>by have:=hvs v hv;have:=hok.hlt;have:=hok.Oo;omega
 have hvc:(bS l).length<=1000:=kM (DA l) hll
 have hvw:(⟨k,cv,l,t,y,vv,bS l⟩:dw).vars.length=(bS l).length:=rfl
 refine ag<|fT (z:=⟨none,_,_,_,_,none⟩) aP O aP A0 (sP (sP (sP (sP (sP (sP (sP (sP (sP (sP (sP (sP (sP (sQ sR))))))))))))))<|fun auQ CZ=>have yC:=CZ.sub (sP (sP (sP (sP (sP (sP (sP (sP (sP (sP (sP (sP (sP (sQ sR))))))))))))));AT 0 O yC (fun w hS=>aC dc O aaq (hS.cell (i:=3) O (v:=Pn _ _) O))<|AT 1 O yC (fun w hS=>aC dc O aaq (hS.cell (i:=3) O (v:=Pn _ _) O))<|AQ 2 O yC (af O)<|AQ 3 O yC (fA cw 6 O xh O)<|tV 4 O yC nN 4 O O rfl<|AT 5 O yC (fun w hS=>cM (cs:=pQ _) iW O O Tv (bp (hS.blk (i:=0) O)))<|A1 6<|cK O aH O CZ (sP (sP (sP (sP (sP (sP (sP (sP (sP (sP (sP (sP (sP (sQ sR)))))))))))))) (f:=fun b=> .slice (some ⟨b,0,none⟩) 1 1) (n7 ph nN O O O (l:=[(⟨k,cv,l,t,y,vv,bS l⟩:dw)]) O az az O)<|fun aHu aHv G5=>A1 7<|Sz (a:=(⟨k,cv,l,t,y,vv,bS l⟩:dw)) O aH ph az O G5 (i:=14) O (fun _=>(sQ (sP (sP (sP (sP (sP (sP (sP (sP (sP (sP (sP (sP (sP (sQ sR)))))))))))))))) (Hp.oQ ph G5 (i:=0) (l:=[(⟨k,cv,l,t,y,vv,bS l⟩:dw)]) O kU) O O nN O O (bytes:=136) O O O (fun u hu=>s3 aeF u qy) J az<|fun akB aoo pz=> ?_
 simp only[z2,gU,pull]at pz
 refine AQ 8 O (pz.sub (sQ (sP (sP (sP (sP (sP (sP (sP (sP (sP (sP (sP (sP (sP (sQ sR)))))))))))))))) (af O)<|AQ 9 O (pz.sub (sQ (sP (sP (sP (sP (sP (sP (sP (sP (sP (sP (sP (sP (sP (sQ sR)))))))))))))))) (fA cw 6 O xh O)<|AD<|bt pz (i:=5) O (bQ O O (v:=akB) O (bj (pz.get (i:=14) O)).1 (bj (pz.get (i:=14) O)).2 (pz.blk (i:=5) O) aF)<|fun aA6 C0=> ?_
 simp only[iM,kL,m7,ia,Nat.reduceAdd]at C0
 refine aa<|ag<|SR<|V (fA iW 12 O dB Tv)<|V (cf (aeF.vars.mono (C0.kz (Le.refl _) (fun x hx=>(mT (mT (mT (mT (mT (mT (mT (mT (mT (mT (mT (mT (mT (mT (mT (mT (mT (bG _ (dy _ hx)))))))))))))))))))))).sl bz O O (C0.cell (i:=1) O O))<|V (aA (aeF.vars.mono (C0.kz (Le.refl _) (fun x hx=>(mT (mT (mT (mT (mT (mT (mT (mT (mT (mT (mT (mT (mT (mT (mT (mT (mT (bG _ (dy _ hx)))))))))))))))))))))).sl O bz O)<|aE (v:=I 0) rfl<|aa<|ay<|bk (G:=Int×(List jM)×(List a7)) (fun⟨j,W3,Z1⟩ s' w'=>(Fr (14::(rg 55 21 [])) _ s')/\(Hp W0 w' (_::_::_::_::_::_::_::_::_::_::_::_::_::jG jM.v F1.vu 99 W3::_::_::_::Z1))/\(s' 55=I j)/\(0<=j)/\(j<=(bS l).length)/\(Z1=W3.map (dI 3)++(Zq++(R++L2)))/\(pO W3=((bS l).take j.toNat).foldl (Fm s.qs.length) s.us)) (fun⟨j,W3,Z1⟩=>((bS l).length-j).toNat) ((0,F1.us,((F1.us.map (dI 3))++(Zq++(R++L2))))) ⟨Fr.refl _ _,C0,rfl,J,J,rfl,uj.us⟩<| ?_
 rintro⟨j,W3,Z1⟩ aK9 aQo ⟨akO,WJ,Tw,h0,hj,hz,hgs⟩
 obtain⟨aou,aov⟩:=akO.w2 53 54
 obtain⟨Ty,aci,aow⟩:=akO.t3 5 aaq 11 aot 12 Tv
 subst hz
 have hgn:W3.length=s.us.length:=by have:=aJ List.length hgs;rwa[gd,po]at this
 have hub:∀k:Nat,(W3.getD k cY).l.length<=1001:=fun k=>by rw[<-Cw,hgs];exact ane (Qi.sublist (List.take_sublist _ _)) (fun v hv=>hvl v (rH hv)) (by rw[<-uj.us,Cw];exact Kg k)
 refine SR<|V (aM Tw aov)<|aa<|ag<|aD O (fun aHY=> ?_) (fun aHY=> ?_)
 .refine ak<|ag<|ay<|SR<|V (ah (aeF.vars.mono (WJ.kz (Le.refl _) (fun x hx=>(mT (mT (mT (mT (mT (mT (mT (mT (mT (mT (mT (mT (mT (mT (mT (mT (mT (bG _ (dy _ hx)))))))))))))))))))))).sl bz a8 aou Tw J)<|V (aC bf O O ((aeF.vars.mono (WJ.kz (Le.refl _) (fun x hx=>(mT (mT (mT (mT (mT (mT (mT (mT (mT (mT (mT (mT (mT (mT (mT (mT (mT (bG _ (dy _ hx)))))))))))))))))))))).sl.cell _ _ (eG J)))<|V (run_assign (show _=I ((bS l).getD j.toNat 0)from O))<|aa<|have hvj:=hvl _ (dh (d:=0) h0 ‹j<_›);?_
  rw[<-hgn]at hvj
  refine fT (z:=⟨none,_,_,_,_,none⟩) aP O aP WJ (sP (sP (sP (sP (sP (sP (sP (sP (sP (sP (sP (sP (sP (sP (sP (sP (sP (sA sR))))))))))))))))))<|fun aQq aqG=>have yD:=aqG.sub (sP (sP (sP (sP (sP (sP (sP (sP (sP (sP (sP (sP (sP (sP (sP (sP (sP (sA sR))))))))))))))))));AT 0 O yD (fun w hS=>aC dc O Ty (hS.cell (i:=4) O (v:=Pn _ _) O))<|AQ 1 O yD (af O)<|AQ 2 O yD (fA cw 5 O yY O)<|tV 3 O yD o5 5 O O rfl<|AQ 4 O yD (mV (I _) O)<|AT 5 O yD (fun w hS=>aC dc O Ty (hS.cell (i:=4) O (v:=Pn _ _) O))<|AQ 6 O yD (af O)<|AQ 7 O yD (fA cw 5 O yY O)<|tV 8 O yD o5 5 O O rfl<|AQ 9 O yD (mV (I _) O)<|AT 10 O yD (fun w hS=>ah (hS.sl (i:=13) O) o5 dB O (show _=I ((bS l).getD j.toNat 0)from O) J)<|AT 11 O yD (fun w hS=>aC bz O O ((hS.sl (i:=13) O).cell _ _ (lf (dv:=cY) J)))<|AT 12 O yD (fun w hS=>aC bf O aci (hS.cell (i:=2) O (v:=I _) O))<|A1 13<|cK O aH O aqG (sP (sP (sP (sP (sP (sP (sP (sP (sP (sP (sP (sP (sP (sP (sP (sP (sP (sA sR)))))))))))))))))) (f:=fun b=> .slice (some ⟨b,0,none⟩) 1 1) (cA bz O O (sz:=1) (vs:=[I _]) O O az az O O)<|fun aQr aQs WD=> ?_
  (try simp only[o4]at WD)
  refine A1 14<|ahW (A:=[_,_,_,_,_,_,_,_,_,_,_,_,_,_,_,_,_,_]) (gs:=W3) (q:=((bS l).getD j.toNat 0)) (a:=(s.qs.length:Int)) (R:=(Zq++(R++L2))) O aH O WD (fun _=>(sQ (sP (sP (sP (sP (sP (sP (sP (sP (sP (sP (sP (sP (sP (sP (sP (sP (sP (sA (sA sR))))))))))))))))))))) hvj (WD.dV (i:=0) (n:=1) (sz:=1) O O az) O O bz O O (bytes:=8) O O O (by have:=hub (((bS l).getD j.toNat 0)).toNat;omega) az<|fun auW aQt acj=> ?_
  simp only[gf,eC]at acj
  refine AT 15 O (acj.sub (sQ (sP (sP (sP (sP (sP (sP (sP (sP (sP (sP (sP (sP (sP (sP (sP (sP (sP (sA sR)))))))))))))))))))) (fun w hS=>ah (hS.sl (i:=13) O) o5 dB O (show _=I ((bS l).getD j.toNat 0)from O) J)<|AD<|have aqH:=Hp.aw3 (A:=[_,_,_,_,_,_,_,_,_,_,_,_,_,_,_,_,_,_]) (gs:=W3) (q:=((bS l).getD j.toNat 0)) (R:=(Zq++(R++L2))) acj J;qN (f:=jM.v) (a:=⟨auW,(W3.getD (((bS l).getD j.toNat 0)).toNat cY).l++[(s.qs.length:Int)]⟩) acj (i:=14) O J O O aqH.1 aqH.2 rfl<|fun aQu aqI=> ?_
  simp only[z2,gU,pull]at aqI
  refine aa<|aq<|V (ax Tw O J)<|mI rfl<|aa<| ?_
  refine⟨(j+1,(W3.set (((bS l).getD j.toNat 0)).toNat ⟨auW,(W3.getD (((bS l).getD j.toNat 0)).toNat cY).l++[(s.qs.length:Int)]⟩),(((W3.set (((bS l).getD j.toNat 0)).toNat ⟨auW,(W3.getD (((bS l).getD j.toNat 0)).toNat cY).l++[(s.qs.length:Int)]⟩).map (dI 3))++(Zq++(R++L2)))),aT,akO.u4.u4.u4.u4.u4.u1.u1,(Hp.conv (aqI.sub (sQ sR)) aO),(aJ I aO),J,J,aO,?_⟩
  (rw[mR h0 ‹j<_›,<-hgs];unfold Fm;rw[abo,Fg])
 refine aY (id:=0) rfl<|SR<|V (aC dc O Ty (WJ.cell (i:=4) O (v:=Pn _ _) O))<|V (LF Ty aci aow)<|bY O (iA _ _ (.add s.qs.length (⟨k,cv,l,t,y,vv,bS l⟩:dw)) J _ (WJ.pj [5,5,5,5,5,5,5,5,5,5,5,5])) (aN y9 O O)<| ?_
 rintro _ aHZ ⟨rfl,aH0,ack⟩
 simp only[nE]at ack
 have aBh:=ack.pk [12,12,12,12,12]
 refine aa<|SR<|va (v:=B true) rfl<|aa<|ai<|have akc:=((aBh.sub (sQ (sP (sP (sQ sR))))).pj [3,3,3,3,3,3,3,3,3,3,3,3,2,1]);have C1:=Hp.aEc (A:=[_,_,_,_,_,_,_,_,_,_,_,_]) (B:=[a7.blk b8 (.cells #[pt n] 31 (0,0)),a7.blk b30 (.cells #[I s.qs.length] 3 (0,0)),a7.blk q12 (.cells (pQ (⟨k,cv,l,t,y,vv,bS l⟩:dw)).toArray 128 (0,0))]) (U:=(W3.map (dI 3))) (Q:=Zq) (R:=R) akc;?_
 rw[iV J]at hgs
 refine iY (v:=B true) O O (.inr ⟨jY,hfb,rfl,(iH 58 #[pt b8,pt b30,pt q12]),cv,vv,([a7.blk b8 (.cells #[pt n] 31 (0,0)),a7.blk b30 (.cells #[I s.qs.length] 3 (0,0)),a7.blk q12 (.cells (pQ (⟨k,cv,l,t,y,vv,bS l⟩:dw)).toArray 128 (0,0))]++(Zq++L2)),_,(fun b o hb=>bG _ (bG _ (Od b o hb))),aeF.mono (Le.zz fun x hx=>bG _ (dy _ hx)),⟨_,_,_,rfl,aF,aF,aF⟩,aiC Qi hvl,⟨{F1 with vu:=F1.vu,vq:=akB,vd:=aH0,vm:=v26,us:=W3},([a7.blk b8 (.cells #[pt n] 31 (0,0)),a7.blk b30 (.cells #[I s.qs.length] 3 (0,0)),a7.blk q12 (.cells (pQ (⟨k,cv,l,t,y,vv,bS l⟩:dw)).toArray 128 (0,0))]++(Zq++L2)),⟨uj.fo.mono fun e he=>bG _ (bG _ he),hgs⟩,fun _ _ q=>q,rfl⟩,?_⟩)
 simp only[NZ,nE,A7];exact C1
section
variable{W0 w:World}{n:Nat}{s:NP}{lg:List (Value×lU)}{tm:List Int}{ids:List Nat}{f:Ct}{tl:List (Nat×Rl)}{b c:Nat}{A R Z:List a7}
theorem He(hT:oG W0)(hW:xC s)(hb:b<=70)(hc:c<=1000)(hZ:jA fr W0 n s lg tm ids f tl b c Z)(hH:Hp W0 w (A++(Z++R))):Calls Tryz.prog 15 #[pt n] w (jj fun u w'=>∃(ok:Bool) (s':NP) (new:List (Value×lU)) (f':Ct) (a j:Nat) (Z':List a7),u=B ok/\asL s s' ok/\iD new s s'/\pn f f' a a (a+j)/\a<=muM s/\j<=s.aj.length/\jA fr W0 n s' (lg++new) (tmS s lg tm) ids f' tl (b+1) c Z'/\Hp W0 w' (A++(Z'++R))):=by
 obtain⟨Z2,hM,aZ⟩:=hZ.at9 hH
 obtain⟨m,L0,Zf,⟨b1,b2,b3,b4⟩,hZf,hlv,yI,hch,hN⟩:=hM
 have hmu:=hW.mu
 have hnv:=hW.nv
 refine(G9 (JB s) (muB s) (muM s) J hW.ns.ok hW.wy J J b4 J (axm hW) w hT hlv hZf yI hN aZ).mono fun e w' hr=>jj.mono ?_ hr
 rintro u w' (⟨h1,rfl,Z3,hN2,uD⟩|⟨Bu,us,ok,cc,TH,a,s',new,L1,Z3,Zf',f',xA,rfl,hR,hJ,ha,hs',hnc,hnl,hbk,hL,auX,hk,hN2,uD⟩)
 .obtain⟨Zo,ho,hh⟩:=jA.out (A:=A) (R:=R) (fr:=fr) (b:=b+1) (c:=c) ⟨m,L0,Zf,⟨J,J,J,b4.mono J⟩,hZf,hlv,yI,hch,hN2⟩ uD
  refine⟨false,s,[],f,0,0,Zo,rfl,⟨fun _=>⟨rfl,rfl⟩,fun q=>(by rw[h1]at q;cases q)⟩,iD.nil s,pn.refl f,J,J,?_,hh⟩
  rw[lY,axo h1];exact ho
 have Sk:=aiZ hW xA hR ha
 have hS:=asJ hW Bu xA hR (by unfold JN;rw[abD];exact hJ)
 have hj:(sj s.cs us s.au s.aX s.qs s.sn s.aj.length ⟨s.aj,s.a6,[],List.replicate s.qs.length false⟩).j<=s.aj.length:=(SQ hW.ns xA).2.2.2
 rw[<-hs']at hS
 have hlt:s'.au=s.au:=hS.au
 obtain⟨Zo,ho,hh⟩:=jA.out (A:=A) (R:=R) (fr:=fr) (b:=b+1) (c:=c) ⟨m+s.aj.length,L1,Zf',⟨J,by simp only[cZ];omega,by simp only[cZ,gN];omega,(hk.ok b4).mono J⟩,auX,by rw[hlt];exact hlv.mono (Le.zb hL),by rw[hS.qs];exact yI.mono (Le.zb hL),fun x hx=>by rcases eI.1 hx with q|q;exact(hch x q).Eb hL;exact hnc x q,hN2⟩ uD
 rw[<-axp (lg:=lg) (tm:=tm) Bu]at ho
 exact⟨ok,s',new,f',a,_,Zo,rfl,⟨fun q=>Ya,fun _=>hS⟩,hbk,hk,Sk,hj,ho,hh⟩
end
section
variable{W0 w:World}{n:Nat}{s:NP}{lg:List (Value×lU)}{tm:List Int}{ids:List Nat}{f:Ct}{tl:List (Nat×Rl)}{b c:Nat}{A R Z:List a7}
theorem akQ(l:Int)(hok:DL s)(hb:b<=70)(hc:c<=1000)(hZ:jA fr W0 n s lg tm ids f tl b c Z)(hH:Hp W0 w (A++(Z++R))):Calls Tryz.prog 18 #[pt n,I l] w (jj fun u w'=>(¬(s.sk=false/\0<=l/\l<s.au.length)/\u=I (-1)/\∃Z',jA fr W0 n s lg tm ids f tl b c Z'/\Hp W0 w' (A++(Z'++R)))\/(s.sk=false/\(0<=l/\l<s.au.length)/\u=I s.aj.length/\∃(fv:Value) (Z':List a7),iD [(fv,lU.var s.aj.length ((s.cs.length:Int)-1))] s (qn s l (s.au.getD l.toNat o3).low)/\jA fr W0 n (qn s l (s.au.getD l.toNat o3).low) (lg++[(fv,lU.var s.aj.length ((s.cs.length:Int)-1))]) (tm++[(lg.length:Int)]) ids f tl b (c+1) Z'/\Hp W0 w' (A++(Z'++R)))):=by
 obtain⟨Z2,hM,aZ⟩:=hZ.at9 hH
 obtain⟨m,L0,Zf,⟨b1,b2,b3,b4⟩,hZf,hlv,yI,hch,hN⟩:=hM
 refine(Oi l J hok J J w hN aZ).mono fun e w' hr=>jj.mono ?_ hr
 rintro u w' (⟨h1,rfl,Z3,hN2,uD⟩|⟨h1,h2,rfl,fv,L1,Z3,hL,hC,hbk,hN2,uD⟩)
 .refine .inl ⟨h1,rfl,?_⟩
  obtain⟨Zo,ho,hh⟩:=jA.out (A:=A) (R:=R) (fr:=fr) ⟨m,L0,Zf,⟨b1,b2,b3,b4⟩,hZf,hlv,yI,hch,hN2⟩ uD
  exact⟨Zo,ho,hh⟩
 obtain⟨Zo,ho,hh⟩:=jA.out (A:=A) (R:=R) (fr:=fr) (s:=qn s l (s.au.getD l.toNat o3).low) (lg:=lg++[(fv,lU.var s.aj.length ((s.cs.length:Int)-1))]) (tm:=tm++[(lg.length:Int)]) (b:=b) (c:=c+1) ⟨m+1,L1,Zf,⟨J,by simp only[cZ,gN];omega,by simp only[cZ,gN];omega,b4⟩,hZf,hlv.mono (Le.zb hL),yI.mono (Le.zb hL),fun x hx=>by rcases eI.1 hx with q|q;exact(hch x q).Eb hL;rw[dY.1 q];exact hC,hN2⟩ uD
 exact .inr ⟨h1,h2,rfl,fv,Zo,hbk,ho,hh⟩
end
section
variable{W0 w:World}{n:Nat}{s:NP}{lg:List (Value×lU)}{tm:List Int}{ids:List Nat}{f:Ct}{tl:List (Nat×Rl)}{b c:Nat}{A R Z:List a7}
theorem acm(k:Int)(v:Value)(l:List dz)(t:iw)(y:BitVec 64)(hok:DL s)(hll:l.length<=1000)(hb:b<=70)(hc:c<=1000)(hT:oG W0){X:List a7}(hcv:pN (Kz (Kw W0) X) v 10 l.length (l.flatMap j6))(hZ:jA fr W0 n s lg tm ids f tl b c Z)(hH:Hp W0 w (A++(Z++X))):Calls Tryz.prog 25 #[pt n,I k,v,.agg (jq t).toArray,U y] w (jj fun u w'=>∃(ok:Bool) (s':NP) (new:List (Value×lU)) (TI:List Int) (Z':List a7),u=B ok/\SS s s' k l t y ok/\iD new s s'/\TmA ok lg tm TI/\jA fr W0 n s' (lg++new) TI ids f tl b (c+1) Z'/\Hp W0 w' (A++(Z'++[]))):=by
 obtain⟨m,L0,Zf,Z2,⟨b1,b2,b3,b4⟩,hZf,hlv,yI,hch,hN,aZ,hXL⟩:=hZ.azf hH
 refine(Oj k v l t y hok hll J J w hT (fun x hx=>(hlv x hx).zx) (hcv.mono (Le.zb hXL)) hN aZ).mono fun e w' hr=>jj.mono ?_ hr
 rintro u w' (⟨h1,rfl,Z3,hN2,uD⟩|⟨h1,h2,rfl,fv,cv,vv,L1,Z3,hL,hq,hC,hbk,hN2,uD⟩)
 .obtain⟨Zo,ho,hh⟩:=jA.out (A:=A) (R:=[]) (fr:=fr) (b:=b) (c:=c+1) ⟨m,L0,Zf,⟨J,J,J,b4⟩,hZf,hlv,yI,hch,hN2⟩ uD
  refine⟨false,s,[],tm,Zo,rfl,SS.no h1,iD.nil s,rfl,?_,hh⟩
  rw[lY];exact ho
 obtain⟨Zo,ho,hh⟩:=jA.out (A:=A) (R:=[]) (fr:=fr) (s:=A7 s (⟨k,cv,l,t,y,vv,bS l⟩:dw)) (lg:=lg++[(fv,lU.add s.qs.length (⟨k,cv,l,t,y,vv,bS l⟩:dw))]) (tm:=tm++[(lg.length:Int)]) (b:=b) (c:=c+1) ⟨m,L1,Zf,⟨J,by simp only[cZ,gN];omega,by simp only[cZ,gN];omega,b4⟩,hZf,hlv.mono (Le.zb hL),fun x hx=>by rcases eI.1 hx with q|q;exact(yI.mono (Le.zb hL)) x q;rw[dY.1 q];exact hq,fun x hx=>by rcases eI.1 hx with q|q;exact(hch x q).Eb hL;rw[dY.1 q];exact hC,hN2⟩ uD
 exact⟨true,_,_,_,Zo,rfl,SS.yes h1 h2,hbk,rfl,ho,hh⟩
end
section
variable{W0 w:World}{n:Nat}{s:NP}{lg:List (Value×lU)}{tm:List Int}{ids:List Nat}{f:Ct}{tl:List (Nat×Rl)}{b c:Nat}{A R Z:List a7}
theorem aqJ(p:kW)(hfn:p.aL.length<=1000)(hnn:∀f∈p.aL,f.names.length<=1000)(hll:s.au.length<=1000)(hwr:WrF s.wr ids)(hb:b<=70)(hc:c<=1000)(hT:oG W0){X:List a7}(hsh:ld (Kz (Kw W0) X) p)(hZ:jA fr W0 n s lg tm ids f tl b c Z)(hH:Hp W0 w (A++(Z++X))):Calls Tryz.prog 19 #[pt n,.agg (q9 p)] w (jj fun u w'=>((s.sk=true\/lW p.sh=false)/\u=I (-1)/\∃Z',jA fr W0 n s lg tm ids f tl b c Z'/\Hp W0 w' (A++(Z'++[])))\/(s.sk=false/\∃(x:pg) (fv:Value) (Qn:List (Nat×Rl)) (Z':List a7),lW p.sh=true/\u=I s.au.length/\x.p.sh=p.sh/\x.low=iu p.sh eY/\WrD s.wr x.d/\iD [(fv,lU.aX s.au.length)] s {s with au:=s.au++[x]}/\jA fr W0 n {s with au:=s.au++[x]} (lg++[(fv,lU.aX s.au.length)]) (tm++[(lg.length:Int)]) ids f (tl++Qn) b (c+1) Z'/\Hp W0 w' (A++(Z'++[])))):=by
 obtain⟨m,L0,Zf,Z2,⟨b1,b2,b3,b4⟩,hZf,hlv,yI,hch,hN,aZ,hXL⟩:=hZ.azf hH
 refine(Og p hfn hnn hll J J hwr w hT (hsh.mono (Le.zb hXL)) hZf hN aZ).mono fun e w' hr=>jj.mono ?_ hr
 rintro u w' (⟨h1,rfl,Z3,hN2,uD⟩|⟨h1,x,fv,Qn,L1,Z3,Zf',h2,rfl,h3,h4,h5,hL,hx,hC,auX,hbk,hN2,uD⟩)
 .refine .inl ⟨h1,rfl,?_⟩
  obtain⟨Zo,ho,hh⟩:=jA.out (A:=A) (R:=[]) (fr:=fr) ⟨m,L0,Zf,⟨b1,b2,b3,b4⟩,hZf,hlv,yI,hch,hN2⟩ uD
  exact⟨Zo,ho,hh⟩
 obtain⟨Zo,ho,hh⟩:=jA.out (A:=A) (R:=[]) (fr:=fr) (s:={s with au:=s.au++[x]}) (lg:=lg++[(fv,lU.aX s.au.length)]) (tm:=tm++[(lg.length:Int)]) (tl:=tl++Qn) (b:=b) (c:=c+1) ⟨m,L1,Zf',⟨J,by simp only[cZ,gN];omega,by simp only[cZ,gN];omega,b4⟩,auX,Vs.snoc (fun y hy=>((hlv y hy).mono (Le.zb hL)).more) hx,yI.mono (Le.zb hL),fun x hx=>by rcases eI.1 hx with q|q;exact(hch x q).Eb hL;rw[dY.1 q];exact hC,hN2⟩ uD
 exact .inr ⟨h1,x,fv,Qn,Zo,h2,rfl,h3,h4,h5,hbk,ho,hh⟩
end
section
variable{W0 w:World}{n:Nat}{s:NP}{lg:List (Value×lU)}{tm:List Int}{ids:List Nat}{f:Ct}{tl:List (Nat×Rl)}{b c:Nat}{A R Z:List a7}
theorem aox(v:Int)(hZ:jA fr W0 n s lg tm ids f tl b c Z){L:List a7}(hH:Hp W0 w L)(hs:∀x,x∈Z->x∈L):Calls Tryz.prog 23 #[pt n,I v] w (Pure (.agg (jv (if 0<=v/\v<s.aj.length then s.aj.getD v.toNat dH else dH))) w):=by
 obtain⟨m,L0,Zf,_,_,_,_,_,F,L1,hI,hL,rfl⟩:=hZ
 exact Je v w (hH.ahB (hs _ (tQ ..))) (Sl.RN (hH.ok (vh s8 8 F.vv 37 s.aj) (hs _ aF)))
end
section
variable{W0 w:World}{n:Nat}{s:NP}{lg:List (Value×lU)}{tm:List Int}{ids:List Nat}{f:Ct}{tl:List (Nat×Rl)}{b c:Nat}{A R Z:List a7}
theorem aBi(v:Int)(hZ:jA fr W0 n s lg tm ids f tl b c Z){L:List a7}(hH:Hp W0 w L)(hs:∀x,x∈Z->x∈L):Calls Tryz.prog 21 #[pt n,I v] w (Pure (U (if 0<=v/\v<s.a6.length then s.a6.getD v.toNat 0 else 0)) w):=by
 obtain⟨m,L0,Zf,_,_,_,_,_,F,L1,hI,hL,rfl⟩:=hZ
 exact Oe v w (hH.ahB (hs _ (tQ ..))) ((show Sl w F.vy 1 s.a6.length (s.a6.map U)from Sl.RN (hH.ok (jG U F.vy 35 s.a6) (hs _ aF))))
end
section
variable{W0 w:World}{n:Nat}{s:NP}{lg:List (Value×lU)}{tm:List Int}{ids:List Nat}{f:Ct}{tl:List (Nat×Rl)}{b c:Nat}{A R Z:List a7}
theorem aoy(hZ:jA fr W0 n s lg tm ids f tl b c Z){L:List a7}(hH:Hp W0 w L)(hs:∀x,x∈Z->x∈L):Calls Tryz.prog 16 #[pt n] w (Pure (.tuple #[U s.wy,B s.sk]) w):=by
 obtain⟨m,L0,Zf,_,_,_,_,_,F,L1,hI,hL,rfl⟩:=hZ
 exact Jd w (hH.ahB (hs _ (tQ ..)))
end
theorem Am{ids:List Nat}{f:Ct}{Zf:List a7}(p:kE)(x:Value)(QE:gM p=true)(hwr:WrF x ids)(hf:Fe 0 f)(w:World)(hT:oG W0)(hs:E5 (Kw W0) p)(hZ:kp (Ba fr) ids f [] Zf)(hH:Hp W0 w Zf):Calls Tryz.prog 12 #[.agg (Ir p),x] w (jj fun u w'=>∃(n:Nat) (s:NP) (lg:List (Value×lU)) (tm:List Int) (tl:List (Nat×Rl)) (Z:List a7) (c:Nat),u= .tuple #[pt n,B true]/\s4 p s/\xC s/\s.qs=[]/\s.sk=false/\s.wr=x/\(∀y∈s.au,WrD x y.d)/\c<=100/\jA fr W0 n s lg tm ids f tl 0 c Z/\Hp W0 w' Z):=by
 obtain⟨⟨hs1,hs2⟩,hsl,hsv⟩:=vA QE
 have hsm:=ai0 QE
 refine en func12 rfl rfl<|SR<|gV hH (v:= .agg _) rfl<|fun b3 w1 aZ=>va (v:= .pointer none) rfl<|va (v:=B false) rfl<|aa<|SR<|V (run_move (show _=x from O))<|bY O (Of _ hwr.cells _) (an call36 O)<| ?_
 rintro _ Bw ⟨n6,Zn7,rfl,h10,hn9⟩
 obtain⟨Z8,aH2,cJ⟩:=jA.new (A:=[_]) (fr:=fr) hn9 hZ hf (Hp.D4 aZ h10)
 simp only[gf,eC]at cJ
 refine va (v:=Pn _ _) rfl<|aa<|ag<|SR<|V (fA ig 0 O qw O)<|V (cf (hs.au.sl.hp cJ) ku O O (cJ.cell (i:=0) O O))<|V (aA (hs.au.sl.hp cJ) O ku O)<|aE (v:=I 0) rfl<|aa<|ay<|bk (G:=Int×(List pg)×(List a7)) (fun⟨k,ls,Z1⟩ s' w'=>(Fr (4::5::(7::8::(rg 16 13 []))) _ s')/\(Hp W0 w' (_::Z1))/\(s' 16=I k)/\(0<=k)/\(k<=p.au.length)/\(Ng p k.toNat ls)/\(∀y∈ls,WrD x y.d)/\(∃lg tm tl Hj,Z1=Hj++[]/\jA fr W0 n6 (npL ls x) lg tm ids f tl 0 k.toNat Hj)) (fun⟨k,ls,Z1⟩=>(p.au.length-k).toNat) ((0,[],(Z8++[]))) ⟨Fr.refl _ _,cJ,rfl,J,J,⟨aF,fun x hx=>by cases hx⟩,(fun y hy=>by cases hy),⟨_,_,_,_,rfl,aH2⟩⟩<| ?_
 rintro⟨k,ls,Z1⟩ VU Np ⟨kq,cg,Tz,h0,hk,hB,hwd,hS⟩
 obtain⟨AP,kB,auY,auZ⟩:=kq.w4 2 6 14 15
 obtain⟨lg1,KS,Qn,Hj,rfl,N7⟩:=hS
 have hln:=hB.len J
 refine SR<|V (aM Tz auZ)<|aa<|ag<|aD O (fun wc=> ?_) (fun wc=> ?_)
 .refine ak<|ag<|ay<|SR<|aE Tz<|V (ah (hs.au.sl.hp cg) ku BP auY Tz J)<|V (eF (dv:=me) qI (hs.au.sl.hp cg) uI O O O J)<|nu cg (aW VO)<|fun ZI OM dQ=>aI rfl<|bt dQ (i:=0) O (dF (c':=(Mp _).toArray) O O O (Ux (hs.at J J)) (dQ.blk (i:=0) O) O)<|fun OO eO=>aa<|SR<|have hlm:=dh (d:=me) h0 ‹k<_›;aE kB<|V (fA uI 1 O yZ O)<|V (iB (sub:=zv _) dL O O O (eO.blk (i:=0) O) O)<|bY O (aqJ (p.au.getD k.toNat me).zx (hsm _ hlm).1 (hsm _ hlm).2 (by show ls.length<=1000;omega) hwr J J hT ((hs.at h0 ‹k<_›).mono (Le.z _ _)) (A:=[_,_]) (X:=[]) N7 eO) (aN call19 O O)<| ?_
  rintro _ w37 (⟨hno,-⟩|⟨-,x26,aQA,aQB,Z29,aH3,rfl,aH4,aH5,aH6,aQC,aH7,h36⟩)
  .exact absurd hno (by rintro(q|q);cases q;rw[hsl _ hlm]at q;cases q)
  have we:Hp _ w37 (_::_::(Z29++[])):=h36
  refine mI rfl<|V (ke O O)<|aa<|cL (bF ((fun h=>h (by show(ls.length:Int)=k;omega))))<|ak<|aq<|V (ax Tz O J)<|mI rfl<|aa<| ?_
  refine⟨(k+1,ls++[x26],(Z29++[])),aT,kq.u4.u4.u4.u1.u1,(we.sub (sQ sR)),(aJ I aO),J,J,?_,?_,?_⟩
  .exact hB.next h0 ‹k<_› aH3 aH4 aH5
  ·(intro y hy;rcases eI.1 hy with q|q;exact hwd y q;rw[dY.1 q];exact aH6)
  (rw[show(k+1).toNat=k.toNat+1 by omega];exact⟨_,_,_,_,rfl,aH7⟩)
 refine aY (id:=0) rfl<|ag<|SR<|V (fA ig 1 O xk AP)<|V (cf (hs.vars.sl.hp cg) oE O O (cg.cell (i:=0) O O))<|V (aA (hs.vars.sl.hp cg) O oE O)<|aE (v:=I 0) rfl<|aa<|ay<|have hkl:k.toNat=p.au.length:=J;?_
 rw[hkl]at N7
 refine bk (G:=Int×NP×(List a7)) (fun⟨j,s,Z2⟩ s' w'=>(Fr (4::5::(9::10::(rg 32 13 []))) _ s')/\(Hp W0 w' (_::Z2))/\(s' 32=I j)/\(0<=j)/\(j<=p.vars.length)/\(JX p x j.toNat s)/\(∀y∈s.au,WrD x y.d)/\(∃lg tm tl WZ,Z2=WZ++[]/\jA fr W0 n6 s lg tm ids f tl 0 (p.au.length+j.toNat) WZ)) (fun⟨j,s,Z2⟩=>(p.vars.length-j).toNat) ((0,npL ls x,(Hj++[]))) ⟨Fr.refl _ _,cg,rfl,J,J,hB.fin h0 ‹¬k<_›,hwd,⟨_,_,_,_,rfl,N7⟩⟩ ?_
 rintro⟨j,s,Z2⟩ aQD w40 ⟨au0,oy,TA,j0,hj,hI,aBj,hS2⟩
 obtain⟨au1,au2⟩:=au0.w2 30 31
 have aqK:=au0.t1 6 kB
 obtain⟨lg2,tm2,tl2,WZ,rfl,hZ2⟩:=hS2
 have Qi:=hI.nv
 have aH8:=hI.len
 refine SR<|V (aM TA au2)<|aa<|ag<|aD O (fun h42=> ?_) (fun h42=> ?_)
 .refine ak<|ag<|ay<|SR<|aE TA<|V (ah (hs.vars.sl.hp oy) oE Ln au1 TA J)<|V (eF (dv:=gL) ya (hs.vars.sl.hp oy) pG O O O J)<|nu oy (aW Tryz.zeroValue63)<|fun b45 w43 vC=>aI rfl<|bt vC (i:=0) O (dF (c':=(TO _).toArray) O O O X5 (vC.blk (i:=0) O) O)<|fun w48 IZ=>aa<|SR<|have hvl:=(hsv _ (dh (d:=gL) j0 ‹j<_›)).2;?_
  rw[<-aH8]at hvl
  refine aE aqK<|V (fA pG 2 O a8 O)<|lI bf IZ 0 O O rfl<|bY O (akQ (p.vars.getD j.toNat gL).aX hI.nw.ns.ok J J (A:=[_,_]) (R:=[]) hZ2 IZ) (aN call18 O O)<| ?_
  rintro _ w57 (⟨hno,-⟩|⟨-,-,rfl,aQE,Z53,aQF,aH9,Ka⟩)
  .exact absurd ⟨hI.sk,hvl.1,hvl.2⟩ hno
  have vD:Hp _ w57 (_::_::(Z53++[])):=Ka
  refine mI rfl<|V (ke O O)<|aa<|cL (bF ((fun h=>h J)))<|ak<|aq<|V (ax TA O J)<|mI rfl<|aa<| ?_
  refine⟨(j+1,qn s (p.vars.getD j.toNat gL).aX (s.au.getD (p.vars.getD j.toNat gL).aX.toNat o3).low,(Z53++[])),aT,au0.u4.u4.u4.u1.u1,(vD.sub (sQ sR)),(aJ I aO),J,J,?_,?_,?_⟩
  .exact hI.next j0 ‹j<_› hs2 hvl
  .exact aBj
  (rw[show(j+1).toNat=j.toNat+1 by omega,<-yQ];exact⟨_,_,_,_,rfl,aH9⟩)
 refine aY (id:=2) rfl<|SR<|aE aqK<|va (v:=Pn _ _) rfl<|va (v:=B true) rfl<|aa<|ai<|avT O O O ⟨n6,s,_,_,_,_,p.au.length+j.toNat,rfl,hI.fin j0 hj ‹¬j<_›,hI.nw,hI.qs,hI.sk,hI.wr,aBj,J,hZ2,by simpa using(oy.sub (sQ sR))⟩
theorem C2{s:NP}{ids:List Nat}{f:Ct}{tl:List (Nat×Rl)}{b c:Nat}{Z:List a7}(x:gp)(i:Int)(hok:DL s)(kD:x.code.length<=1000)(hi:0<=i/\i<=1000)(hb:b<=70)(hc:c<=1000)(w:World)(hT:oG W0)(hx:JQ (Kw W0) x)(hZ:jA fr W0 n s lg tm ids f tl b c Z)(hH:Hp W0 w Z):Calls Tryz.prog 13 #[pt n,.agg (zy x).toArray,I i] w (jj fun u w'=>∃(ok:Bool) (s':NP) (new:List (Value×lU)) (TI:List Int) (Z':List a7),u=B ok/\OE s s' x i.toNat ok/\iD new s s'/\TmX x.op ok lg tm TI/\jA fr W0 n s' (lg++new) TI ids f tl b (c+1) Z'/\Hp W0 w' Z'):=by
 refine en func13 rfl rfl<|have hH:=(show Hp W0 w (Z++[])by simpa using hH);SR<|gV hH (v:= .agg _) rfl<|fun b3 w1 aZ=>va (v:=B false) rfl<|aa<|SR<|V (fA iE 0 O a8 O)<|lI bf aZ 0 O O rfl<|V (ke O O)<|mB rfl<|bM 10 O (fun h5=> ?_) (fun h5=> ?_)
 .refine aE (v:=B true) rfl<|aB rfl<|aa<|ai<|iY (v:=B true) O O ⟨true,s,[],tm,Z,rfl,⟨fun _=>⟨rfl,rfl⟩,fun q=>absurd q nU⟩,iD.nil s,TmX.no nU,by rw[lY];exact jA.more hZ (er _) (Nat.le_succ _),(by simpa using(aZ.sub (sQ sR)))⟩
 refine aE (v:=Pn _ _) rfl<|V (fA iE 1 O a8 O)<|lI bf aZ 0 O O rfl<|V (fA iE 2 O y8 O)<|V (cf (hx.code.sl.hp aZ) gI O O (aZ.cell (i:=0) O O))<|V (fA iE 3 O pJ O)<|V (iB (sub:=jq _) nO O O O (aZ.blk (i:=0) O) (aaX _))<|mI rfl<|V (ju bf yU O)<|V (FN (a:=1#64) O O)<|bY O (acm x.aX x.cv x.code x.to _ hok kD hb hc hT (A:=[_]) (X:=[]) (hx.code.mono (Le.z _ _)) hZ aZ) (rP call25 O O O O O)<| ?_
 rintro _ Ou ⟨ok8,s9,aIa,aIb,Z12,rfl,aBk,aIc,atP,aId,J6⟩
 have gW:Hp _ Ou (_::(Z12++[])):=J6
 refine mB rfl<|aB rfl<|aa<|ai<|iY (v:=B ok8) O O ⟨ok8,s9,aIa,aIb,Z12,rfl,⟨fun q=>absurd J q,fun _=>by rw[aEl hi]at aBk;exact aBk⟩,aIc,TmX.yes J atP,aId,(by simpa using(gW.sub (sQ sR)))⟩
theorem my(w:World)(hT:oG w):Calls Tryz.prog 11 #[] w (Pure (B true) w):=by
 have hwr:WrF .nilFunc []:= .inl O
 have hZ:=kp.nil (T:=Ba [])
 have hf:=Fe.zero
 obtain⟨-,Sk⟩:=Fs (aEn N_ N_ N_ N_ N_ N_ N_ N_)
 have kD:=aEo N_ N_ N_
 refine eH func11 rfl rfl fun hH=>SR<|va (v:=B false) rfl<|aa<|SR<|bY O (Of _ hwr.cells _) (an call36 (show _=Value.nilFunc from O))<| ?_
 rintro _ GJ ⟨n3,Zn4,rfl,h7,hn6⟩
 obtain⟨Z5,hZ8,iJ⟩:=jA.new (A:=[]) (fr:=[]) hn6 hZ hf (by simpa using Hp.D4 hH h7)
 simp only[gf,eC]at iJ
 refine va (v:=Pn _ _) rfl<|aa<|SR<|aE (v:=Pn _ _) rfl<|xP 2 2 iJ (cA dO O O (sz:=1) (vs:=[.string ⟨#[108,111]⟩,.string ⟨#[104,105]⟩]) O O az az O O)<|fun KR FK cJ=>have cg:Hp _ FK (([a7.blk KR (.cells (Jn vV).toArray 9 (0,0))]++(Z5++[]))):=Hp.Jo (Z:=[a7.blk KR (.cells (Jn vV).toArray 9 (0,0))]) (L:=[]) (L':=(Z5++[])) cJ;have aIe:pN (Kz (Kw w) [a7.blk KR (.cells (Jn vV).toArray 9 (0,0))]) (.slice (some ⟨KR,0,none⟩) 2 2) 1 2 (Jn vV):=F8 (tQ ..) O kU;have cI:=Hp.mh (A:=[]) (B:=[a7.blk KR (.cells (Jn vV).toArray 9 (0,0))]) (R:=Z5) cg;V (dx (vs:=[(0,I 1),(1,.slice (some ⟨KR,0,none⟩) 2 2)]) O (ad8 1 KR 2 vV))<|xP 1 1 cI (zw dA O O O (l:=[_]) O az az O)<|fun ZI OM dQ=>have cS:Hp _ OM (([a7.blk ZI (.cells ([(⟨1,.slice (some ⟨KR,0,none⟩) 2 2,vV,Rl.none⟩:qk)].flatMap rU).toArray 88 (0,0))]++(Z5++([a7.blk KR (.cells (Jn vV).toArray 9 (0,0))]++[])))):=Hp.Jo (Z:=[a7.blk ZI (.cells ([(⟨1,.slice (some ⟨KR,0,none⟩) 2 2,vV,Rl.none⟩:qk)].flatMap rU).toArray 88 (0,0))]) (L:=[]) (L':=(Z5++([a7.blk KR (.cells (Jn vV).toArray 9 (0,0))]++[]))) dQ;have aIf:pN (Kz (Kw w) [a7.blk ZI (.cells ([(⟨1,.slice (some ⟨KR,0,none⟩) 2 2,vV,Rl.none⟩:qk)].flatMap rU).toArray 88 (0,0))]) (.slice (some ⟨ZI,0,none⟩) 1 1) 67 1 ([(⟨1,.slice (some ⟨KR,0,none⟩) 2 2,vV,Rl.none⟩:qk)].flatMap rU):=F8 (tQ ..) (fq fI _) kU;have dm:=Hp.mh (A:=[]) (B:=[a7.blk ZI (.cells ([(⟨1,.slice (some ⟨KR,0,none⟩) 2 2,vV,Rl.none⟩:qk)].flatMap rU).toArray 88 (0,0))]) (R:=Z5) cS;V (dx (vs:=[(1,.slice (some ⟨ZI,0,none⟩) 1 1)]) O (ZC O))<|have hsh:ld (Kz (Kw w) ([a7.blk ZI (.cells ([(⟨1,.slice (some ⟨KR,0,none⟩) 2 2,vV,Rl.none⟩:qk)].flatMap rU).toArray 88 (0,0))]++([a7.blk KR (.cells (Jn vV).toArray 9 (0,0))]++[]))) (⟨false,.slice (some ⟨ZI,0,none⟩) 1 1,[(⟨1,.slice (some ⟨KR,0,none⟩) 2 2,vV,Rl.none⟩:qk)]⟩:kW):=⟨(aIf.mono (Le.zz (fun x hx=>(dy _ hx)))),fun x hx=>by rw[dY.1 hx];exact⟨(aIe.mono (Le.zz (fun x hx=>(bG _ (dy _ hx)))))⟩⟩;bY O (aqJ (⟨false,.slice (some ⟨ZI,0,none⟩) 1 1,[(⟨1,.slice (some ⟨KR,0,none⟩) 2 2,vV,Rl.none⟩:qk)]⟩:kW) (show 1<=1000 by decide) (fun f hf=>by rw[dY.1 hf];exact(by decide:vV.length<=1000)) az hwr J J hT hsh (A:=[]) (X:=([a7.blk ZI (.cells ([(⟨1,.slice (some ⟨KR,0,none⟩) 2 2,vV,Rl.none⟩:qk)].flatMap rU).toArray 88 (0,0))]++([a7.blk KR (.cells (Jn vV).toArray 9 (0,0))]++[]))) hZ8 dm) (aN call19 O O)<| ?_
 rintro _ w36 (⟨hno,-⟩|⟨-,x25,aQJ,aQK,Z28,aIg,rfl,aIh,aIi,auc,aQM,aud,DP⟩)
 .exact absurd hno (by rintro(q|q);cases q;exact absurd (q.symm.trans aEp) az)
 have yw:Hp _ w36 ((Z28++[])):=DP
 refine V (run_assign (show _=I 0 from O))<|aa<|SR<|have hB1:Ng (qR N_ N_ N_ N_) 1 [x25]:=Ng.next (p:=(qR N_ N_ N_ N_)) (k:=0) (ls:=[]) ⟨rfl,fun x hx=>by cases hx⟩ J az aIg aIh aIi;have hI0:=Ng.fin (p:=(qR N_ N_ N_ N_)) (k:=1) (x:= .nilFunc) hB1 J az;aE (v:=Pn _ _) rfl<|mI rfl<|bY O (akQ 0 hI0.nw.ns.ok J J (A:=[]) (R:=[]) aud yw) (aN call18 O O)<| ?_
 rintro _ w45 (⟨hno,-⟩|⟨-,-,rfl,aQO,Z41,aQQ,aIj,h44⟩)
 .exact absurd ⟨hI0.sk,az,(show(0:Int)<((1:Nat):Int)by decide)⟩ hno
 have sx:Hp _ w45 ((Z41++[])):=h44
 have hI1:=JX.next (j:=0) hI0 J az az ⟨az,(show(0:Int)<((1:Nat):Int)by decide)⟩
 refine aE (v:=Pn _ _) rfl<|mI rfl<|bY O (akQ 0 hI1.nw.ns.ok J J (A:=[]) (R:=[]) aIj sx) (aN call18 O O)<| ?_
 rintro _ w54 (⟨hno,-⟩|⟨-,-,rfl,aQR,Z50,aQS,aIk,h53⟩)
 .exact absurd ⟨hI1.sk,az,(show(0:Int)<((1:Nat):Int)by decide)⟩ hno
 have jg:Hp _ w54 ((Z50++[])):=h53
 refine V (run_assign (show _=I 0 from O))<|V (run_assign (show _=I 1 from O))<|aa<|SR<|have O3:=JX.next (j:=1) hI1 J az az ⟨az,(show(0:Int)<((1:Nat):Int)by decide)⟩;have hL0:=vZ.start (l:=(AH N_ N_ N_)) (JX.fin (j:=2) O3 J az az) O3.nw O3.qs;aE (v:=Pn _ _) rfl<|mI rfl<|V (dx (vs:=[(0,U 1#64)]) O (Qq _))<|V (dx (vs:=[(0,I 2),(2,.agg (jv wR))]) O (aae 2 wR))<|xP 1 1 jg (n7 gj gI O O O (l:=[_]) O az az O)<|fun b58 w56 aao=>have Bm:Hp _ w56 (([a7.blk b58 (.cells ([⟨2,0,wR⟩].flatMap j6).toArray 90 (0,0))]++(Z50++[]))):=Hp.Jo (Z:=[a7.blk b58 (.cells ([⟨2,0,wR⟩].flatMap j6).toArray 90 (0,0))]) (L:=[]) (L':=(Z50++[])) aao;have aIl:pN (Kz (Kw w) [a7.blk b58 (.cells ([⟨2,0,wR⟩].flatMap j6).toArray 90 (0,0))]) (.slice (some ⟨b58,0,none⟩) 1 1) 10 1 ([⟨2,0,wR⟩].flatMap j6):=F8 (tQ ..) (fq gj _) kU;have Ag:=Hp.mh (A:=[]) (B:=[a7.blk b58 (.cells ([⟨2,0,wR⟩].flatMap j6).toArray 90 (0,0))]) (R:=Z50) Bm;mI rfl<|V (dx (vs:=[(0,I 0)]) O (CX 0))<|bY O (acm 0 _ [⟨2,0,wR⟩] ⟨0,dH⟩ 1#64 O3.nw.ns.ok az J J hT (A:=[]) (X:=([a7.blk b58 (.cells ([⟨2,0,wR⟩].flatMap j6).toArray 90 (0,0))]++[])) (aIl.mono (Le.zz (fun x hx=>(dy _ hx)))) aIk Ag) (rP call25 O O O O (show _=U 1#64 from O))<| ?_
 rintro _ w74 ⟨aIm,s65,aQV,aQW,Z68,rfl,aIn,aQX,aQY,aom,h73⟩
 have GY:Hp _ w74 ((Z68++[])):=h73
 refine aB rfl<|aa<|SR<|have hX0:OE _ s65 ((AH N_ N_ N_).getD 0 fU) 0 aIm:=⟨fun q=>absurd O q,fun _=>aIn⟩;?_
 obtain⟨aIo,hL1,aIp,-⟩:=vZ.add hL0 az az Sk kD O3.sk hX0
 subst aIo
 refine aE (v:=Pn _ _) rfl<|mI rfl<|mI rfl<|V (dx (vs:=[(0,I 1),(1,I 0)]) O (N4 1 0))<|xP 1 1 GY (n7 gj gI O O O (l:=[_]) O az az O)<|fun b79 w77 Kb=>have tK:Hp _ w77 (([a7.blk b79 (.cells ([⟨1,0,dH⟩].flatMap j6).toArray 90 (0,0))]++(Z68++[]))):=Hp.Jo (Z:=[a7.blk b79 (.cells ([⟨1,0,dH⟩].flatMap j6).toArray 90 (0,0))]) (L:=[]) (L':=(Z68++[])) Kb;have aIq:pN (Kz (Kw w) [a7.blk b79 (.cells ([⟨1,0,dH⟩].flatMap j6).toArray 90 (0,0))]) (.slice (some ⟨b79,0,none⟩) 1 1) 10 1 ([⟨1,0,dH⟩].flatMap j6):=F8 (tQ ..) (fq gj _) kU;have tM:=Hp.mh (A:=[]) (B:=[a7.blk b79 (.cells ([⟨1,0,dH⟩].flatMap j6).toArray 90 (0,0))]) (R:=Z68) tK;mI rfl<|V (dx (vs:=[(0,I 1)]) O (CX 1))<|bY O (acm 0 _ [⟨1,0,dH⟩] ⟨1,dH⟩ 2#64 hL1.nw.ns.ok az J J hT (A:=[]) (X:=([a7.blk b79 (.cells ([⟨1,0,dH⟩].flatMap j6).toArray 90 (0,0))]++[])) (aIq.mono (Le.zz (fun x hx=>(dy _ hx)))) aom tM) (rP call25 O O O O (show _=U 2#64 from O))<| ?_
 rintro _ w95 ⟨aIr,s86,aQ2,aQ3,Z89,rfl,aIs,aQ5,aQ6,aIt,h94⟩
 have vG:Hp _ w95 ((Z89++[])):=h94
 refine aB rfl<|aa<|SR<|have hX1:OE s65 s86 ((AH N_ N_ N_).getD 1 fU) 1 aIr:=⟨fun q=>absurd O q,fun _=>aIs⟩;?_
 obtain⟨aak,hL2,aIu,-⟩:=vZ.add hL1 az az Sk kD aIp hX1
 subst aak
 refine aE (v:=Pn _ _) rfl<|bY O (He hT hL2.nw J J (A:=[]) (R:=[]) aIt vG) (an call15 O)<| ?_
 rintro _ aIv ⟨aBl,aeG,aLj,f103,aQ9,aRa,aoz,rfl,aBm,aLk,aLl,aLm,aLn,akR,aup⟩
 have JD:Hp _ aIv ((aoz++[])):=aup
 have hP1:=vZ.set hL2 az (aBm.go aIu)
 have aIw:aBl=true:=hP1.is.2 asN
 subst aIw
 have PU:aeG.aj.length=2:=hP1.net.np.nv
 have hy2:aeG.a6.length=2:=hP1.net.nw.ns.ok.TG.trans PU
 have hv1:rC (aeG.aj.getD 1 dH) wR:=anr (hP1.low O) (hP1.all O)
 have hy1:aeG.a6.getD 1 0&&&3#64=3#64:=axv (x:=vQ aeG.aj) hv1 (hP1.why O 1 az)
 refine mB rfl<|bZ O rfl<|aE (v:=Pn _ _) rfl<|mI rfl<|aG O JD (aox _ akR JD (fun x hx=>(dy _ hx))) (aN call23 O O)<|fun aor yB=>V (dx (vs:=[(0,U 1#64)]) O (Qq _))<|V (Il GG O O)<|mB rfl<|mB rfl<|bZ O (bT ((by rw[(aS (show(0:Int)<=1/\(1:Int)<_ from⟨J,J⟩))];exact hv1)))<|aE (v:=Pn _ _) rfl<|mI rfl<|aG O yB (aBi _ akR yB (fun x hx=>(dy _ hx))) (aN call21 O O)<|fun aRc aBn=>V (lH O (b:=3#64) O)<|V (iZ O (b:=3#64) O)<|mB rfl<|aB rfl<|aa<|SR<|aE (v:=Pn _ _) rfl<|mI rfl<|mI rfl<|V (dx (vs:=[(0,I 1),(1,I 1)]) O (N4 1 1))<|xP 1 1 aBn (n7 gj gI O O O (l:=[_]) O az az O)<|fun aeH aBb rG=>have aBo:Hp _ aBb (([a7.blk aeH (.cells ([⟨1,1,dH⟩].flatMap j6).toArray 90 (0,0))]++(aoz++[]))):=Hp.Jo (Z:=[a7.blk aeH (.cells ([⟨1,1,dH⟩].flatMap j6).toArray 90 (0,0))]) (L:=[]) (L':=(aoz++[])) rG;have akM:pN (Kz (Kw w) [a7.blk aeH (.cells ([⟨1,1,dH⟩].flatMap j6).toArray 90 (0,0))]) (.slice (some ⟨aeH,0,none⟩) 1 1) 10 1 ([⟨1,1,dH⟩].flatMap j6):=F8 (tQ ..) (fq gj _) kU;have akN:=Hp.mh (A:=[]) (B:=[a7.blk aeH (.cells ([⟨1,1,dH⟩].flatMap j6).toArray 90 (0,0))]) (R:=aoz) aBo;V (dx (vs:=[(0,I (-1))]) O (CX (-1)))<|bY O (acm 0 _ [⟨1,1,dH⟩] ⟨-1,dH⟩ 4#64 hP1.net.nw.ns.ok az J J hT (A:=[]) (X:=([a7.blk aeH (.cells ([⟨1,1,dH⟩].flatMap j6).toArray 90 (0,0))]++[])) (akM.mono (Le.zz (fun x hx=>(dy _ hx)))) akR akN) (rP call25 O O O O (show _=U 4#64 from O))<| ?_
 rintro _ aoo ⟨aBp,aIx,aLp,aLq,aIy,rfl,aBq,aLr,aLs,aBr,aIz⟩
 have pz:Hp _ aoo ((aIy++[])):=aIz
 refine aB rfl<|aa<|SR<|have hX2:OE aeG aIx ((AH N_ N_ N_).getD 2 fU) 2 aBp:=⟨fun q=>absurd O q,fun _=>aBq⟩;?_
 obtain⟨VZ,hL3,aIA,-⟩:=vZ.add hP1.net az az Sk kD hP1.sk hX2
 subst VZ
 refine aE (v:=Pn _ _) rfl<|bY O (He hT hL3.nw J J (A:=[]) (R:=[]) aBr pz) (an call15 O)<| ?_
 rintro _ aIB ⟨aqL,aRe,aLu,f149,aRf,aRg,aIC,rfl,aBs,aLv,aLw,aLx,aLy,aBt,aID⟩
 have aqM:Hp _ aIB ((aIC++[])):=aID
 refine aB rfl<|aa<|SR<|have hP2:=vZ.set hL3 az (aBs.go aIA);have aIF:aqL=false:=(by cases h:aqL;rfl;exact absurd (hP2.is.1 h) axw);?_
 subst aIF
 refine aE (v:=Pn _ _) rfl<|aG O aqM (aoy aBt aqM (fun x hx=>(dy _ hx))) (an call16 O)<|fun aHZ ack=> ?_
 refine V (run_move bC) ?_
 refine V (bx O (v:=U _) O)<|V (bx O (v:=B _) O)<|aU rfl<|aB rfl<|aa<|SR<|mB rfl<|mB rfl<|bZ O rfl<|mB rfl<|mB rfl<|mB rfl<|bZ O rfl<|mB rfl<|mB rfl<|mB rfl<|bZ O (bT ((by rw[(aS (show(0:Int)<=1/\(1:Int)<_ from⟨J,J⟩))];exact hy1)))<|mB rfl<|mB rfl<|mB rfl<|bZ O rfl<|mB rfl<|V (bO O)<|mB rfl<|mB rfl<|bZ O rfl<|mB rfl<|mB rfl<|mB rfl<|bZ O (bR (c:=true) (hP2.sk))<|mU rfl<|V (lH O (b:=7#64) O)<|V (iZ O (b:=7#64) O)<|mB rfl<|aB rfl<|aa<|ai<|oB O ?_ ack
 exact gQ (ans (hP2.no O))
theorem An(p:l6)(w:World)(hp:wI (Kw w) p):Calls Tryz.prog 10 #[.agg (D6 p).toArray] w (Pure (B (kY p)) w):=by
 have xT:=hp.bu.small
 unfold maxLen at xT
 refine eH func10 rfl rfl fun hH=>SR<|gV hH (v:= .agg _) rfl<|fun b3 w1 aZ=>va (v:=B false) rfl<|aa<|ag<|SR<|V (fA kC 0 O BR O)<|V (iB (sub:=Cf _) ig O O O (aZ.blk (i:=0) O) (Dq _))<|aG O aZ (Ad _ _ (hp.s.mono aZ.kw)) (an call34 O)<|fun w4 bP=>V (bO O)<|mB rfl<|fO 8 O (fun h8=> ?_) (fun h8=> ?_)
 .refine aE (v:=B true) rfl<|aa<|cC rfl<|SR<|va (v:=B false) rfl<|aa<|ai<|oB O ?_ bP
  (rw[ahe (nt ‹(!gM p.s)=true›)];done)
 refine V (fA kC 2 O tC O)<|V (cf (hp.bu.sl.hp bP) mD O O (bP.cell (i:=0) O O))<|V (aA (hp.bu.sl.hp bP) O mD O)<|V (cD O O)<|mB rfl<|aa<|aD O (fun h10=> ?_) (fun h10=> ?_)
 .refine SR<|va (v:=B false) rfl<|aa<|ai<|oB O ?_ bP
  (rw[ahf J];done)
 refine ak<|ag<|SR<|va (v:=I 0) rfl<|aa<|ay<|have hsz:¬64<p.bu.length:=J;bk (G:=Int) (fun k s' w'=>(Fr (2::3::(rg 14 16 [])) _ s')/\(Hp w w' _)/\(s' 3=I k)/\(0<=k)/\(k<=p.bu.length)/\(∀j:Int,0<=j->j<k->jr p.s (p.bu.getD j.toNat fU)=true)) (fun k=>(p.bu.length-k).toNat) (0) ⟨Fr.refl _ _,bP,rfl,J,J,fun j a b=>absurd b J⟩<| ?_
 rintro k axH FK ⟨S0,dJ,Qw,h0,hk,hg⟩
 have akS:=S0.w1 1
 refine ag<|SR<|aE Qw<|V (fA kC 2 O tC akS)<|V (cf (hp.bu.sl.hp dJ) mD O O (dJ.cell (i:=0) O O))<|V (aA (hp.bu.sl.hp dJ) O mD O)<|V (aM O O)<|aa<|aD O (fun OK=> ?_) (fun OK=> ?_)
 .refine ak<|ag<|ay<|ag<|ed aP dJ<|fun Np fp=>have yE:=fp;AQ 0 O yE (fA kC 0 O BR akS)<|AT 1 O yE (fun w hS=>iB (sub:=Cf _) ig O O O (hS.blk (i:=0) O) (Dq _))<|AQ 2 O yE (fA kC 2 O tC akS)<|AT 3 O yE (fun w hS=>cf (hp.bu.sl.hp hS) mD O O (hS.cell (i:=0) O O))<|AQ 4 O yE (run_move Qw)<|AT 5 O yE (fun w hS=>ah (hp.bu.sl.hp hS) mD HF O O J)<|AT 6 O yE (fun w hS=>eF (dv:=fU) yc (hp.bu.sl.hp hS) iE O O O J)<|A1 7<|bX O aH O fp sR (Af _ _ _ (hp.s.mono fp.kw) ((hp.at J J).mono fp.kw)) (aN call35 O O)<|fun J5 dS=>AQ 8 O dS (bO O)<|AD<|bW O (fun KP=> ?_) (fun KP=> ?_)
  .refine SR<|va (v:=B false) rfl<|aa<|ai<|oB O ?_ dS
   (rw[ahg h0 ‹k<_› (nt ‹(!jr p.s _)=true›)];done)
  refine ak<|aq<|aE Qw<|V (ax O O J)<|aI rfl<|aa<| ?_
  refine⟨k+1,aT,S0.u4.u4.u4.u4.u1,dS,(aJ I aO),J,J,?_⟩
  exact fun j u v=>if e:j=k then e▸nf ‹(!jr _ _)=false›else hg j u J
 refine aY (id:=0) rfl<|SR<|va (v:=B true) rfl<|aa<|ai<|oB O ?_ dJ
 (rw[ahh (nf ‹(!gM p.s)=false›) J ‹¬k<_› hg];done)
theorem Bs(x:gp)(w:World)(hx:JQ (Kw w) x):Calls Tryz.prog 33 #[.agg (zy x).toArray] w (Pure (B (wK x)) w):=by
 have xT:=hx.code.small
 have Ol:=hx.a.fields.small
 have hm3:=hx.b.fields.small
 unfold maxLen at xT Ol hm3
 refine eH func33 rfl rfl fun hH=>SR<|gV hH (v:= .agg _) rfl<|fun b3 w1 aZ=>va (v:=B false) rfl<|aa<|ag<|SR<|V (fA iE 2 O y8 O)<|V (cf (hx.code.sl.hp aZ) gI O O (aZ.cell (i:=0) O O))<|V (aA (hx.code.sl.hp aZ) O gI O)<|V (cD O O)<|mB rfl<|bM 9 O (fun h5=> ?_) (fun h5=> ?_)
 .refine aE (v:=B true) rfl<|mB rfl<|bZ O rfl<|aE (v:=B true) rfl<|mB rfl<|bZ O rfl<|aE (v:=B true) rfl<|aa<|cC rfl<|SR<|va (v:=B true) rfl<|aa<|ai<|oB O ?_ aZ
  exact(Dt J).symm
 refine V (fA iE 12 O HE O)<|V (fA pH 0 O uK O)<|V (cf (hx.a.fields.sl.hp aZ) mC O O (aZ.cell (i:=0) O O))<|V (aA (hx.a.fields.sl.hp aZ) O mC O)<|V (cD O O)<|mB rfl<|mB rfl<|bM 16 O (fun h7=> ?_) (fun h7=> ?_)
 .refine aE (v:=B true) rfl<|mB rfl<|bZ O rfl<|aE (v:=B true) rfl<|aa<|cC rfl<|SR<|va (v:=B true) rfl<|aa<|ai<|oB O ?_ aZ
  exact(Dt J).symm
 refine V (fA iE 14 O HE O)<|V (fA pH 0 O uK O)<|V (cf (hx.b.fields.sl.hp aZ) mC O O (aZ.cell (i:=0) O O))<|V (aA (hx.b.fields.sl.hp aZ) O mC O)<|V (cD O O)<|mB rfl<|mB rfl<|bM 23 O (fun h9=> ?_) (fun h9=> ?_)
 .refine aE (v:=B true) rfl<|aa<|cC rfl<|SR<|va (v:=B true) rfl<|aa<|ai<|oB O ?_ aZ
  exact(Dt J).symm
 refine V (fA iE 17 O jX O)<|V (aC ic O O (aZ.cell (i:=0) O (v:= .string _) O))<|V (kV O ic O)<|V (cD O O)<|mB rfl<|aa<|aD O (fun h11=> ?_) (fun h11=> ?_)
 .refine SR<|va (v:=B true) rfl<|aa<|ai<|oB O ?_ aZ
  exact(Dt J).symm
 refine ak<|ag<|ag<|ed aP aZ<|fun Bv cm=>have aas:=cm;AQ 1 O aas (fA iE 12 O HE O)<|AQ 2 O aas (fA pH 0 O uK O)<|AT 3 O aas (fun w hS=>cf (hx.a.fields.sl.hp hS) mC O O (hS.cell (i:=0) O O))<|AQ 5 O aas (fA iE 14 O HE O)<|AQ 6 O aas (fA pH 0 O uK O)<|AT 7 O aas (fun w hS=>cf (hx.b.fields.sl.hp hS) mC O O (hS.cell (i:=0) O O))<|AQ 10 O aas (mV (I 0) O)<|A1 0<|cK O aH O cm sR (f:=fun b=> .slice (some ⟨b,0,none⟩) 0 0) (Kr mC HC)<|fun b16 Np fp=> ?_
 (try simp only[o4]at fp)
 have dS:=fp.EV 0 10 O az
 refine A1 4<|lJ O aH O dS (j:=0) O (fun _=>(sQ sR)) (hx.a.fields.sl.hp dS) O O mC O O (size:=10) (bytes:=88) O O O az (MF _) (by show(0+_)*_<=_;omega) (by show 0+_<=_;simp only[maxLen];omega)<|fun v20 Ou gW=>A1 8<|lJ O aH O gW (j:=0) O (fun _=>(sQ sR)) (hx.b.fields.sl.hp gW) O O mC O O (size:=10) (bytes:=88) O O O az (MF _) (by show(_+_)*_<=_;omega) (by show _+_<=_;simp only[maxLen];omega)<|fun v23 Qu dm=>A1 9<|cr O aH O dm (sQ sR) (aA (dm.sl (i:=0) O) O mC O)<|AD<|ay<|have hap:(x.a.fields++x.b.fields).length=x.a.fields.length+x.b.fields.length:=cZ;?_
 simp only[ia,eC,<-Ew,<-cZ]at dm
 refine bk (G:=Int) (fun k s' w'=>(Fr (2::(4::(rg 39 9 []))) _ s')/\(Hp w w' _)/\(s' 39=I k)/\(0<=k)/\(k<=(x.a.fields++x.b.fields).length)/\(∀j:Int,0<=j->j<k->decide (40<((x.a.fields++x.b.fields).getD j.toNat mZ).name.size)=false)) (fun k=>((x.a.fields++x.b.fields).length-k).toNat) (0) ⟨Fr.refl _ _,dm,rfl,J,J,fun j a b=>absurd b J⟩ ?_
 rintro k aEF V6 ⟨ajF,kG,aat,h0,hk,hg⟩
 obtain⟨au3,au4⟩:=ajF.w2 37 38
 refine SR<|V (aM aat au4)<|aa<|ag<|aD O (fun h28=> ?_) (fun h28=> ?_)
 .refine ak<|ag<|ay<|SR<|V (ah (kG.sl (i:=0) O) mC HC au3 aat J)<|V (eF (dv:=mZ) rZ (kG.sl (i:=0) O) HA O O O J)<|nu kG (aW ZE)<|fun b31 w29 jf=>bt jf (i:=0) O (dF (c':=(tF _).toArray) O O O (My _) (jf.blk (i:=0) O) O)<|fun w32 jT=>aa<|SR<|V (fA HA 0 O jX O)<|V (aC ic O O (jT.cell (i:=0) O (v:= .string _) O))<|V (kV O ic O)<|V (cD O O)<|aa<|aD O (fun DP=> ?_) (fun DP=> ?_)
  .refine SR<|va (v:=B true) rfl<|aa<|ai<|oB O ?_ jT
   exact(adx O h0 J J).symm
  refine ak<|aq<|V (ax aat O J)<|mI rfl<|aa<| ?_
  refine⟨k+1,aT,ajF.u4.u4.u1.u1,(jT.sub (sQ sR)),(aJ I aO),J,J,?_⟩
  exact fun j u v=>if e:j=k then e▸gO (by omega)else hg j u J
 refine aY (id:=0) rfl<|SR<|va (v:=B false) rfl<|aa<|ai<|oB O ?_ kG
 exact(amt O J J hg).symm
theorem C3(p:l6)(w:World)(hp:wI (Kw w) p):Calls Tryz.prog 9 #[.agg (D6 p).toArray] w (Pure (B (Oy p)) w):=by
 have xT:=hp.bu.small
 unfold maxLen at xT
 refine eH func9 rfl rfl fun hH=>SR<|gV hH (v:= .agg _) rfl<|fun b3 w1 aZ=>va (v:=B false) rfl<|aa<|ag<|SR<|V (fA kC 0 O BR O)<|V (iB (sub:=Cf _) ig O O O (aZ.blk (i:=0) O) (Dq _))<|aG O aZ (CM _ _ (hp.s.mono aZ.kw)) (an call32 O)<|fun w4 bP=>mB rfl<|fO 8 O (fun h7=> ?_) (fun h7=> ?_)
 .refine aE (v:=B true) rfl<|aa<|cC rfl<|SR<|va (v:=B true) rfl<|aa<|ai<|oB O ?_ bP
  exact(PS (.inl aK)).symm
 refine V (fA kC 2 O tC O)<|V (cf (hp.bu.sl.hp bP) mD O O (bP.cell (i:=0) O O))<|V (aA (hp.bu.sl.hp bP) O mD O)<|V (cD O O)<|mB rfl<|aa<|aD O (fun h9=> ?_) (fun h9=> ?_)
 .refine SR<|va (v:=B true) rfl<|aa<|ai<|oB O ?_ bP
  exact(PS (.inr J)).symm
 refine ak<|ag<|SR<|V (fA kC 2 O tC O)<|V (cf (hp.bu.sl.hp bP) mD O O (bP.cell (i:=0) O O))<|V (aA (hp.bu.sl.hp bP) O mD O)<|aE (v:=I 0) rfl<|aa<|ay<|bk (G:=Int) (fun k s' w'=>(Fr (2::(4::(rg 17 7 []))) _ s')/\(Hp w w' _)/\(s' 17=I k)/\(0<=k)/\(k<=p.bu.length)/\(∀j:Int,0<=j->j<k->wK (p.bu.getD j.toNat fU)=false)) (fun k=>(p.bu.length-k).toNat) (0) ⟨Fr.refl _ _,bP,rfl,J,J,fun j a b=>absurd b J⟩<| ?_
 rintro k ZQ GJ ⟨sw,bV,aau,h0,hk,hg⟩
 obtain⟨au5,au6⟩:=sw.w2 15 16
 refine SR<|V (aM aau au6)<|aa<|ag<|aD O (fun h12=> ?_) (fun h12=> ?_)
 .refine ak<|ag<|ay<|SR<|V (ah (hp.bu.sl.hp bV) mD HF au5 aau J)<|V (eF (dv:=fU) yc (hp.bu.sl.hp bV) iE O O O J)<|nu bV (aW VP)<|fun b15 Bw cg=>bt cg (i:=0) O (dF (c':=(zy _).toArray) O O O (UH (hp.at J J)) (cg.blk (i:=0) O) O)<|fun J5 dS=>aa<|SR<|V (cM (cs:=zy _) iE O O O (bp (dS.blk (i:=0) O)))<|aG O dS (Bs _ _ ((hp.at J J).mono dS.kw)) (an call33 O)<|fun Ou gW=>aa<|bW O (fun NA=> ?_) (fun NA=> ?_)
  .refine SR<|va (v:=B true) rfl<|aa<|ai<|oB O ?_ gW
   exact(ady h0 ‹k<_› aK).symm
  refine ak<|aq<|V (ax aau O J)<|mI rfl<|aa<| ?_
  refine⟨k+1,aT,sw.u4.u4,(gW.sub (sQ sR)),(aJ I aO),J,J,?_⟩
  exact fun j u v=>if e:j=k then e▸‹wK _=false›else hg j u J
 refine aY (id:=0) rfl<|SR<|va (v:=B false) rfl<|aa<|ai<|oB O ?_ bV
 exact(aho aK J ‹¬k<_› hg).symm
section
variable{W0 w:World}{n:Nat}{s:NP}{lg:List (Value×lU)}{tm:List Int}{ids:List Nat}{f:Ct}{tl:List (Nat×Rl)}{b c:Nat}{A R Z fr:List a7}
theorem aBu(x:gp)(i:Int)(hok:DL s)(kD:x.code.length<=1000)(hi:0<=i/\i<=1000)(hb:b<=70)(hc:c<=1000)(hT:oG W0)(hx:JQ (Kw W0) x)(hZ:jA fr W0 n s lg tm ids f tl b c Z)(hH:Hp W0 w (A++(Z++R))):Calls Tryz.prog 13 #[pt n,.agg (zy x).toArray,I i] w (jj fun u w'=>∃(ok:Bool) (s':NP) (new:List (Value×lU)) (TI:List Int) (Z':List a7),u=B ok/\OE s s' x i.toNat ok/\iD new s s'/\TmX x.op ok lg tm TI/\jA fr W0 n s' (lg++new) TI ids f tl b (c+1) Z'/\Hp W0 w' (A++(Z'++R))):=by
 obtain⟨Z2,hM,aZ⟩:=hZ.at9 hH
 refine(C2 x i hok kD hi hb hc w hT hx hM aZ).mono fun e w' hr=>jj.mono ?_ hr
 rintro u w' ⟨ok,s',new,TI,Z3,rfl,h1,h2,h3,h4,h5⟩
 obtain⟨Zo,ho,hh⟩:=jA.out h4 h5
 exact⟨ok,s',new,TI,Zo,rfl,h1,h2,h3,ho,hh⟩
end
section
variable{W0 w:World}{n:Nat}{s:NP}{lg:List (Value×lU)}{tm:List Int}{ids:List Nat}{f:Ct}{tl:List (Nat×Rl)}{b c:Nat}{A R Z fr:List a7}
end
end
section
open Go Go.RowKit Go.Proofs.YtlhjdflgjbkpmaaGreatDoor.E Go.Proofs.YtlhjdflgjbkpmaaGreatDoor.M
set_option maxRecDepth 100000
open Go.Proofs.Tryz
variable{fr:List a7}
variable{W0 w:World}{n m:Nat}{cs:List (List Nat)}{wr:Value}{vL:Value}{vt:Value}{vv:Value}{vy:Value}{vu:Value}{vq:Value}{sn:Int}{vW:Value}{vU:Value}{vT:Value}{cn:Int}{sk:Bool}{wy:BitVec 64}{vd:Value}{vm:Value}{cW:Option (Nat×Array Value)}{cU:Option (Nat×Array Value)}{W:List (BitVec 64)}{ul:List (Value×jD)}{ts:List Int}{au:List pg}{aX:List Int}{aj:List El}{a6:List (BitVec 64)}{us:List jM}{qs:List dw}{lg:List (Value×lU)}{tm:List Int}{L:List a7}
theorem Bt(v:Value)(l:List dz)(hl:l.length<=1000)(w:World)(hs:Sl w v 10 l.length (l.flatMap j6)):Calls Tryz.prog 70 #[v] w (qB 3 1 (bS l).length ((bS l).map I) w):=by
 have hm:=hs.small
 unfold maxLen at hm
 have hvl:=DA l
 refine eH func70 rfl rfl fun hH=>SR<|va (v:= .slice none 0 0) rfl<|aa<|SR<|va (v:= .slice none 0 0) rfl<|have iI:=hH.fx 3 1;aa<|ag<|ay<|bk (G:=Nat×(List Int)×Value) (fun⟨j,m,v3⟩ s' w'=>(Fr (rg 2 54 []) _ s')/\(Hp w w' (.row v3 3 1 (m.length) (m.map I)::_))/\(s' 3=v3)/\(j<=(bS l).length)/\(m=(bS l).take j)/\(m.length=j)) (fun⟨j,m,v3⟩=>(bS l).length-j) ((0,[],(.slice none 0 0:Value))) ⟨Fr.refl _ _,iI,rfl,J,rfl,rfl⟩<| ?_
 rintro⟨j,m,v3⟩ sg2 w2 ⟨PD,aZ,J0,hj,hmj,hml⟩
 have anJ:=PD.w1 0
 refine ag<|SR<|aE J0<|V (aA (aZ.sl (i:=0) O) O bz O)<|aE anJ<|V (aA (hs.hp aZ) O gI O)<|V (uk O O)<|aa<|aD O (fun h4=> ?_) (fun h4=> ?_)
 .refine ak<|ay<|SR<|va (v:=I (-1)) rfl<|aa<|ag<|SR<|va (v:=I 0) rfl<|aa<|ay<|bk (G:=Int) (fun i s' w'=>(Fr (rg 4 3 (rg 12 37 [])) _ s')/\(Hp w w' _)/\(s' 4=I (nxV l m i.toNat))/\(s' 5=I i)/\(0<=i)/\(i<=l.length)) (fun i=>(l.length-i).toNat) (0) ⟨Fr.refl _ _,aZ,rfl,rfl,J,J⟩<| ?_
  rintro i sg5 w5 ⟨OI,bP,WK,DM,h0,hi⟩
  obtain⟨Nn,aew⟩:=OI.t2 0 anJ 3 J0
  refine ag<|SR<|aE DM<|aE Nn<|V (aA (hs.hp bP) O gI O)<|V (aM O O)<|aa<|aD O (fun h7=> ?_) (fun h7=> ?_)
  .refine ak<|ag<|ay<|SR<|aE Nn<|aE DM<|V (ah (hs.hp bP) gI nR O O J)<|V (fA eD 1 O a8 O)<|V (fQ (dv:=cB) (off:=1) gj (hs.hp bP) bf O O J O)<|aI rfl<|aa<|SR<|aE Nn<|aE DM<|V (ah (hs.hp bP) gI nR O O J)<|V (fA eD 0 O a8 O)<|V (fQ (dv:=cB) (off:=0) gj (hs.hp bP) bf O O J O)<|V (bN O O)<|mB rfl<|bM 29 O (fun h9=> ?_) (fun h9=> ?_)
   .refine mI rfl<|V (dD O O)<|mB rfl<|mB rfl<|bM 33 O (fun h11=> ?_) (fun h11=> ?_)
    .refine aE aew<|mI rfl<|aG O bP (uh _ _ _ _ (bP.sl (i:=0) O)) (aN call110 O O)<|fun Bv cm=>V (bO O)<|mB rfl<|mB rfl<|fO 39 O (fun wc=> ?_) (fun wc=> ?_)
     .refine aE WK<|V (aM O O)<|mB rfl<|bM 42 O (fun pS=> ?_) (fun pS=> ?_)
      .refine aE (v:=B true) rfl<|mB rfl<|aa<|cC rfl<|aq<|mI rfl<|aI rfl<|aa<|aq<|aE DM<|V (ax O O J)<|aI rfl<|aa<| ?_
       refine⟨i+1,aT,OI.u4.u4.u4.u4.u4.u4.u4.u4.u4.u4,cm,(aJ I Ar),(aJ I Ar),J,J⟩
      refine mI rfl<|aE WK<|V (aM O O)<|mB rfl<|mB rfl<|aa<|aD O (fun KP=> ?_) (fun KP=> ?_)
      .refine aq<|mI rfl<|aI rfl<|aa<|aq<|aE DM<|V (ax O O J)<|aI rfl<|aa<| ?_
       refine⟨i+1,aT,OI.u4.u4.u4.u4.u4.u4.u4.u4.u4.u4,cm,(aJ I Ar),(aJ I Ar),J,J⟩
      refine ak<|aq<|aE DM<|V (ax O O J)<|aI rfl<|aa<| ?_
      refine⟨i+1,aT,OI.u4.u4.u4.u4.u4.u4.u4.u4.u4.u1.u1,cm,(WK.trans (aJ I Ar)),(aJ I Ar),J,J⟩
     refine eV O O rfl<|eV O O rfl<|eV O O rfl<|uQ<|aE (v:=B false) rfl<|aa<|cL rfl<|ak<|aq<|aE DM<|V (ax O O J)<|aI rfl<|aa<| ?_
     refine⟨i+1,aT,OI.u4.u4.u4.u4.u4.u4.u4.u4.u4.u1.u1,cm,(WK.trans (aJ I Ar)),(aJ I Ar),J,J⟩
    refine aE (v:=B false) rfl<|mB rfl<|bZ O rfl<|eV O O rfl<|eV O O rfl<|eV O O rfl<|uQ<|aE (v:=B false) rfl<|aa<|cL rfl<|ak<|aq<|aE DM<|V (ax O O J)<|aI rfl<|aa<| ?_
    refine⟨i+1,aT,OI.u4.u4.u4.u4.u4.u4.u4.u4.u4.u1.u1,bP,(WK.trans (aJ I Ar)),(aJ I Ar),J,J⟩
   refine aE (v:=B false) rfl<|mB rfl<|bZ O rfl<|aE (v:=B false) rfl<|mB rfl<|bZ O rfl<|eV O O rfl<|eV O O rfl<|eV O O rfl<|uQ<|aE (v:=B false) rfl<|aa<|cL rfl<|ak<|aq<|aE DM<|V (ax O O J)<|aI rfl<|aa<| ?_
   refine⟨i+1,aT,OI.u4.u4.u4.u4.u4.u4.u4.u4.u4.u1.u1,bP,(WK.trans (aJ I Ar)),(aJ I Ar),J,J⟩
  refine aY (id:=2) rfl<|ag<|SR<|aE WK<|V (aM O O)<|aa<|aD O (fun h22=> ?_) (fun h22=> ?_)
  .refine SR<|aE aew<| ?_
   refine V (run_assign bC) ?_
   refine aa<|ai<|JM O O bP (i:=0) O (Rv) (Rv)
  refine ak<|aq<|aE aew<|aE WK<|xP 1 1 bP (cA bz O O (sz:=1) (vs:=[I _]) O O az az O O)<|fun b25 w23 mK=> ?_
  (try simp only[o4]at mK)
  refine jI O mK (i:=1) O (mK.dV (i:=0) (n:=1) (sz:=1) O O az) O O bz O O (size:=1) (bytes:=8) O O O az iF J gC<|fun v26 w27 gk=> ?_
  refine V (run_assign bC) ?_
  refine aa ?_
  refine⟨(j+1,(m++[nxV l m i.toNat]),v26),?_,(((PD.u4.u1.u1.u1).t OI O)).u4.u4.u1.u1.u1,(Hp.conv (gk.sub (sQ sR)) (by first|rfl|simp)),rfl,?_,?_,?_⟩
  ·(have hjl:j<(bS l).length:=(by(have h:¬nxV l m i.toNat<0:=aK;rw[show i.toNat=l.length by omega,hmj]at h;exact SV hj h));(try dsimp only);omega)
  ·(have h:¬nxV l m i.toNat<0:=aK;rw[show i.toNat=l.length by omega,hmj]at h;exact SV hj h)
  ·(have hjl:j<(bS l).length:=(by(have h:¬nxV l m i.toNat<0:=aK;rw[show i.toNat=l.length by omega,hmj]at h;exact SV hj h));rw[show i.toNat=l.length by omega,hmj,ai2 hj,aS hjl,getD_eq hjl,DY hjl])
  (simp only[cZ,gN];omega)
 refine aY (id:=0) rfl<|SR<|aE J0<| ?_
 refine V (run_assign bC) ?_
 refine aa<|ai<|JM O O aZ (i:=0) O (Rv) (Rv)
theorem jQ(p:l6)(hpo:kY p=true)(hcs:∀x∈p.bu,x.code.length<=1000)(w:World)(hp:wI (Kw w) p):Calls Tryz.prog 30 #[.agg (D6 p).toArray] w (Pure (I (VN p.s p.bu p.bu.length)) w):=by
 have xT:=hp.bu.small
 unfold maxLen at xT
 obtain⟨QE,Sk⟩:=Fs hpo
 have h64:=abE hpo
 have hsz:=(vA QE).1
 have hbl:=ai5 QE Sk hcs
 refine eH func30 rfl rfl fun hH=>SR<|gV hH (v:= .agg _) rfl<|fun b3 w1 aZ=>va (v:=I 0) rfl<|aa<|SR<|V (fA kC 0 O BR O)<|V (fA ig 1 O xk O)<|V (cf (hp.s.vars.sl.hp aZ) oE O O (aZ.cell (i:=0) O O))<|V (aA (hp.s.vars.sl.hp aZ) O oE O)<|aI rfl<|aa<|ag<|SR<|va (v:=I 0) rfl<|aa<|ay<|bk (G:=Int) (fun i s' w'=>(Fr (rg 3 3 (rg 10 32 [])) _ s')/\(Hp w w' _)/\(s' 3=I (VN p.s p.bu i.toNat))/\(s' 4=I i)/\(0<=i)/\(i<=p.bu.length)) (fun i=>(p.bu.length-i).toNat) (0) ⟨Fr.refl _ _,aZ,rfl,rfl,J,J⟩<| ?_
 rintro i sg4 w4 ⟨ux,gy,oc,uy,h0,hi⟩
 have sv:=ux.w1 1
 refine ag<|SR<|aE uy<|V (fA kC 2 O tC sv)<|V (cf (hp.bu.sl.hp gy) mD O O (gy.cell (i:=0) O O))<|V (aA (hp.bu.sl.hp gy) O mD O)<|V (aM O O)<|aa<|aD O (fun h6=> ?_) (fun h6=> ?_)
 .refine ak<|ag<|ay<|SR<|V (fA kC 2 O tC sv)<|V (cf (hp.bu.sl.hp gy) mD O O (gy.cell (i:=0) O O))<|aE uy<|V (ah (hp.bu.sl.hp gy) mD HF O O J)<|V (eF (dv:=fU) yc (hp.bu.sl.hp gy) iE O O O J)<|nu gy (aW VP)<|fun b9 w7 eU=>bt eU (i:=0) O (dF (c':=(zy _).toArray) O O O (UH (hp.at J J)) (eU.blk (i:=0) O) O)<|fun GJ dJ=>aa<|SR<|V (fA iE 0 O a8 O)<|lI bf dJ 0 O O rfl<|V (bN O O)<|aa<|aD O (fun OK=> ?_) (fun OK=> ?_)
  .have ho8:(p.bu.getD i.toNat fU).op=8:=aK
   have hxm:=dh (d:=fU) h0 ‹i<_›
   have Px:=(DC (Sk _ hxm) ho8).1
   have hbi:=hbl i.toNat J
   have hht:=ai3 ((vA QE).2.1 _ (dh (d:=me) Px.1 Px.2))
   have hvl:=DA (p.bu.getD i.toNat fU).code
   have kD:=hcs _ hxm
   have hmn:=Hy hht.1 (Q4 (bS (p.bu.getD i.toNat fU).code).length)
   have hmu:=La hht.2 (show((bS (p.bu.getD i.toNat fU).code).length:Int)<=1000 by omega) J J
   refine ed aP dJ<|fun Np fp=>have yE:=fp;AQ 0 O yE (run_move oc)<|AQ 1 O yE (ax O O J)<|AQ 2 O yE (fA kC 0 O BR sv)<|AQ 3 O yE (fA ig 0 O qw O)<|AT 4 O yE (fun w hS=>cf (hp.s.au.sl.hp hS) ku O O (hS.cell (i:=1) O O))<|AQ 5 O yE (fA iE 1 O a8 O)<|tI 6 O yE bf 0 O O rfl<|AT 7 O yE (fun w hS=>ah (hp.s.au.sl.hp hS) ku BP O O J)<|AQ 8 O yE (fA uI 1 O yZ O)<|AT 9 O yE (fun w hS=>n4 (dv:=me) (off:=1) (cs:=zv _) qI (hp.s.au.sl.hp hS) dL O O O J (Gd _))<|AQ 11 O yE (fA iE 2 O y8 O)<|AT 12 O yE (fun w hS=>cf ((hp.at J J).code.sl.hp hS) gI O O (hS.cell (i:=0) O O))<|A1 10<|bX O aH O fp sR (yy _ _ ((hp.s.at Px.1 Px.2).mono fp.kw)) (an call69 O)<|fun J5 dS=>A1 13<|HW O aH O dS sR (Bt _ _ kD _ ((hp.at h0 ‹i<_›).code.sl.hp dS)) (an call70 O)<|fun v20 Ou gW=>A1 14<|cr O aH O gW (sQ sR) (aA (gW.sl (i:=0) O) O bz O)<|have au7:=gW.sub (sQ sR);AQ 15 O au7 (ww O O J)<|AQ 16 O au7 (ax O O J)<|AQ 17 O au7 (aV (I _) O)<|AD<|aq<|aE uy<|V (ax O O J)<|aI rfl<|aa<| ?_
   refine⟨i+1,aT,ux.u4.u4.u4.u4.u4.u4.u4.u4.u1.u1.u1,(gW.sub (sQ (sQ sR))),(aJ I Rt),(aJ I Rt),J,J⟩
  refine ak<|aq<|aE uy<|V (ax O O J)<|aI rfl<|aa<| ?_
  refine⟨i+1,aT,ux.u4.u4.u4.u4.u1,(dJ.sub (sQ sR)),(oc.trans (aJ I Rt)),(aJ I Rt),J,J⟩
 refine aY (id:=0) rfl<|SR<|aE oc<|aI rfl<|aa<|ai<|oI O ?_ gy
 (rw[show i.toNat=p.bu.length by omega])
section
variable{W0 w:World}{n:Nat}{s:NP}{lg:List (Value×lU)}{tm:List Int}{ids:List Nat}{f:Ct}{tl:List (Nat×Rl)}{b c:Nat}{A R Z fr:List a7}
theorem WL(m:Nat):WrF (.func (.func 28) #[pt m] #[]) [m]:= .inr ⟨m,_,_,rfl,dY.2 O,call28,fun K d e l j w hk hd=>FA K m d e l j w hk hd⟩
theorem akT{m:Nat}(p:kE)(QE:gM p=true)(hT:oG W0)(hs:E5 (Kw W0) p)(hH:Hp W0 w (A++([oT TX m OA]++[]))):Calls Tryz.prog 12 #[.agg (Ir p),.func (.func 28) #[pt m] #[]] w (jj fun u w'=>∃(n:Nat) (s:NP) (lg:List (Value×lU)) (tm:List Int) (tl:List (Nat×Rl)) (Z:List a7) (c:Nat),u= .tuple #[pt n,B true]/\s4 p s/\xC s/\s.qs=[]/\s.sk=false/\WrF s.wr [m]/\c<=100/\jA [] W0 n s lg tm [m] ct0 tl 0 c Z/\Hp W0 w' (A++(Z++[]))):=by
 refine(Am (fr:=A++([]++[])) p _ QE (WL m) Fe.zero w hT hs (kp.add (m:=m) kp.nil) (hH.perm (DD fun g hg=> ?_))).mono fun e w' hr=>jj.mono ?_ hr
 .simp only[hg,lY,eC];show _=g [oT TX m OA]+g A;omega
 rintro u w' ⟨n,s,lg,tm,tl,Z,c,rfl,h1,h2,h3,h4,h5,h6,h7,h8,h9⟩
 obtain⟨Zo,ho,hh⟩:=jA.out (A:=A) (R:=[]) (fr:=[]) h8 h9
 exact⟨n,s,lg,tm,tl,Zo,c,rfl,h1,h2,h3,h4,h5▸WL m,h7,ho,hh⟩
theorem Ao{m:Nat}(hm:m∈ids)(hZ:jA fr W0 n s lg tm ids f tl b c Z){L:List a7}(hH:Hp W0 w L)(hs:∀x,x∈Z->x∈L):Calls Tryz.prog 29 #[pt m] w (Pure (.agg #[I (f m).e,I (f m).l,I (f m).j]) w):=by
 obtain⟨m1,L0,Zf,hb,hz,h1,h2,h3,F,L1,hI,hL,rfl⟩:=hZ
 refine Fz m (f m) w (hz.blk hm hH fun x hx=>hs x ?_)
 rw[xL]
 exact bG _ (bG _ (dy _ hx))
theorem yF{m:Nat}(hm:m∈ids)(hZ:jA fr W0 n s lg tm ids f tl b c Z)(hH:Hp W0 w (A++(Z++R))):Calls Tryz.prog 31 #[pt m] w (jj fun u w'=>u= .tuple #[]/\∃Z',jA fr W0 n s lg tm ids (ve f m OA) tl b c Z'/\Hp W0 w' (A++(Z'++R))):=by
 obtain⟨m1,L0,Zf,⟨b1,b2,b3,b4⟩,hz,h1,h2,h3,F,L1,hI,hL,rfl⟩:=hZ
 have hq:∀X,(A++(NZ n F s lg tm (F.us.map (dI 3)++(X++L1))++R)).Perm (X++(A++(NZ n F s lg tm (F.us.map (dI 3)++L1)++R))):=fun X=>DD fun g hg=>by
  rw[xL,xL (X:=F.us.map (dI 3)++L1)];simp only[hg];omega
 have iI:=hH.perm (hq Zf)
 obtain⟨Y,hp,hr⟩:=hz.pick hm iI
 obtain⟨Z1,hz1,hp1⟩:=hr OA
 refine(DS W0 m (f m) (Y++(A++(NZ n F s lg tm (F.us.map (dI 3)++L1)++R))) w ?_).mono fun y w' hy=>jj.mono (fun u w2 h=>⟨h.1,_,⟨m1,L0,Z1,⟨b1,b2,b3,b4.clear m⟩,hz1,h1,h2,h3,F,L1,hI,hL,rfl⟩,?_⟩) hy
 .exact iI.perm (hp.append_right _)
 refine Hp.perm (L:=([oT TX m OA]++Y)++_) h.2 ((hp1.append_right _).trans (hq Z1).symm)
end
set_option maxHeartbeats 4000000 in
theorem vN(p:l6)(a:BitVec 64)(w:World)(hp:wI (Kw w) p)(hT:oG w):Calls Tryz.prog 8 #[.agg (D6 p).toArray,U a] w (Pure (B true) w):=by
 have xT:=hp.bu.small
 unfold maxLen at xT
 refine eH func8 rfl rfl fun hH=>SR<|gV hH (v:= .agg _) rfl<|fun b3 w1 aZ=>va (v:=B false) rfl<|aa<|ag<|SR<|V (cM (cs:=D6 _) kC O O O (bp (aZ.blk (i:=0) O)))<|aG O aZ (C3 _ _ (hp.mono aZ.kw)) (an call9 O)<|fun w4 bP=>mB rfl<|fO 13 O (fun h7=> ?_) (fun h7=> ?_)
 .refine aE (v:=B true) rfl<|aa<|cC rfl<|SR<|aG O bP (my _ (hT.hp bP)) (C9 call11)<|fun w8 iJ=>aB rfl<|aa<|ai<|oB O ?_ iJ
  rfl
 refine V (cM (cs:=D6 _) kC O O O (bp (bP.blk (i:=0) O)))<|aG O bP (An _ _ (hp.mono bP.kw)) (an call10 O)<|fun FK cJ=>V (bO O)<|mB rfl<|aa<|bW O (fun J4=> ?_) (fun J4=> ?_)
 .refine SR<|aG O cJ (my _ (hT.hp cJ)) (C9 call11)<|fun J5 dS=>aB rfl<|aa<|ai<|oB O ?_ dS
  rfl
 refine ak<|SR<|have hpo:kY p=true:=nf ‹(!kY p)=false›;?_
 obtain⟨QE,Sk⟩:=Fs hpo
 have hcs:∀x∈p.bu,x.code.length<=1000:=fun x hx=>((ams ‹Oy p=false›).2.2 x hx).c
 have h64:=abE hpo
 refine bY O (Wo _) (C9 call27) ?_
 rintro _ OO ⟨O4,rfl,DN⟩
 have mK:Hp _ OO (_::([oT TX O4 OA]++[])):=(cJ.D4 DN).perm xR
 refine va (v:=Pn _ _) rfl<|aa<|SR<|V (fA kC 0 O BR O)<|V (iB (sub:=Cf _) ig O O O (mK.blk (i:=0) O) (Dq _))<|aE (v:=Pn _ _) rfl<|V (ad0 O)<|bY O (akT (A:=[_]) p.s QE hT hp.s mK) (aN call12 O O)<| ?_
 rintro _ w42 ⟨n27,s28,aRl,aRm,atM,Z32,c33,rfl,aBv,aBw,aIG,aRo,aRp,aIH,aII,h41⟩
 have kZ:Hp _ w42 (_::(Z32++[])):=h41
 refine V (run_move bC) ?_
 refine V (bx O (v:=Pn _ _) O)<|V (bx O (v:=B _) O)<|va (v:=Pn _ _) rfl<|aB rfl<|aa<|ag<|SR<|mB rfl<|V (bO O)<|aa<|cL rfl<|ak<|ag<|SR<|V (fA kC 2 O tC O)<|V (cf (hp.bu.sl.hp kZ) mD O O (kZ.cell (i:=0) O O))<|V (aA (hp.bu.sl.hp kZ) O mD O)<|aE (v:=I 0) rfl<|aa<|ay<|bk (G:=Int×NP×(List a7)) (fun⟨k,s1,Z1⟩ s' w'=>(Fr (4::(rg 8 3 (rg 33 61 []))) _ s')/\(Hp w w' (_::Z1))/\(s' 33=I k)/\(0<=k)/\(k<=p.bu.length)/\(JY p.s p.bu k.toNat s1)/\(∃lg tm f Hj,Z1=Hj++[]/\f O4=OA/\jA [] w n27 s1 lg tm [O4] f atM k.toNat (c33+k.toNat) Hj)) (fun⟨k,s1,Z1⟩=>(p.bu.length-k).toNat) ((0,s28,(Z32++[]))) ⟨Fr.refl _ _,kZ,rfl,J,J,JY.start (vZ.start aBv aBw aIG),⟨_,_,_,_,rfl,rfl,aII⟩⟩<| ?_
 rintro⟨k,s1,Z1⟩ aRq w45 ⟨WM,nn,Ap,h0,hk,hI,hS⟩
 obtain⟨aBx,QU,Hf,akU,au8⟩:=WM.w5 1 2 5 6 32
 obtain⟨lg1,KS,f1,Hj,rfl,hf1,N7⟩:=hS
 have hkc:=aIH
 refine SR<|V (aM Ap au8)<|aa<|ag<|aD O (fun h47=> ?_) (fun h47=> ?_)
 .refine ak<|ag<|ay<|SR<|aE Ap<|aI rfl<|aa<|SR<|aE akU<|have hxm:=dh (d:=fU) h0 ‹k<_›;V (fA kC 2 O tC QU)<|V (cf (hp.bu.sl.hp nn) mD O O (nn.cell (i:=0) O O))<|mI rfl<|V (ah (hp.bu.sl.hp nn) mD HF O O J)<|V (eF (dv:=fU) yc (hp.bu.sl.hp nn) iE O O O J)<|mI rfl<|bY O (aBu (p.bu.getD k.toNat fU) k hI.nw.ns.ok (hcs _ hxm) J J J hT (hp.at h0 ‹k<_›) (A:=[_]) (R:=[]) N7 nn) (bB call13 O O O)<| ?_
  rintro _ w60 ⟨aRs,s51,aRu,aRv,Z54,rfl,aIJ,aRw,aRx,aoB,I0⟩
  have Ag:Hp _ w60 (_::(Z54++[])):=I0
  refine aa<|ag<|SR<|have O3:=hI.add J J Sk hcs aIJ;aE Hf<|aG O Ag (Ao (dY.2 O) aoB Ag (fun x hx=>(mT (dy _ hx)))) (an EO O)<|fun w63 uz=>V (dx (vs:=[]) O aaf)<|V (agR (ake (by rw[hf1];rfl) (by rw[hf1];rfl) (by rw[hf1];rfl)) O O)<|aa<|cL rfl<|ak<|SR<|aE aBx<|mI rfl<|V (ju bf yU O)<|V (BZ O O)<|V (lH O (b:=1#64) O)<|V (iZ O (b:=1#64) O)<|mB rfl<|bM 54 O (fun Fw=> ?_) (fun Fw=> ?_)
  .refine aE (v:=B true) rfl<|aa<|cC rfl<|SR<|aE akU<|bY O (He hT O3.nw J J (A:=[_]) (R:=[]) aoB uz) (an call15 O)<| ?_
   rintro _ w83 ⟨aRy,s70,aRz,f72,a73,j74,Z75,rfl,au9,aRA,TB,aRB,aRC,Tr,h82⟩
   have nr:Hp _ w83 (_::(Z75++[])):=h82
   refine aa<|ag<|gK aP nr (sP (sA sR))<|fun w86 IX=>have TC:=IX.sub (sP (sA sR));AQ 0 O TC (fA kC 0 O BR QU)<|AT 1 O TC (fun w hS=>iB (sub:=Cf _) ig O O O (hS.blk (i:=0) O) (Dq _))<|AQ 2 O TC (fA kC 2 O tC QU)<|AT 3 O TC (fun w hS=>cf (hp.bu.sl.hp hS) mD O O (hS.cell (i:=0) O O))<|AQ 4 O TC (mV (I _) O)<|AQ 5 O TC (ax O O J)<|AT 6 O TC (fun w hS=>wx (hp.bu.sl.hp hS) mD HF O O J)<|AQ 7 O TC (dx (vs:=[(0,.agg (Ir p.s)),(1,q7 p.av (k+1).toNat)]) O (N5 p.s (p.bu.take (k+1).toNat) (Ge (SU hp.bu (k+1).toNat J)).2))<|AQ 9 O TC (run_move Hf)<|gD 8 11 aP ?_ ?_
   .refine bX O aH O IX (sP (sA sR)) (jQ (⟨p.s,q7 p.av (k+1).toNat,p.bu.take (k+1).toNat⟩:l6) (KO hpo _ _) (fun x hx=>hcs x (rH hx)) _ ((hp.take (k:=(k+1).toNat) J).mono IX.kw)) (an call30 O)<|fun w88 I3=>gD 10 11 aP ?_ ?_
    .refine bX O aH O I3 (sP (sA sR)) (Ao (dY.2 O) Tr I3 (fun x hx=>(mT (dy _ hx)))) (an EO O)<|fun w90 I2=>A1 11<|cK O aH O I2 (sP (sA sR)) (f:=fun b=> .pointer (some ⟨b,0,none⟩)) (aW Tryz.zeroValue76)<|fun b94 w92 ava=>AQ 12 O (ava.sub (sQ (sP (sA sR)))) (aV (I _) O)<|A1 13<|dU O aH ava (j:=0) O (sQ (sP (sA sR))) (dF O O O iF (ava.blk (i:=0) O) O)<|fun w97 G0=>AD<|ag<|SR<|have Au:(k+1).toNat=k.toNat+1:=J;have uj:=O3.set J au9;have hbd:=O3.bd QE Sk hcs J;have hce:=TB.e O4;have kD:=TB.l O4;have Hl:=TB.j O4;?_
     rw[hf1]at hce kD Hl
     simp only[OA]at hce kD Hl
     rw[<-Au]at hbd
     refine V (fA lD 0 O a8 O)<|lI bf G0 0 O O rfl<|mI rfl<|V (cD O O)<|mB rfl<|bZ O (bF (mY))<|V (fA lD 1 O a8 O)<|lI bf G0 0 O O rfl<|mI rfl<|V (cD O O)<|mB rfl<|mB rfl<|bZ O (bF (mY))<|V (fA lD 2 O a8 O)<|lI bf G0 0 O O rfl<|mI rfl<|V (cD O O)<|mB rfl<|aa<|cL (bF (mY))<|ak<|aq<|aE Hf<|bY O (yF (A:=[_,_]) (R:=[]) (dY.2 O) Tr G0) (an call31 O)<| ?_
     rintro _ ayY ⟨rfl,aBy,aBz,at4⟩
     have Ws:Hp _ ayY (_::_::(aBy++[])):=at4
     refine aa<|aq<|V (ax Ap O J)<|mI rfl<|aa<| ?_
     refine⟨(k+1,s70,(aBy++[])),aT,WM.u4.u4.u4.u4.u4.u4.u4.u4.u4.u4.u4.u4.u4.u4.u4.u4,(Ws.sub (sQ sR)),(aJ I ec),J,J,?_,?_⟩
     ·(rw[show(k+1).toNat=k.toNat+1 by omega];exact uj)
     exact⟨_,_,_,_,rfl,aS O,aBz.more J J⟩
    refine cK O aH O I3 (sP (sA sR)) (f:=fun b=> .pointer (some ⟨b,0,none⟩)) (aW Tryz.zeroValue76)<|fun aRE ayZ G1=>A1 10<|bX O aH O G1 (sQ (sP (sA sR))) (Ao (dY.2 O) Tr G1 (fun x hx=>(mT (mT (dy _ hx))))) (an EO O)<|fun auo WG=>AQ 12 O (WG.sub (sQ (sP (sA sR)))) (aV (I _) O)<|A1 13<|dU O aH WG (j:=0) O (sQ (sP (sA sR))) (dF O O O iF (WG.blk (i:=0) O) O)<|fun aRF Oc=>AD<|ag<|SR<|have Au:(k+1).toNat=k.toNat+1:=J;have uj:=O3.set J au9;have hbd:=O3.bd QE Sk hcs J;have hce:=TB.e O4;have kD:=TB.l O4;have Hl:=TB.j O4;?_
    rw[hf1]at hce kD Hl
    simp only[OA]at hce kD Hl
    rw[<-Au]at hbd
    refine V (fA lD 0 O a8 O)<|lI bf Oc 0 O O rfl<|mI rfl<|V (cD O O)<|mB rfl<|bZ O (bF (mY))<|V (fA lD 1 O a8 O)<|lI bf Oc 0 O O rfl<|mI rfl<|V (cD O O)<|mB rfl<|mB rfl<|bZ O (bF (mY))<|V (fA lD 2 O a8 O)<|lI bf Oc 0 O O rfl<|mI rfl<|V (cD O O)<|mB rfl<|aa<|cL (bF (mY))<|ak<|aq<|aE Hf<|bY O (yF (A:=[_,_]) (R:=[]) (dY.2 O) Tr Oc) (an call31 O)<| ?_
    rintro _ aA5 ⟨rfl,aBA,aBB,aIL⟩
    have acg:Hp _ aA5 (_::_::(aBA++[])):=aIL
    refine aa<|aq<|V (ax Ap O J)<|mI rfl<|aa<| ?_
    refine⟨(k+1,s70,(aBA++[])),aT,WM.u4.u4.u4.u4.u4.u4.u4.u4.u4.u4.u4.u4.u4.u4.u4.u4,(acg.sub (sQ sR)),(aJ I ec),J,J,?_,?_⟩
    ·(rw[show(k+1).toNat=k.toNat+1 by omega];exact uj)
    exact⟨_,_,_,_,rfl,aS O,aBB.more J J⟩
   refine cK O aH O IX (sP (sA sR)) (f:=fun b=> .pointer (some ⟨b,0,none⟩)) (aW Tryz.zeroValue76)<|fun aRG aFV Es=>A1 8<|bX O aH O Es (sQ (sP (sA sR))) (jQ (⟨p.s,q7 p.av (k+1).toNat,p.bu.take (k+1).toNat⟩:l6) (KO hpo _ _) (fun x hx=>hcs x (rH hx)) _ ((hp.take (k:=(k+1).toNat) J).mono Es.kw)) (an call30 O)<|fun an5 A0=>A1 10<|bX O aH O A0 (sQ (sP (sA sR))) (Ao (dY.2 O) Tr A0 (fun x hx=>(mT (mT (dy _ hx))))) (an EO O)<|fun auQ CZ=>AQ 12 O (CZ.sub (sQ (sP (sA sR)))) (aV (I _) O)<|A1 13<|dU O aH CZ (j:=0) O (sQ (sP (sA sR))) (dF O O O iF (CZ.blk (i:=0) O) O)<|fun aRH acn=>AD<|ag<|SR<|have Au:(k+1).toNat=k.toNat+1:=J;have uj:=O3.set J au9;have hbd:=O3.bd QE Sk hcs J;have hce:=TB.e O4;have kD:=TB.l O4;have Hl:=TB.j O4;?_
   rw[hf1]at hce kD Hl
   simp only[OA]at hce kD Hl
   rw[<-Au]at hbd
   refine V (fA lD 0 O a8 O)<|lI bf acn 0 O O rfl<|mI rfl<|V (cD O O)<|mB rfl<|bZ O (bF (mY))<|V (fA lD 1 O a8 O)<|lI bf acn 0 O O rfl<|mI rfl<|V (cD O O)<|mB rfl<|mB rfl<|bZ O (bF (mY))<|V (fA lD 2 O a8 O)<|lI bf acn 0 O O rfl<|mI rfl<|V (cD O O)<|mB rfl<|aa<|cL (bF (mY))<|ak<|aq<|aE Hf<|bY O (yF (A:=[_,_]) (R:=[]) (dY.2 O) Tr acn) (an call31 O)<| ?_
   rintro _ aA7 ⟨rfl,aBC,aBD,aIM⟩
   have ach:Hp _ aA7 (_::_::(aBC++[])):=aIM
   refine aa<|aq<|V (ax Ap O J)<|mI rfl<|aa<| ?_
   refine⟨(k+1,s70,(aBC++[])),aT,WM.u4.u4.u4.u4.u4.u4.u4.u4.u4.u4.u4.u4.u4.u4.u4.u4,(ach.sub (sQ sR)),(aJ I ec),J,J,?_,?_⟩
   ·(rw[show(k+1).toNat=k.toNat+1 by omega];exact uj)
   exact⟨_,_,_,_,rfl,aS O,aBD.more J J⟩
  refine mI rfl<|V (fA kC 2 O tC QU)<|V (cf (hp.bu.sl.hp uz) mD O O (uz.cell (i:=0) O O))<|V (aA (hp.bu.sl.hp uz) O mD O)<|V (fF O O J)<|V (bN O O)<|mB rfl<|aa<|aD O (fun aIN=> ?_) (fun aIN=> ?_)
  .refine SR<|aE akU<|bY O (He hT O3.nw J J (A:=[_]) (R:=[]) aoB uz) (an call15 O)<| ?_
   rintro _ aA9 ⟨aLB,avb,aLC,f156,a157,aRI,aIO,rfl,akV,aLD,Hg,aLE,aLF,QV,aIP⟩
   have C1:Hp _ aA9 (_::(aIO++[])):=aIP
   refine aa<|ag<|gK aP C1 (sP (sA sR))<|fun aRJ aco=>have Hh:=aco.sub (sP (sA sR));AQ 0 O Hh (fA kC 0 O BR QU)<|AT 1 O Hh (fun w hS=>iB (sub:=Cf _) ig O O O (hS.blk (i:=0) O) (Dq _))<|AQ 2 O Hh (fA kC 2 O tC QU)<|AT 3 O Hh (fun w hS=>cf (hp.bu.sl.hp hS) mD O O (hS.cell (i:=0) O O))<|AQ 4 O Hh (mV (I _) O)<|AQ 5 O Hh (ax O O J)<|AT 6 O Hh (fun w hS=>wx (hp.bu.sl.hp hS) mD HF O O J)<|AQ 7 O Hh (dx (vs:=[(0,.agg (Ir p.s)),(1,q7 p.av (k+1).toNat)]) O (N5 p.s (p.bu.take (k+1).toNat) (Ge (SU hp.bu (k+1).toNat J)).2))<|AQ 9 O Hh (run_move Hf)<|gD 8 11 aP ?_ ?_
   .refine bX O aH O aco (sP (sA sR)) (jQ (⟨p.s,q7 p.av (k+1).toNat,p.bu.take (k+1).toNat⟩:l6) (KO hpo _ _) (fun x hx=>hcs x (rH hx)) _ ((hp.take (k:=(k+1).toNat) J).mono aco.kw)) (an call30 O)<|fun aRK akW=>gD 10 11 aP ?_ ?_
    .refine bX O aH O akW (sP (sA sR)) (Ao (dY.2 O) QV akW (fun x hx=>(mT (dy _ hx)))) (an EO O)<|fun aRL aBE=>A1 11<|cK O aH O aBE (sP (sA sR)) (f:=fun b=> .pointer (some ⟨b,0,none⟩)) (aW Tryz.zeroValue76)<|fun aRM aRN WE=>AQ 12 O (WE.sub (sQ (sP (sA sR)))) (aV (I _) O)<|A1 13<|dU O aH WE (j:=0) O (sQ (sP (sA sR))) (dF O O O iF (WE.blk (i:=0) O) O)<|fun aRO acp=>AD<|ag<|SR<|have Au:(k+1).toNat=k.toNat+1:=J;have uj:=O3.set J akV;have hbd:=O3.bd QE Sk hcs J;have hce:=Hg.e O4;have kD:=Hg.l O4;have Hl:=Hg.j O4;?_
     rw[hf1]at hce kD Hl
     simp only[OA]at hce kD Hl
     rw[<-Au]at hbd
     refine V (fA lD 0 O a8 O)<|lI bf acp 0 O O rfl<|mI rfl<|V (cD O O)<|mB rfl<|bZ O (bF (mY))<|V (fA lD 1 O a8 O)<|lI bf acp 0 O O rfl<|mI rfl<|V (cD O O)<|mB rfl<|mB rfl<|bZ O (bF (mY))<|V (fA lD 2 O a8 O)<|lI bf acp 0 O O rfl<|mI rfl<|V (cD O O)<|mB rfl<|aa<|cL (bF (mY))<|ak<|aq<|aE Hf<|bY O (yF (A:=[_,_]) (R:=[]) (dY.2 O) QV acp) (an call31 O)<| ?_
     rintro _ aIQ ⟨rfl,aBF,aBG,aIR⟩
     have aBH:Hp _ aIQ (_::_::(aBF++[])):=aIR
     refine aa<|aq<|V (ax Ap O J)<|mI rfl<|aa<| ?_
     refine⟨(k+1,avb,(aBF++[])),aT,WM.u4.u4.u4.u4.u4.u4.u4.u4.u4.u4.u4.u4.u4.u4.u4.u4,(aBH.sub (sQ sR)),(aJ I ec),J,J,?_,?_⟩
     ·(rw[show(k+1).toNat=k.toNat+1 by omega];exact uj)
     exact⟨_,_,_,_,rfl,aS O,aBG.more J J⟩
    refine cK O aH O akW (sP (sA sR)) (f:=fun b=> .pointer (some ⟨b,0,none⟩)) (aW Tryz.zeroValue76)<|fun aRP aRQ aqN=>A1 10<|bX O aH O aqN (sQ (sP (sA sR))) (Ao (dY.2 O) QV aqN (fun x hx=>(mT (mT (dy _ hx))))) (an EO O)<|fun aRR akX=>AQ 12 O (akX.sub (sQ (sP (sA sR)))) (aV (I _) O)<|A1 13<|dU O aH akX (j:=0) O (sQ (sP (sA sR))) (dF O O O iF (akX.blk (i:=0) O) O)<|fun aRS acq=>AD<|ag<|SR<|have Au:(k+1).toNat=k.toNat+1:=J;have uj:=O3.set J akV;have hbd:=O3.bd QE Sk hcs J;have hce:=Hg.e O4;have kD:=Hg.l O4;have Hl:=Hg.j O4;?_
    rw[hf1]at hce kD Hl
    simp only[OA]at hce kD Hl
    rw[<-Au]at hbd
    refine V (fA lD 0 O a8 O)<|lI bf acq 0 O O rfl<|mI rfl<|V (cD O O)<|mB rfl<|bZ O (bF (mY))<|V (fA lD 1 O a8 O)<|lI bf acq 0 O O rfl<|mI rfl<|V (cD O O)<|mB rfl<|mB rfl<|bZ O (bF (mY))<|V (fA lD 2 O a8 O)<|lI bf acq 0 O O rfl<|mI rfl<|V (cD O O)<|mB rfl<|aa<|cL (bF (mY))<|ak<|aq<|aE Hf<|bY O (yF (A:=[_,_]) (R:=[]) (dY.2 O) QV acq) (an call31 O)<| ?_
    rintro _ aIS ⟨rfl,aBI,aBJ,aIT⟩
    have aBK:Hp _ aIS (_::_::(aBI++[])):=aIT
    refine aa<|aq<|V (ax Ap O J)<|mI rfl<|aa<| ?_
    refine⟨(k+1,avb,(aBI++[])),aT,WM.u4.u4.u4.u4.u4.u4.u4.u4.u4.u4.u4.u4.u4.u4.u4.u4,(aBK.sub (sQ sR)),(aJ I ec),J,J,?_,?_⟩
    ·(rw[show(k+1).toNat=k.toNat+1 by omega];exact uj)
    exact⟨_,_,_,_,rfl,aS O,aBJ.more J J⟩
   refine cK O aH O aco (sP (sA sR)) (f:=fun b=> .pointer (some ⟨b,0,none⟩)) (aW Tryz.zeroValue76)<|fun aRT aRU aqO=>A1 8<|bX O aH O aqO (sQ (sP (sA sR))) (jQ (⟨p.s,q7 p.av (k+1).toNat,p.bu.take (k+1).toNat⟩:l6) (KO hpo _ _) (fun x hx=>hcs x (rH hx)) _ ((hp.take (k:=(k+1).toNat) J).mono aqO.kw)) (an call30 O)<|fun aRV aqP=>A1 10<|bX O aH O aqP (sQ (sP (sA sR))) (Ao (dY.2 O) QV aqP (fun x hx=>(mT (mT (dy _ hx))))) (an EO O)<|fun aRW akY=>AQ 12 O (akY.sub (sQ (sP (sA sR)))) (aV (I _) O)<|A1 13<|dU O aH akY (j:=0) O (sQ (sP (sA sR))) (dF O O O iF (akY.blk (i:=0) O) O)<|fun aRX acr=>AD<|ag<|SR<|have Au:(k+1).toNat=k.toNat+1:=J;have uj:=O3.set J akV;have hbd:=O3.bd QE Sk hcs J;have hce:=Hg.e O4;have kD:=Hg.l O4;have Hl:=Hg.j O4;?_
   rw[hf1]at hce kD Hl
   simp only[OA]at hce kD Hl
   rw[<-Au]at hbd
   refine V (fA lD 0 O a8 O)<|lI bf acr 0 O O rfl<|mI rfl<|V (cD O O)<|mB rfl<|bZ O (bF (mY))<|V (fA lD 1 O a8 O)<|lI bf acr 0 O O rfl<|mI rfl<|V (cD O O)<|mB rfl<|mB rfl<|bZ O (bF (mY))<|V (fA lD 2 O a8 O)<|lI bf acr 0 O O rfl<|mI rfl<|V (cD O O)<|mB rfl<|aa<|cL (bF (mY))<|ak<|aq<|aE Hf<|bY O (yF (A:=[_,_]) (R:=[]) (dY.2 O) QV acr) (an call31 O)<| ?_
   rintro _ aIU ⟨rfl,aBL,aBM,aIV⟩
   have aBN:Hp _ aIU (_::_::(aBL++[])):=aIV
   refine aa<|aq<|V (ax Ap O J)<|mI rfl<|aa<| ?_
   refine⟨(k+1,avb,(aBL++[])),aT,WM.u4.u4.u4.u4.u4.u4.u4.u4.u4.u4.u4.u4.u4.u4.u4.u4,(aBN.sub (sQ sR)),(aJ I ec),J,J,?_,?_⟩
   ·(rw[show(k+1).toNat=k.toNat+1 by omega];exact uj)
   exact⟨_,_,_,_,rfl,aS O,aBM.more J J⟩
  refine ak<|aq<|V (ax Ap O J)<|mI rfl<|aa<| ?_
  refine⟨(k+1,s51,(Z54++[])),aT,WM.u4.u4.u4.u4.u4.u4.u4.u1.u1.u1,uz,(aJ I ec),J,J,?_,?_⟩
  ·(rw[show(k+1).toNat=k.toNat+1 by omega];exact O3)
  exact⟨_,_,_,_,rfl,hf1,aoB.more J J⟩
 refine aY (id:=0) rfl<|SR<|aG O nn (my _ (hT.hp nn)) (C9 call11)<|fun aRY aBO=>aB rfl<|aa<|ai<|oB O ?_ aBO
 rfl
end
end Go.Proofs.YtlhjdflgjbkpmaaGreatDoor.W

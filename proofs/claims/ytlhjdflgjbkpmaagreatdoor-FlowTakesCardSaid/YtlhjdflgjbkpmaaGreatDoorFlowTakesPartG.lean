/- Part 7 of the proof of FlowTakes: its plain laws and the walks of its functions. -/
import Derived.Test.YtlhjdflgjbkpmaaGreatDoorFlowTakesPartF
set_option linter.all false
namespace Go.Proofs.YtlhjdflgjbkpmaaGreatDoor.W
section
open Go Go.RowKit Go.Proofs.YtlhjdflgjbkpmaaGreatDoor.E Go.Proofs.YtlhjdflgjbkpmaaGreatDoor.M
set_option maxRecDepth 100000
open Go.Proofs.Tryz
variable{fr:List a8}
variable{W0 w:World}{n m:Nat}{cs:List (List Nat)}{wr:Value}{vL:Value}{vt:Value}{vv:Value}{vy:Value}{vu:Value}{vq:Value}{sn:Int}{vW:Value}{vU:Value}{vT:Value}{cn:Int}{sk:Bool}{wy:BitVec 64}{vd:Value}{vm:Value}{cW:Option (Nat×Array Value)}{cU:Option (Nat×Array Value)}{W:List (BitVec 64)}{ul:List (Value×jh)}{ts:List Int}{an:List oP}{aS:List Int}{ai:List El}{aX:List (BitVec 64)}{us:List jx}{qs:List de}{lg:List (Value×lK)}{tm:List Int}{L:List a8}
set_option maxHeartbeats 4000000 in
theorem FG{ids:List Nat}{tl:List (Nat×Rl)}{f:Ct}{nk:Nat}{Zf R:List a8}(Jzz:xx->Prop)(mu:xx->Nat)(hm:m+ai.length<=100000)(RQ:aX.length=ai.length)(M7:us.length=ai.length)(n8:(bg cs).length=ai.length)(ON:ai.length<=1000)(hlg:lg.length+1000*mu (TL (rG cs us an aS qs sn ai.length ⟨ai,aX,[],List.replicate qs.length false⟩).s sn qs.length)<=400000000000)(wI:∀k:Nat,k<us.length->dB 3 (us.getD k cP)∈R/\(us.getD k cP).l.length<=1000/\∀i∈(us.getD k cP).l,0<=i/\i<(qs.length:Int))(hf:D3 nk f)(hnk:nk+3*mu (TL (rG cs us an aS qs sn ai.length ⟨ai,aX,[],List.replicate qs.length false⟩).s sn qs.length)<=90000000000)(UZ:0<=sn/\sn<=qs.length)(hqn:qs.length<=1000)(hqo:Xl an.length ai.length qs)(hlt:aS.length=ai.length)(hlr:∀k:Nat,k<aS.length->0<=aS.getD k 0/\aS.getD k 0<an.length)(hI0:Jzz (TL (rG cs us an aS qs sn ai.length ⟨ai,aX,[],List.replicate qs.length false⟩).s sn qs.length))(hst:∀cM eo Iz lT x,Jzz ⟨cM,eo,x::Iz,lT⟩->∀r,mE (bg (rG cs us an aS qs sn ai.length ⟨ai,aX,[],List.replicate qs.length false⟩).cs) us (an.getD (qs.getD x.toNat cI).aS.toNat oF).p.sh (qs.getD x.toNat cI) cM eo Iz (lT.set x.toNat false) wy=r->r.ok=true->Jzz ⟨r.ai,r.aX,r.wl,r.wi⟩/\mu ⟨r.ai,r.aX,r.wl,r.wi⟩<mu ⟨cM,eo,x::Iz,lT⟩)(w:World)(hT:oq W0)(hlv:TH TX (Kz (Kw W0) R) ids tl an)(hZ:j5 (Ae fr) ids f tl Zf)(HA:Xg (Kz (Kw W0) R) qs)(h:vK FX n m cs vW vU cW cU W ul ts cn R)(hH:Hp W0 w (nE n wr vL vt vv vy vu vq sn vW vU vT cn sk wy vd vm cW cU W ul ts an aS ai aX us qs lg tm ((Zf++R)))):Calls Tryz.prog 42 #[pt n] w (jF fun u w'=>∃(ok:Bool) (s:xx) (RR:BitVec 64) (a:Nat) (ML MM U4:Value) (O9 Pa:Option (Nat×Array Value)) (W':List (BitVec 64)) (xK:List (Value×jh)) (ts':List Int) (Pb:Int) (vd':Value) (new:List (Value×lK)) (Lb Z':List a8) (f':Ct),u=B ok/\SpR (bg (rG cs us an aS qs sn ai.length ⟨ai,aX,[],List.replicate qs.length false⟩).cs) us an qs s ok wy RR/\Jzz s/\a+mu s<=mu (TL (rG cs us an aS qs sn ai.length ⟨ai,aX,[],List.replicate qs.length false⟩).s sn qs.length)+(if ok then 0 else 1)/\vK FX n (m+ai.length) (rG cs us an aS qs sn ai.length ⟨ai,aX,[],List.replicate qs.length false⟩).cs ML MM O9 Pa W' xK ts' Pb (Lb++R)/\(∀x∈new,l9 NX n Lb x/\(ok=false->G7 x.2))/\new.length<=1001*ai.length+1000*a+1/\iz new (NP.mk an aS ai aX ((o5 us)) qs sn cs sk RR wr) (NP.mk an aS (s.ai) (s.aX) ((o5 us)) qs ((if ok then(qs.length:Int)else sn)) ((rG cs us an aS qs sn ai.length ⟨ai,aX,[],List.replicate qs.length false⟩).cs) sk RR wr)/\j5 (Ae fr) ids f' tl Z'/\oG f f' a a (a+(rG cs us an aS qs sn ai.length ⟨ai,aX,[],List.replicate qs.length false⟩).j)/\Hp W0 w' (nE n wr vL vt vv vy vu vq ((if ok then(qs.length:Int)else sn)) (ML) (MM) (U4) (Pb) sk RR (vd') vm (O9) (Pa) (W') (xK) (ts') an aS (s.ai) (s.aX) us qs (lg++new) tm ((Z'++(Lb++R))))):=by
 simp only[nE]at hH
 refine en func42 rfl rfl<|SR<|gX hH (v:=Pn _ _) rfl<|fun b3 w1 a7=>va (v:=B false) rfl<|aa<|WZ<|SR<| ?_
 obtain⟨R1,UI⟩:∃R1:List a8,R1=[a8.blk b3 (.cells #[pt n] 31 (0,0))]++R:=⟨_,rfl⟩
 have gL:=Hp.lC (A:=[_,_,_,_,_,_,_,_,_,_,_,_]) (B:=[a8.blk b3 (.cells #[pt n] 31 (0,0))]) (R:=Zf) (a7.pj [1,1,1,1,1,1,1,1,1,1,1,1])
 rw[<-UI]at gL
 simp only[fH,dZ]at gL
 have hb5:a8.blk b3 (.cells #[pt n] 31 (0,0))∈R1:=by rw[UI];simp
 have acz:TH TX (Kz (Kw W0) R1) ids tl an:=hlv.mono (Le.zz fun x hx=>by rw[UI];exact bB _ hx)
 have al7:Xg (Kz (Kw W0) R1) qs:=HA.mono (Le.zz fun x hx=>by rw[UI];exact bB _ hx)
 have MT:=h.mono (L':=R1) fun e he=>by rw[UI];exact bB _ he
 have IM:∀k:Nat,k<us.length->dB 3 (us.getD k cP)∈R1/\(us.getD k cP).l.length<=1000/\∀i∈(us.getD k cP).l,0<=i/\i<(qs.length:Int):=fun k hk=>⟨by rw[UI];exact bB _ (wI k hk).1,(wI k hk).2⟩
 refine V (az cS O O (gL.oa ((fun x hx=>(mT (mT (mT (mT (mT (mT (mT (mT (mT (mT (mT (mT (bB _ hx)))))))))))))) _ hb5) (v:=Pn _ _) O))<|V (af O)<|V (fA bU 6 O wv O)<|lV mK gL 0 O O rfl<|V (aD (gL.sl (i:=9) O) O mK O)<|vP (qs.length) (qs.length) gL (yP (f:=B) (z0:=false) pW O O O O (show _=Value.int .i64 ((qs.length:Nat):Int)from O) (show _=Value.int .i64 ((qs.length:Nat):Int)from O) ay J)<|fun b8 w6 eR=>have iv:=eR.Iu (i:=0) (n:=qs.length) (l:=List.replicate (qs.length) false) (f:=B) O aA J;?_
 simp only[ij]at iv
 refine V (dD (vs:=[(1,(.slice (some ⟨b8,0,none⟩) (qs.length) (qs.length)))]) O (NB _ _ _))<|gX iv (v:= .agg _) rfl<|fun b12 Hi dN=>have bY:=dN.fl 3 1;va (v:=Pn _ _) rfl<|aa<|SR<|V (az cS O O (bY.oa ((fun x hx=>(mT (mT (mT (mT (mT (mT (mT (mT (mT (mT (mT (mT (mT (mT (mT (bB _ hx))))))))))))))))) _ hb5) (v:=Pn _ _) O))<|aG (v:=Pn _ _) rfl<|ct O (CO (cq:=none) (ql:= .slice none 0 0) (wl:=[]) (wi:=List.replicate qs.length false) hm RQ M7 n8 ON J (G9 _) (by rw[Ps];omega) (fun k hk=>⟨(IM k hk).1,(IM k hk).2.1,fun i hi=>by have:=(IM k hk).2.2 i hi;simp only[Ps,mD];omega⟩) hf J UZ hqn hqo.pl hlt hlr _ hT acz hZ al7 MT trivial (bY.pj [3,3,3,3,3,3,3,3,3,3,3,3,1])) (aK call84 O O)<| ?_
 rintro _ w32 ⟨c16,aiy,aiz,al8,al9,ama,W39,amb,amc,amd,aEt,q18,aEu,aEv,ayl,Z22,f23,aEw,rfl,aae,aEx,aEy,aEz,aEA,aEB,aEC,jE⟩
 subst aEw
 simp only[nE,wE]at jE
 have me:=jE.pk [13,12,12]
 refine aa<|ah<|SR<|V (az cS O O (me.oa ((fun x hx=>(mT (mT (mT (mT (mT (mT (mT (mT (mT (mT (mT (mT (mT (mT (mT (bB _ (bB _ hx)))))))))))))))))) _ hb5) (v:=Pn _ _) O))<|V (af O)<|V (fA bU 7 O bp O)<|lI bt me 3 O O rfl<|aI rfl<|aa<|aC<|have ok0:=aqi (cs:=cs) (us:=us) (an:=an) (aS:=aS) (qs:=qs) (sn:=sn) (ai:=ai) (aX:=aX) J (fun k hk=>(IM k hk).2.2) J;bj (G:=Int×Value×(Option (Nat×Array Value))×(List Int)×(List Bool)) (fun⟨k,wZ,Ax,pe,lT⟩ s' w'=>(Fr (4::(rg 21 12 [])) _ s')/\(Hp W0 w' (qE Ax wZ 3 (pe.map I):: .blk b12 (.cells #[wZ,(.slice (some ⟨b8,0,none⟩) (qs.length) (qs.length))] 156 (0,0))::jf B (.slice (some ⟨b8,0,none⟩) (qs.length) (qs.length)) 4 lT::_))/\(s' 4=I k)/\(sn<=k)/\(k<=qs.length)/\(qO Ax wZ (pe.map I))/\((pe,lT)=(qA ((rG cs us an aS qs sn ai.length ⟨ai,aX,[],List.replicate qs.length false⟩).s.wl,(rG cs us an aS qs sn ai.length ⟨ai,aX,[],List.replicate qs.length false⟩).s.wi) (upI sn (k-sn).toNat)))) (fun⟨k,wZ,Ax,pe,lT⟩=>(qs.length-k).toNat) ((sn,q18,aEu,(rG cs us an aS qs sn ai.length ⟨ai,aX,[],List.replicate qs.length false⟩).s.wl,(rG cs us an aS qs sn ai.length ⟨ai,aX,[],List.replicate qs.length false⟩).s.wi)) ⟨Fr.refl _ _,me,rfl,J,J,aEC,(by rw[Int.sub_self];rfl)⟩<| ?_
 rintro⟨k,wZ,Ax,pe,lT⟩ aMU w44 ⟨aym,wT,aiA,h0,hk,M9,hp⟩
 obtain⟨aon,aoo⟩:=aym.w2 1 3
 have ok1:OL qs.length ai.length aX.length ⟨(rG cs us an aS qs sn ai.length ⟨ai,aX,[],List.replicate qs.length false⟩).s.ai,(rG cs us an aS qs sn ai.length ⟨ai,aX,[],List.replicate qs.length false⟩).s.aX,pe,lT⟩:=by have h1:=akX ok0 (l:=upI sn (k-sn).toNat) (fun i hi=>by obtain⟨j,hj,rfl⟩:=fI.1 hi;have:=pn.1 hj;omega);rw[<-hp]at h1;exact h1
 have wq1:=ok1.wq.len
 have li1:=ok1.li
 simp only at wq1 li1
 refine ah<|SR<|aG aiA<|V (az cS O aon (wT.oa ((fun x hx=>(mT (mT (mT (mT (mT (mT (mT (mT (mT (mT (mT (mT (mT (mT (mT (bB _ (bB _ hx)))))))))))))))))) _ hb5) (v:=Pn _ _) O))<|V (af O)<|V (fA bU 6 O wv O)<|lV mK wT 3 O O rfl<|V (aD (wT.sl (i:=12) O) O mK O)<|V (aL O O)<|aa<|aF O (fun h46=> ?_) (fun h46=> ?_)
 .refine ak<|ah<|aC<|au<|aG aoo<|aG aiA<|ct O (pg _ J J _ M9 (wT.pj [1])) (aK call85 O O)<| ?_
  rintro _ w49 ⟨rfl,v51,c52,aED,ey⟩
  simp only[wE]at ey
  have gk:=ey.pk [1]
  refine aa<|au<|aG aiA<|V (ax O O J)<|aI rfl<|aa<| ?_
  refine⟨(k+1,v51,c52,(oh (pe,lT) k).1,(oh (pe,lT) k).2),aW,aym.u4.u4.u4.u1,(Hp.conv gk aM),(aJ I aM),J,J,?_,?_⟩
  .exact aED
  (rw[agw h0,abM,<-hp])
 refine aY (id:=0) rfl<|ah<|W3<|ah<|aC<|have ek:k=qs.length:=J;?_
 rw[ek]at hp
 have e0:(⟨(rG cs us an aS qs sn ai.length ⟨ai,aX,[],List.replicate qs.length false⟩).s.ai,(rG cs us an aS qs sn ai.length ⟨ai,aX,[],List.replicate qs.length false⟩).s.aX,pe,lT⟩:xx)=(TL (rG cs us an aS qs sn ai.length ⟨ai,aX,[],List.replicate qs.length false⟩).s sn qs.length):=by unfold TL;rw[<-hp]
 have akI:(bg (rG cs us an aS qs sn ai.length ⟨ai,aX,[],List.replicate qs.length false⟩).cs).length=ai.length:=by rw[akY];omega
 have aEE:=auX (cs:=cs) (us:=us) (an:=an) (aS:=aS) (qs:=qs) (sn:=sn) (n:=ai.length) (s:=⟨ai,aX,[],List.replicate qs.length false⟩)
 have aMW:(rG cs us an aS qs sn ai.length ⟨ai,aX,[],List.replicate qs.length false⟩).j<=1000*1000:=kg aEE (wm J J)
 refine bj (G:=Value×Value×(Option (Nat×Array Value))×(List El)×(List (BitVec 64))×(List Int)×(List Bool)×(List (Value×lK))×(List a8)×(List a8)×Ct×Nat×(List a8)) (fun⟨UE,wZ,Ax,cM,eo,pe,lT,new,Lb,Jq,f1,a,Z1⟩ s' w'=>(Fr (2::(rg 33 17 [])) _ s')/\(Hp W0 w' (qE Ax wZ 3 (pe.map I):: .blk b12 (.cells #[wZ,(.slice (some ⟨b8,0,none⟩) (qs.length) (qs.length))] 156 (0,0))::jf B (.slice (some ⟨b8,0,none⟩) (qs.length) (qs.length)) 4 lT:: .blk n (.cells #[wr,vL,vt,vv,vy,vu,vq,I sn,aiy,aiz,al8,I amd,B sk,U wy,UE,vm] 111 (0,0))::cE al9 aiy 35 (W39.map U)::cE ama aiz 1 (amb.map Prod.fst)::jf I al8 3 amc::uD U0 13 vL 119 an::jf I vt 3 aS::uD sC 8 vv 37 cM::jf U vy 35 eo::jf jx.v vu 99 us::uD o7 13 vq 128 qs::jf Prod.fst UE 1 (lg++new)::jf I vm 3 tm::Z1))/\(Jzz ⟨cM,eo,pe,lT⟩)/\(OL qs.length ai.length aX.length ⟨cM,eo,pe,lT⟩)/\(Z1=Jq++(Lb++R1))/\(j5 (Ae fr) ids f1 tl Jq)/\(oG f f1 a a (a+(rG cs us an aS qs sn ai.length ⟨ai,aX,[],List.replicate qs.length false⟩).j))/\(a+mu ⟨cM,eo,pe,lT⟩<=mu (TL (rG cs us an aS qs sn ai.length ⟨ai,aX,[],List.replicate qs.length false⟩).s sn qs.length))/\(qO Ax wZ (pe.map I))/\(vK FX n (m+ai.length) (rG cs us an aS qs sn ai.length ⟨ai,aX,[],List.replicate qs.length false⟩).cs aiy aiz al9 ama W39 amb amc amd (Lb++R1))/\(∀x∈new,l9 NX n Lb x/\G7 x.2)/\(new.length<=1001*ai.length+1000*a)/\(iz new (NP.mk an aS ai aX ((o5 us)) qs sn cs sk wy wr) (NP.mk an aS cM eo ((o5 us)) qs sn ((rG cs us an aS qs sn ai.length ⟨ai,aX,[],List.replicate qs.length false⟩).cs) sk wy wr))) (fun⟨UE,wZ,Ax,cM,eo,pe,lT,new,Lb,Jq,f1,a,Z1⟩=>mu ⟨cM,eo,pe,lT⟩) ((aEt,wZ,Ax,(rG cs us an aS qs sn ai.length ⟨ai,aX,[],List.replicate qs.length false⟩).s.ai,(rG cs us an aS qs sn ai.length ⟨ai,aX,[],List.replicate qs.length false⟩).s.aX,pe,lT,aEv,ayl,Z22,f23,0,(Z22++(ayl++R1)))) ⟨Fr.refl _ _,wT,(by rw[e0];exact hI0),ok1,rfl,aEA,(aEB.more (mo _) (mo _) J),(by rw[e0];omega),M9,aae,aEx,(by have:=aEy;omega),aEz⟩ ?_
 rintro⟨UE,wZ,Ax,cM,eo,pe,lT,new,Lb,Jq,f1,a,Z1⟩ avL w55 ⟨MB,iB,hI,Yh,hz,ND,hcj,ham,M9,ame,U5,hnl,hbk⟩
 obtain⟨FF,MC⟩:=MB.t2 1 aon 3 aoo
 subst hz
 have lv1:cM.length=ai.length:=Yh.lv
 have ly1:eo.length=aX.length:=Yh.ly
 have li1:lT.length=qs.length:=Yh.li
 have wq1:=Yh.wq.len
 simp only at wq1
 refine ah<|SR<|aG MC<|V (af O)<|V (fA x8 0 O df O)<|lV bq iB 1 O O rfl<|V (aD (iB.slQ (i:=0) O M9) O bq O)<|V (dx O O)<|aa<|aF O (fun Nz=> ?_) (fun Nz=> ?_)
 .refine ak<|aC<|ah<|ah<| ?_
  obtain⟨x,Iz,hxw⟩:=List.exists_cons_of_length_pos (show 0<pe.length by have h9:=‹(0:Int)<_›;simpa using h9)
  subst hxw
  have htk:=Yh.take
  have RD:=hqo.at htk.1.1 htk.1.2
  have wq2:=htk.2.wq.len
  simp only[mD]at wq2
  have hqx:CC (Kz (Kw W0) (Lb++R1)) (qs.getD x.toNat cI):=(al7.at htk.1.1 htk.1.2).mono (Le.zz fun y hy=>bB _ hy)
  have aEF:TH TX (Kz (Kw W0) (Lb++R1)) ids tl an:=acz.mono (Le.zz fun y hy=>bB _ hy)
  refine fC (z:=⟨some _,_,_,_,_,none⟩) aN O aN iB (sQ (sQ (sQ sR)))<|fun w58 Ao=>have Yi:=Ao.sub (sQ (sQ (sQ sR)));AT 0 O Yi (fun w hS=>az cS O FF (hS.oa ((fun x hx=>(mT (mT (mT (mT (mT (mT (mT (mT (mT (mT (mT (mT (bB _ (bB _ hx))))))))))))))) _ hb5) (v:=Pn _ _) O))<|AQ 1 O Yi (run_move MC)<|AT 2 O Yi (fun w hS=>az cS O FF (hS.oa ((fun x hx=>(mT (mT (mT (mT (mT (mT (mT (mT (mT (mT (mT (mT (bB _ (bB _ hx))))))))))))))) _ hb5) (v:=Pn _ _) O))<|AQ 3 O Yi (af O)<|AQ 4 O Yi (fA bU 6 O wv O)<|tV 5 O Yi mK 0 O O rfl<|AQ 6 O Yi (run_move MC)<|A1 7<|wF O aH O (CN (wi:=lT) x (by have:=htk.1;omega) _ M9 (Ao.pj [1])) (aq call87 O) (fun u w' ⟨_,RT,RU,_,h⟩=>((show Hp _ w' (wE _ _ _ _ _ _ (_::_::_::_::_::_::_::_::_::_::_::_::(Jq++(Lb++R1))))from h).pj [1]).sub (sQ (sQ (sQ sR))))<| ?_
  rintro _ w62 ⟨rfl,v64,c65,aEG,pc⟩
  simp only[wE]at pc
  have MV:=pc.pk [1]
  refine AT 8 O (MV.sub (sQ (sQ (sQ sR)))) (fun w hS=>ag (hS.sl (i:=9) O) mK JW O O J)<|AT 9 O (MV.sub (sQ (sQ (sQ sR)))) (fun w hS=>fg (dv:=cI) oE (hS.sl (i:=9) O) iE O O O J)<|AD<|ct O (IL (qs.getD x.toNat cI) J J J J J DI J (fun k hk=>⟨bB _ (IM k hk).1,(IM k hk).2.1,fun i hi=>by have:=(IM k hk).2.2 i hi;simp only[Ps,mD];omega⟩) (hcj.ok hf) J RD.aS RD.code (by have:=RD.to;omega) (fun hp=>by have:=RD.pl hp;omega) (fun v hv=>by have:=RD.vars v hv;omega) _ hT aEF ND hqx ame aEG (MV.pj [3,3,3,3,3,3,3,3,3,3,3,3,1])) (bz call86 O O O)<| ?_
  rintro _ w83 ⟨r70,ayn,q72,aEH,ayo,acq,Z76,NG,rfl,amf,ayp,ase,ayq,aEI,nP⟩
  simp only[nE,wE]at nP
  have Fx:=nP.pk [13,12,12]
  refine aa<|bQ O (fun h87=> ?_) (fun h87=> ?_)
  .refine aY (id:=3) rfl<|have hok:r70.ok=true:=oY;have hwy:r70.wy=wy:=(by rw[<-NG];exact aqf (by rw[NG];exact hok));?_
   rw[hwy]at ase
   have hlo:=agx (cl:=(bg (rG cs us an aS qs sn ai.length ⟨ai,aX,[],List.replicate qs.length false⟩).cs)) (us:=us) (sh:=(an.getD (qs.getD x.toNat cI).aS.toNat oF).p.sh) (q:=(qs.getD x.toNat cI)) (wy:=wy) (fun k hk=>(IM k hk).2.2) J htk.2
   rw[NG]at hlo
   have asf:=hst cM eo Iz lT x hI r70 NG hok
   have Uz:=TJ (acz.at RD.aS.1 RD.aS.2).dep (bg (rG cs us an aS qs sn ai.length ⟨ai,aX,[],List.replicate qs.length false⟩).cs) us (an.getD (qs.getD x.toNat cI).aS.toNat oF).p.sh (qs.getD x.toNat cI) cM eo Iz (lT.set x.toNat false) wy f1
   rw[NG]at Uz
   refine⟨(ayn,q72,aEH,r70.ai,r70.aX,r70.wl,r70.wi,new++ayo,acq++Lb,Z76,TI (an.getD (qs.getD x.toNat cI).aS.toNat oF).d r70.ks f1,a+1,(Z76++(acq++(Lb++R1)))),?_,MB.u4.u4.u4.u4.u1,(Hp.conv Fx (by simp only[dg,hwy];done)),?_,?_,?_,?_,?_,?_,?_,?_,?_,?_,?_⟩
   .exact asf.2
   .exact asf.1
   .exact hlo
   ·(simp only[dg])
   .exact ayq
   .exact(hcj.trans Uz).more J J J
   ·(have:=asf.2;omega)
   .exact aEI
   .exact ame.mono fun e he=>(by rw[dg];exact bB _ he)
   .exact(fun x hx=>by rcases eF.1 hx with q|q;exact⟨(U5 x q).1.mono (fun e he=>bB _ he),(U5 x q).2⟩;exact⟨(amf x q).1.mono (fun e he=>dy _ he),(amf x q).2⟩)
   ·(have:=ayp;have:=uH (cl:=(bg (rG cs us an aS qs sn ai.length ⟨ai,aX,[],List.replicate qs.length false⟩).cs)) (i:=(qs.getD x.toNat cI).to.var);rw[cV];omega)
   exact hbk.trans ase
  refine ak<|SR<|va (v:=B false) rfl<|aa<|aj<|have hrf:r70.ok=false:=oY;have hno:=aqg (cl:=(bg (rG cs us an aS qs sn ai.length ⟨ai,aX,[],List.replicate qs.length false⟩).cs)) (us:=us) (sh:=(an.getD (qs.getD x.toNat cI).aS.toNat oF).p.sh) (q:=(qs.getD x.toNat cI)) (ai:=cM) (aX:=eo) (wl:=Iz) (wi:=lT.set x.toNat false) (wy:=wy) (by rw[NG];exact hrf);?_
  rw[NG]at hno
  have Uz:=TJ (acz.at RD.aS.1 RD.aS.2).dep (bg (rG cs us an aS qs sn ai.length ⟨ai,aX,[],List.replicate qs.length false⟩).cs) us (an.getD (qs.getD x.toNat cI).aS.toNat oF).p.sh (qs.getD x.toNat cI) cM eo Iz (lT.set x.toNat false) wy f1
  rw[NG]at Uz
  have hbw:=(hbk.wy (fun x hx=>(U5 x hx).2) r70.wy).trans ase
  have Ee:=(Fx.sub (sQ (sQ (sQ sR))))
  rw[hno.1,hno.2]at Ee hbw
  subst UI
  refine ja (v:=B false) O O ⟨false,⟨cM,eo,x::Iz,lT⟩,r70.wy,a+1,aiy,aiz,al8,al9,ama,W39,amb,amc,amd,ayn,new++ayo,((acq++Lb)++[a8.blk b3 (.cells #[pt n] 31 (0,0))]),Z76,_,rfl,.inr ⟨rfl,x,Iz,rfl,by rw[NG];exact hrf,by rw[NG]⟩,hI,hG,ame.mono fun e he=> ?_,fun y hy=> ?_,?_,hbw,ayq,(hcj.trans Uz).more J J J,Hp.conv (by rw[<-dg]at Ee;exact Ee) (by simp only[dg,fH,dZ,tU,ww,sZ];done)⟩
  .simp only[eF]at he⊢;rcases he with q|q|q;exact .inl (.inl (.inr q));exact .inl (.inr q);exact .inr q
  .rcases eF.1 hy with q|q;exact⟨(U5 y q).1.mono (fun e he=>dy _ (bB _ he)),fun _=>(U5 y q).2⟩;exact⟨(amf y q).1.mono (fun e he=>dy _ (dy _ he)),fun _=>(amf y q).2⟩
  (have:=ayp;have:=uH (cl:=(bg (rG cs us an aS qs sn ai.length ⟨ai,aX,[],List.replicate qs.length false⟩).cs)) (i:=(qs.getD x.toNat cI).to.var);rw[cV];omega)
 refine aY (id:=2) rfl<|SR<|V (az cS O FF (iB.oa ((fun x hx=>(mT (mT (mT (mT (mT (mT (mT (mT (mT (mT (mT (mT (mT (mT (mT (bB _ (bB _ hx)))))))))))))))))) _ hb5) (v:=Pn _ _) O))<|V (af O)<|V (fA bU 7 O bp O)<|lI bt iB 3 O O rfl<|ou iB (aZ Tryz.zeroValue3)<|fun b91 w89 sX=>bk sX (i:=0) O (bM O O (v:=I _) O O O (sX.blk (i:=0) O) ay)<|fun w94 Rv=>aa<|ah<|fC (z:=⟨none,_,_,_,_,none⟩) aN O aN Rv sR<|fun w96 Rw=>have UJ:=Rw;AT 0 O UJ (fun w hS=>az cS O FF (hS.oa ((fun x hx=>(mT (mT (mT (mT (mT (mT (mT (mT (mT (mT (mT (mT (mT (mT (mT (mT (bB _ (bB _ hx))))))))))))))))))) _ hb5) (v:=Pn _ _) O))<|AT 1 O UJ (fun w hS=>az cS O FF (hS.oa ((fun x hx=>(mT (mT (mT (mT (mT (mT (mT (mT (mT (mT (mT (mT (mT (mT (mT (mT (bB _ (bB _ hx))))))))))))))))))) _ hb5) (v:=Pn _ _) O))<|AQ 2 O UJ (af O)<|AQ 3 O UJ (fA bU 6 O wv O)<|tV 4 O UJ mK 4 O O rfl<|AT 5 O UJ (fun w hS=>aD (hS.sl (i:=13) O) O mK O)<|AQ 6 O UJ (af O)<|AQ 7 O UJ (fA bU 7 O bp O)<|AD<|bk Rw (i:=4) O (bM O O (v:=I _) O O O (Rw.blk (i:=4) O) aA)<|fun w98 acw=> ?_
 simp only[ij,kf,mA,gA,Nat.reduceAdd]at acw
 refine aa<|SR<|V (az cS O FF (acw.oa ((fun x hx=>(mT (mT (mT (mT (mT (mT (mT (mT (mT (mT (mT (mT (mT (mT (mT (mT (bB _ (bB _ hx))))))))))))))))))) _ hb5) (v:=Pn _ _) O))<| ?_
 refine V (rP bC FF) ?_
 refine ct O (gV _ _ (.seen sn) DI _ (acw.pj [4,4,4,4,4,4,4,4,4,4,4,4])) (aK yd O O) ?_
 rintro _ ayd ⟨rfl,aEJ,MU⟩
 simp only[nE]at MU
 have Pd:=MU.pk [12,12,12,12]
 refine aa<|SR<|va (v:=B true) rfl<|aa<|aj<|have hnil:pe=[]:=List.length_eq_zero_iff.1 (by have h9:=‹¬(0:Int)<_›;simpa using h9);have uP:=Hp.lC (A:=[_,_,_,_,_,_,_,_,_,_,_,_]) (B:=[_]) (R:=Jq) ((Pd.sub (sP (sQ (sQ (sQ sR))))).pj [1,1,1,1,1,1,1,1,1,1,1,1]);?_
 subst UI
 refine ja (v:=B true) O O ⟨true,⟨cM,eo,pe,lT⟩,wy,a,aiy,aiz,al8,al9,ama,W39,amb,amc,amd,aEJ,new++[((iW 88 #[pt b91,pt b3]),.seen sn)],(([a8.blk b91 (.cells #[I sn] 3 (0,0))]++Lb)++[a8.blk b3 (.cells #[pt n] 31 (0,0))]),Jq,f1,rfl,.inl ⟨rfl,hnil,rfl⟩,hI,hG,ame.mono fun e he=> ?_,fun y hy=> ?_,?_,hbk.trans (abN (s:=(NP.mk an aS cM eo ((o5 us)) qs sn ((rG cs us an aS qs sn ai.length ⟨ai,aX,[],List.replicate qs.length false⟩).cs) sk wy wr)) (k:=(qs.length:Int))),ND,hcj,Hp.conv uP (by simp only[dg,fH,dZ,tU,ww,sZ];rfl)⟩
 .simp only[eF]at he⊢;rcases he with q|q|q;exact .inl (.inl (.inr q));exact .inl (.inr q);exact .inr q
 .rcases eF.1 hy with q|q;exact⟨(U5 y q).1.mono (fun e he=>dy _ (bB _ he)),fun _=>(U5 y q).2⟩;rw[fG.1 q];exact⟨⟨_,_,rfl,aA,aA⟩,fun q=>by cases q⟩
 (rw[cV,gI];omega)
theorem HF{s:NP}{R L0 Z:List a8}(o:Int)(ho:0<=o/\o<=lg.length)(hlg:lg.length<=600000000000)(hb:okB (Bt lg o.toNat) s)(hu:∀s1:NP,∀k:Int,o<=k->k<lg.length->okN (lg.getD k.toNat Xm).2 s1->al1 W0 n m R L0 (lg.getD k.toNat Xm) s1)(w:World)(hZ:uR n m s lg tm R L0 Z)(hH:Hp W0 w Z):Calls Tryz.prog 43 #[pt n,I o] w (jF fun u w'=>u= .tuple #[]/\∃Z',uR n m (CD (Bt lg o.toNat) s) (lg.take o.toNat) tm R L0 Z'/\Hp W0 w' Z'):=by
 refine enter func43 rfl ntmps43 rfl ?_
 obtain⟨F1,L2,zT,MW,rfl⟩:=hZ
 have bP:=hH
 simp only[NZ,nE]at bP
 refine ah<|SR<|aG (v:=Pn _ _) rfl<|V (af O)<|V (fA bU 14 O jH O)<|lV gz bP 0 O O rfl<|V (aD (bP.sl (i:=10) O) O gz O)<|V (fK O O J)<|aI rfl<|aa<|aC<| ?_
 obtain⟨Zc,hZc,hHc⟩:∃Z,uR n m s lg tm R L0 Z/\Hp W0 _ Z:=⟨_,⟨F1,L2,zT,MW,rfl⟩,bP⟩
 refine bj (G:=Int×(List a8)) (fun⟨k,Z1⟩ s' w'=>(Fr (4::(rg 11 13 [])) _ s')/\(Hp W0 w' (Z1))/\(s' 4=I (k-1))/\(o<=k)/\(k<=lg.length)/\(uR n m (CD (Bt lg k.toNat) s) lg tm R L0 Z1)) (fun⟨k,Z1⟩=>(k-o).toNat) ((lg.length,Zc)) ⟨Fr.refl _ _,hHc,rfl,J,J,(by rw[agy J];exact hZc)⟩ ?_
 rintro⟨k,Z1⟩ sg7 w7 ⟨Es,eR,Hq,h0,hk,ND⟩
 obtain⟨Ej,acj⟩:=Es.w2 0 1
 refine ah<|SR<|aG Hq<|aG acj<|V (di O O)<|aa<|aF O (fun h9=> ?_) (fun h9=> ?_)
 .refine ak<|ah<|aC<|au<| ?_
  obtain⟨F10,L11,aEM,aEN,rfl⟩:=ND
  have cw:=eR
  simp only[NZ,nE]at cw
  refine aG Ej<|V (af O)<|V (fA bU 14 O jH O)<|lV gz cw 0 O O rfl<|aG Hq<|V (ag (cw.sl (i:=10) O) gz sizeOf1 O O J)<|V (az underlying1 O O ((cw.sl (i:=10) O).cell _ _ (kR (dv:=Xm) J)))<|have hkk:(k-1).toNat<lg.length:=J;have ek:(k-1).toNat+1=k.toNat:=J;have hok:=akZ (o:=o.toNat) J hkk hb;?_
  rw[ek]at hok
  obtain⟨aM4,aEO,aEP,ayr,ays⟩:=hu _ (k-1) J J hok lg tm _ _ ⟨F10,L11,aEM,aEN,rfl⟩ cw
  refine ct O ays (KD ayr (cs:=aEO) aEP) ?_
  rintro _ w20 ⟨rfl,Z21,aEQ,eU⟩
  have hzk:=aEQ
  rw[<-ek,<-abO hkk]at hzk
  refine aa<|au<|aG Hq<|V (fK O O J)<|aI rfl<|aa<| ?_
  refine⟨(k-1,Z21),aW,Es.u4.u4.u4.u1.u1,(Hp.conv eU aM),(aJ I aM),J,J,?_⟩
  exact hzk
 refine aY (id:=0) rfl<|au<|have ek:k=o:=J;?_
 rw[ek]at ND
 obtain⟨F24,L25,ayt,aES,rfl⟩:=ND
 have jC:=eR
 simp only[NZ,nE]at jC
 refine aG Ej<|aG Ej<|V (af O)<|V (fA bU 14 O jH O)<|lV gz jC 0 O O rfl<|aG acj<|V (Cb (jC.sl (i:=10) O) gz sizeOf1 O O J)<|V (af O)<|V (fA bU 14 O jH O)<|have lQ:=Hp.aBz jC (i:=10) O (m:=o.toNat) J;bk lQ (i:=0) O (bM O O (v:=(uW F24.vd (o.toNat))) O (a6 (lQ.get (i:=10) O)).1 (a6 (lQ.get (i:=10) O)).2 (lQ.blk (i:=0) O) aA)<|fun w29 iN=> ?_
 simp only[ij,kf,mA,gA,Nat.reduceAdd]at iN
 refine aa<|p5 O ⟨rfl,_,⟨{F24 with vd:=(uW F24.vd (o.toNat))},L25,⟨ayt.fo,ayt.us⟩,aES,rfl⟩,(iN)⟩
theorem MX(v:Int)(w:World)(hb:w.heap[n]?=some (.cells #[wr,vL,vt,vv,vy,vu,vq,I sn,vW,vU,vT,I cn,B sk,U wy,vd,vm] 111 (0,0)))(hy:Sl w vy 1 aX.length (aX.map U)):Calls Tryz.prog 21 #[pt n,I v] w (Pure (U (if 0<=v/\v<aX.length then aX.getD v.toNat 0 else 0)) w):=by
 refine eH func21 rfl rfl fun hH=>SR<|va (v:=U 0#64) rfl<|aa<|ah<|SR<|aG (v:=Pn _ _) rfl<|V (jB cS O O)<|mB rfl<|cD O rfl<|mI rfl<|V (aL O O)<|mB rfl<|mB rfl<|bI 11 O (fun h2=> ?_) (fun h2=> ?_)
 .refine aG (v:=B true) rfl<|aa<|cr rfl<|SR<|va (v:=U 0#64) rfl<|aa<|aj<|oU O ?_ hH
  (rw[aP J]<;>rfl)
 refine mI rfl<|aG (v:=Pn _ _) rfl<|V (af O)<|V (fA bU 4 O iO O)<|V (az cR O O (hH.dY hb O))<|V (aD (hy.hp hH) O cR O)<|V (di O O)<|mB rfl<|aa<|aF O (fun h4=> ?_) (fun h4=> ?_)
 .refine SR<|va (v:=U 0#64) rfl<|aa<|aj<|oU O ?_ hH
  (rw[aP J]<;>rfl)
 refine ak<|SR<|aG (v:=Pn _ _) rfl<|V (af O)<|V (fA bU 4 O iO O)<|V (az cR O O (hH.dY hb O))<|mI rfl<|V (ag (hy.hp hH) cR cX O O J)<|V (az dU O O ((hy.hp hH).cell _ _ (kR (dv:=0#64) J)))<|aU rfl<|aa<|aj<|oU O ?_ hH
 (rw[aR ⟨J,J⟩]<;>rfl)
theorem IN(w:World)(hb:w.heap[n]?=some (.cells #[wr,vL,vt,vv,vy,vu,vq,I sn,vW,vU,vT,I cn,B sk,U wy,vd,vm] 111 (0,0)))(hm:Sl w vm 1 tm.length (tm.map I)):Calls Tryz.prog 24 #[pt n] w (Pure (I (tm.length:Int)) w):=by
 refine eH func24 rfl rfl fun hH=>SR<|va (v:=I 0) rfl<|aa<|ah<|SR<|aG (v:=Pn _ _) rfl<|V (jB cS O O)<|aa<|dm rfl<|ak<|SR<|aG (v:=Pn _ _) rfl<|V (af O)<|V (fA bU 15 O df O)<|V (az bq O O (hH.dY hb O))<|V (aD (hm.hp hH) O bq O)<|aI rfl<|aa<|aj<|oI O ?_ hH
 rfl
theorem HG(w:World)(hb:w.heap[n]?=some (.cells #[wr,vL,vt,vv,vy,vu,vq,I sn,vW,vU,vT,I cn,B sk,U wy,vd,vm] 111 (0,0))):Calls Tryz.prog 16 #[pt n] w (Pure (.tuple #[U wy,B sk]) w):=by
 refine eH func16 rfl rfl fun hH=>SR<|va (v:=U 0#64) rfl<|va (v:=B false) rfl<|aa<|ah<|SR<|aG (v:=Pn _ _) rfl<|V (jB cS O O)<|aa<|dm rfl<|ak<|ah<|eu aN hH<|fun w1 a7=>have j8:=a7;AQ 0 O j8 (mV (Pn _ _) O)<|AQ 1 O j8 (af O)<|AQ 2 O j8 (fA bU 13 O cX O)<|AT 3 O j8 (fun w hS=>az dU O O (hS.dY hb (v:=U _) O))<|AQ 4 O j8 (mV (Pn _ _) O)<|AQ 5 O j8 (af O)<|AQ 6 O j8 (fA bU 12 O mN O)<|AT 7 O j8 (fun w hS=>az sI O O (hS.dY hb (v:=B _) O))<|AQ 8 O j8 (aV (U _) O)<|AQ 9 O j8 (aV (B _) O)<|AD<|aj<|kp O O O a7.below
theorem HH(v:Int)(w:World)(hb:w.heap[n]?=some (.cells #[wr,vL,vt,vv,vy,vu,vq,I sn,vW,vU,vT,I cn,B sk,U wy,vd,vm] 111 (0,0)))(hv:Sl w vv 8 ai.length (ai.flatMap sC)):Calls Tryz.prog 23 #[pt n,I v] w (Pure (.agg (iU (if 0<=v/\v<ai.length then ai.getD v.toNat dh else dh))) w):=by
 refine eH func23 rfl rfl fun hH=>SR<|ou hH (aZ js)<|fun b3 w1 a7=>aa<|ah<|SR<|aG (v:=Pn _ _) rfl<|V (jB cS O O)<|mB rfl<|cD O rfl<|mI rfl<|V (aL O O)<|mB rfl<|mB rfl<|bI 11 O (fun h5=> ?_) (fun h5=> ?_)
 .refine aG (v:=B true) rfl<|aa<|cr rfl<|SR<|V (dD (vs:=[]) O (xC))<|bk a7 (i:=0) O (ef O O O (a7.blk (i:=0) O))<|fun w8 iv=>aa<|aj<|vC O O iv (i:=0) O cA O mO ⟨?_,iv.below⟩
  (rw[aP J]<;>rfl)
 refine mI rfl<|aG (v:=Pn _ _) rfl<|V (af O)<|V (fA bU 3 O mq O)<|V (az dL O O (a7.dY hb O))<|V (aD (hv.hp a7) O dL O)<|V (di O O)<|mB rfl<|aa<|aF O (fun h11=> ?_) (fun h11=> ?_)
 .refine SR<|V (dD (vs:=[]) O (xC))<|bk a7 (i:=0) O (ef O O O (a7.blk (i:=0) O))<|fun Na iu=>aa<|aj<|vC O O iu (i:=0) O cA O mO ⟨?_,iu.below⟩
  (rw[aP J]<;>rfl)
 refine ak<|SR<|aG (v:=Pn _ _) rfl<|V (af O)<|V (fA bU 3 O mq O)<|V (az dL O O (a7.dY hb O))<|mI rfl<|V (ag (hv.hp a7) dL gN O O J)<|V (ld (hv.hp a7) cA O O O J)<|bk a7 (i:=0) O (ef O O O (a7.blk (i:=0) O))<|fun Uc j7=>aa<|aj<|vC O O j7 (i:=0) O cA O mO ⟨?_,j7.below⟩
 (rw[aR ⟨J,J⟩]<;>rfl)
section
theorem Yj{R L0:List a8}{s:NP}{x:Value}{v:Int}{was:El}{had:BitVec 64}(hx:l9 NX n L0 (x,.raise v was had))(hok:okN (.raise v was had) s):al1 W0 n m R L0 (x,.raise v was had) s:=by
 rintro lg tm Z w ⟨F,L,hI,hL,rfl⟩ hH
 obtain⟨b1,b2,b3,b4,hf,hb1,U2,hb3,hb4⟩:=hx
 subst hf
 refine⟨_,[pt b1,pt b2,pt b3,pt b4],rfl,call193,?_⟩
 refine(Em hok _ (bB _ (bB _ (hL _ _ hb1))) (bB _ (bB _ (hL _ _ U2))) (bB _ (bB _ (hL _ _ hb3))) (bB _ (bB _ (hL _ _ hb4))) hH).mono fun e w' hr=>jF.mono ?_ hr
 rintro u w' ⟨rfl,hh⟩
 exact⟨rfl,_,⟨F,L,⟨hI.fo,hI.us⟩,hL,rfl⟩,hh⟩
theorem Yk{R L0:List a8}{s:NP}{x:Value}{k:Int}(hm:m<=100000)(hx:l9 NX n L0 (x,.merge k)):al1 W0 n m R L0 (x,.merge k) s:=by
 rintro lg tm Z w ⟨F,L,hI,hL,rfl⟩ hH
 obtain⟨b1,b2,hf,hb1,U2⟩:=hx
 subst hf
 refine⟨_,[pt b1,pt b2],rfl,call157,?_⟩
 refine(En (R:=F.us.map (dB 3)++R) hm _ (by rw[dg];exact bB _ (bB _ (hL _ _ hb1))) (by rw[dg];exact bB _ (bB _ (hL _ _ U2))) hI.fo (by rw[dg];exact hH)).mono fun e w' hr=>jF.mono ?_ hr
 rintro u w' ⟨rfl,zvW,zvU,zvT,zcW,zcU,zW,zul,zts,zcn,Lb,hfo,hh⟩
 exact⟨rfl,_,⟨{F with vW:=zvW,vU:=zvU,vT:=zvT,cW:=zcW,cU:=zcU,W:=zW,ul:=zul,ts:=zts,cn:=zcn},Lb++L,⟨hfo,hI.us⟩,fun b o h=>bB _ (hL b o h),rfl⟩,by rw[dg]at hh;exact hh⟩
theorem amg{R L0:List a8}{s:NP}{x:Value×lK}(hm:m<=100000)(hx:l9 NX n L0 x)(hr:G7 x.2)(hok:okN x.2 s):al1 W0 n m R L0 x s:=by
 obtain⟨v,c⟩:=x
 cases c with
 |raise v was had=>exact Yj hx hok
 |merge k=>exact Yk hm hx
 |_=>exact hr.elim
end
theorem FH{s:NP}{L0 Z:List a8}{ids:List Nat}{tl:List (Nat×Rl)}{f:Ct}{nk:Nat}{Zf:List a8}(Jzz:xx->Prop)(mu:xx->Nat)(M:Nat)(hm:m+s.ai.length<=100000)(hok:Fa s)(hwy:s.sk=false->s.wy=0)(hlg:lg.length+1000*M<=400000000000)(htm:tm.length<=100000000)(hf:D3 nk f)(hnk:nk+3*M<=90000000000)(hJ:∀us:List jx,o5 us=s.us->Jzz (TL (rG s.cs us s.an s.aS s.qs s.sn s.ai.length ⟨s.ai,s.aX,[],List.replicate s.qs.length false⟩).s s.sn s.qs.length)/\mu (TL (rG s.cs us s.an s.aS s.qs s.sn s.ai.length ⟨s.ai,s.aX,[],List.replicate s.qs.length false⟩).s s.sn s.qs.length)<=M/\∀cM eo Iz lT x,Jzz ⟨cM,eo,x::Iz,lT⟩->∀r,mE (bg (rG s.cs us s.an s.aS s.qs s.sn s.ai.length ⟨s.ai,s.aX,[],List.replicate s.qs.length false⟩).cs) us (s.an.getD (s.qs.getD x.toNat cI).aS.toNat oF).p.sh (s.qs.getD x.toNat cI) cM eo Iz (lT.set x.toNat false) s.wy=r->r.ok=true->Jzz ⟨r.ai,r.aX,r.wl,r.wi⟩/\mu ⟨r.ai,r.aX,r.wl,r.wi⟩<mu ⟨cM,eo,x::Iz,lT⟩)(w:World)(hT:oq W0)(hlv:TH TX (Kz (Kw W0) L0) ids tl s.an)(hZ:j5 (Ae fr) ids f tl Zf)(HA:Xg (Kz (Kw W0) L0) s.qs)(hZn:uR n m s lg tm Zf L0 Z)(hH:Hp W0 w Z):Calls Tryz.prog 15 #[pt n] w (jF fun u w'=>(s.sk=true/\u=B false/\∃Z',uR n m s lg tm Zf L0 Z'/\Hp W0 w' Z')\/(s.sk=false/\∃(us:List jx) (ok:Bool) (c:xx) (RR:BitVec 64) (a:Nat) (s':NP) (new:List (Value×lK)) (L1 Z' Zf':List a8) (f':Ct),o5 us=s.us/\u=B ok/\SpR (bg (rG s.cs us s.an s.aS s.qs s.sn s.ai.length ⟨s.ai,s.aX,[],List.replicate s.qs.length false⟩).cs) us s.an s.qs c ok s.wy RR/\Jzz c/\a+mu c<=mu (TL (rG s.cs us s.an s.aS s.qs s.sn s.ai.length ⟨s.ai,s.aX,[],List.replicate s.qs.length false⟩).s s.sn s.qs.length)+(if ok then 0 else 1)/\s'=(if ok then(NP.mk s.an s.aS c.ai c.aX s.us s.qs s.qs.length (rG s.cs us s.an s.aS s.qs s.sn s.ai.length ⟨s.ai,s.aX,[],List.replicate s.qs.length false⟩).cs s.sk s.wy s.wr)else{s with sk:=true,wy:=RR})/\(∀x∈new,l9 NX n L1 x)/\new.length<=1001*s.ai.length+1000*a+1/\iz new s s'/\(∀b o,a8.blk b o∈L0->a8.blk b o∈L1)/\j5 (Ae fr) ids f' tl Zf'/\oG f f' a a (a+(rG s.cs us s.an s.aS s.qs s.sn s.ai.length ⟨s.ai,s.aX,[],List.replicate s.qs.length false⟩).j)/\uR n (m+s.ai.length) s' (lg++new) (tm++[(lg.length:Int)]) Zf' L1 Z'/\Hp W0 w' Z')):=by
 refine enter func15 rfl ntmps15 rfl ?_
 obtain⟨F1,L2,zT,MW,rfl⟩:=hZn
 have bP:=hH
 simp only[NZ,nE]at bP
 have jg:=Hp.lC (A:=[_,_,_,_,_,_,_,_,_,_,_,_]) (B:=F1.us.map (dB 3)) (R:=Zf) bP
 simp only[fH,dZ]at jg
 refine SR<|gX jg (v:=Pn _ _) rfl<|fun b9 w7 eX=>va (v:=B false) rfl<|aa<|ah<|SR<| ?_
 obtain⟨R1,UI⟩:∃R1:List a8,R1=[a8.blk b9 (.cells #[pt n] 31 (0,0))]++(F1.us.map (dB 3)++L2):=⟨_,rfl⟩
 have bS:=Hp.lC (A:=[_,_,_,_,_,_,_,_,_,_,_,_]) (B:=[a8.blk b9 (.cells #[pt n] 31 (0,0))]) (R:=Zf) (eX.pj [1,1,1,1,1,1,1,1,1,1,1,1])
 rw[<-UI]at bS
 simp only[fH,dZ]at bS
 have acA:a8.blk b9 (.cells #[pt n] 31 (0,0))∈R1:=by rw[UI];simp
 have hle:Le (Kz (Kw W0) L0) (Kz (Kw W0) R1):=Le.zb fun b o h=>by rw[UI];exact bB _ (bB _ (MW b o h))
 have acz:=hlv.mono hle
 have al7:=HA.mono hle
 have MT:=zT.fo.mono (L':=R1) fun e he=>by rw[UI];exact bB _ (bB _ he)
 refine V (az cS O O (bS.oa ((fun x hx=>(mT (mT (mT (mT (mT (mT (mT (mT (mT (mT (mT (mT (bB _ hx)))))))))))))) _ acA) (v:=Pn _ _) O))<|aE O bS (nQ _ (bS.blk (i:=0) O)) (aq call40 O)<|fun Cx bY=>V (bK O)<|aa<|bQ O (fun xF=> ?_) (fun xF=> ?_)
 .refine SR<|va (v:=B false) rfl<|aa<|aj<|have er:=(bY);?_
  subst UI
  exact ja (v:=B false) O O (.inl ⟨jM,rfl,_,⟨F1,[]++([a8.blk b9 (.cells #[pt n] 31 (0,0))]++L2),⟨zT.fo.mono fun e he=>bB _ (bB _ he),zT.us⟩,fun b o h=>bB _ (bB _ (MW b o h)),rfl⟩,Hp.Xn (A:=[_,_,_,_,_,_,_,_,_,_,_,_]) (Lb:=[]) (E:=[a8.blk b9 (.cells #[pt n] 31 (0,0))]) er⟩)
 refine ak<|SR<|V (az cS O O (bY.oa ((fun x hx=>(mT (mT (mT (mT (mT (mT (mT (mT (mT (mT (mT (mT (bB _ hx)))))))))))))) _ acA) (v:=Pn _ _) O))<|ct O (oQ J _ bY) (aq call41 O)<| ?_
 rintro _ w20 ⟨rfl,v22,fD⟩
 simp only[nE]at fD
 refine aa<|SR<|V (az cS O O (fD.oa ((fun x hx=>(mT (mT (mT (mT (mT (mT (mT (mT (mT (mT (mT (mT (bB _ hx)))))))))))))) _ acA) (v:=Pn _ _) O))<|V (af O)<|V (fA bU 14 O jH O)<|lV gz fD 0 O O rfl<|V (aD (fD.sl (i:=10) O) O gz O)<|aI rfl<|aa<|ah<|SR<|V (az cS O O (fD.oa ((fun x hx=>(mT (mT (mT (mT (mT (mT (mT (mT (mT (mT (mT (mT (bB _ hx)))))))))))))) _ acA) (v:=Pn _ _) O))<|have IM:∀k:Nat,k<F1.us.length->dB 3 (F1.us.getD k cP)∈R1/\(F1.us.getD k cP).l.length<=1000/\∀i∈(F1.us.getD k cP).l,0<=i/\i<(s.qs.length:Int):=(fun k hk=>by rw[UI];exact⟨bB _ (TN hok zT.us (L:=[]) k hk|>.1|>fun q=>by rw[lU]at q;exact dy _ q),(TN hok zT.us (t:=0) (L:=[]) k hk).2⟩);have alV:F1.us.length=s.ai.length:=(by rw[<-fQ,zT.us];exact hok.M7);?_
 obtain⟨hJ0,hJ1,hJ2⟩:=hJ _ zT.us
 refine ct O (FG Jzz mu hm hok.RQ alV hok.n8 hok.ON J IM hf J hok.UZ hok.hqn hok.hqo hok.hlt hok.hlr hJ0 hJ2 _ hT acz hZ al7 MT fD) (aq call42 O) ?_
 rintro _ w43 ⟨ayu,acB,ami,a28,ayv,ayw,ayx,ayy,ayz,W50,ayA,ayB,ayC,ayD,ayE,RE,Z32,f33,rfl,amj,ayF,ayG,aoq,asg,aEU,UK,ayH,ayI,wT⟩
 simp only[nE]at wT
 refine aa<|bQ O (fun h55=> ?_) (fun h55=> ?_)
 .refine SR<|va (v:=B true) rfl<|aa<|aj<|have Eu:s.sk=false:=jM;have hof:ayu=true:=oY;have oo:=(wT);?_
  subst hof
  subst UI
  simp only[tU]at oo UK
  rw[zT.us]at UK
  have aEV:ami=s.wy:=by rcases amj with⟨_,_,q⟩|⟨q,_⟩;exact q;cases q
  rw[aEV]at oo UK amj
  refine ja (v:=B true) O O (.inr ⟨Eu,F1.us,true,acB,s.wy,a28,_,ayE,(RE++([a8.blk b9 (.cells #[pt n] 31 (0,0))]++L2)),_,Z32,f33,zT.us,rfl,amj,ayF,ayG,rfl,(fun x hx=>(asg x hx).1.mono fun e he=>dy _ he),aEU,UK,(fun b o h=>bB _ (bB _ (MW b o h))),ayH,ayI,⟨{F1 with vW:=ayv,vU:=ayw,vT:=ayx,cW:=ayy,cU:=ayz,W:=W50,ul:=ayA,ts:=ayB,cn:=ayC,vd:=ayD,vm:=v22},(RE++([a8.blk b9 (.cells #[pt n] 31 (0,0))]++L2)),⟨aoq.C3 fun b o h=>TO h,zT.us⟩,fun _ _ h=>h,rfl⟩,Hp.Xn (A:=[_,_,_,_,_,_,_,_,_,_,_,_]) oo⟩)
 refine ak<|SR<|V (az cS O O (wT.oa ((fun x hx=>(mT (mT (mT (mT (mT (mT (mT (mT (mT (mT (mT (mT (bB _ (bB _ hx))))))))))))))) _ acA) (v:=Pn _ _) O))<|V (af O)<|V (fA bU 13 O cX O)<|V (az dU O O (wT.cell (i:=0) O (v:=U _) O))<|aU rfl<|aa<|SR<|V (az cS O O (wT.oa ((fun x hx=>(mT (mT (mT (mT (mT (mT (mT (mT (mT (mT (mT (mT (bB _ (bB _ hx))))))))))))))) _ acA) (v:=Pn _ _) O))<|mI rfl<|have hof:ayu=false:=oY;have Yl:=(wT);?_
 subst hof
 subst UI
 simp only[sZ,ww]at Yl UK ayG
 have ON:=hok.ON
 rw[zT.us]at UK
 obtain⟨Zc,hZc,hHc⟩:∃Z,uR n (m+s.ai.length) (NP.mk s.an s.aS acB.ai acB.aX s.us s.qs s.sn (rG s.cs F1.us s.an s.aS s.qs s.sn s.ai.length ⟨s.ai,s.aX,[],List.replicate s.qs.length false⟩).cs s.sk ami s.wr) (lg++ayE) (tm++[(lg.length:Int)]) Z32 (RE++([a8.blk b9 (.cells #[pt n] 31 (0,0))]++L2)) Z/\Hp W0 _ Z:=⟨_,⟨{F1 with vW:=ayv,vU:=ayw,vT:=ayx,cW:=ayy,cU:=ayz,W:=W50,ul:=ayA,ts:=ayB,cn:=ayC,vd:=ayD,vm:=v22},(RE++([a8.blk b9 (.cells #[pt n] 31 (0,0))]++L2)),⟨aoq.C3 fun b o h=>TO h,zT.us⟩,fun _ _ h=>h,rfl⟩,Hp.Xn (A:=[_,_,_,_,_,_,_,_,_,_,_,_]) Yl⟩
 refine ct O (HF (s:=(NP.mk s.an s.aS acB.ai acB.aX s.us s.qs s.sn (rG s.cs F1.us s.an s.aS s.qs s.sn s.ai.length ⟨s.ai,s.aX,[],List.replicate s.qs.length false⟩).cs s.sk ami s.wr)) (R:=Z32) (L0:=(RE++([a8.blk b9 (.cells #[pt n] 31 (0,0))]++L2))) (Z:=Zc) (lg.length:Int) DI DI (by rw[dW,TM];exact UK.ok) (fun s1 k h1 h2 hok=>amg hm ((asg _ (ZB h1 h2)).1.mono fun e he=>dy _ he) ((asg _ (ZB h1 h2)).2 O) hok) _ hZc hHc) (aK call43 O O) ?_
 rintro _ w60 ⟨rfl,Z61,ayJ,pc⟩
 rw[dW,TM,tR,UK.und]at ayJ
 obtain⟨F64,L65,ayK,amk,rfl⟩:=ayJ
 have kD:=pc
 simp only[NZ,nE]at kD
 refine aa<|ah<|fC (z:=⟨none,_,_,_,_,none⟩) aN O aN kD (sQ sR)<|fun w69 uN=>have MH:=uN.sub (sQ sR);AT 0 O MH (fun w hS=>az cS O O (hS.oa ((fun x hx=>(mT (mT (mT (mT (mT (mT (mT (mT (mT (mT (mT (bB _ (bB _ hx)))))))))))))) _ (amk _ _ (show a8.blk b9 (.cells #[pt n] 31 (0,0))∈(RE++([a8.blk b9 (.cells #[pt n] 31 (0,0))]++L2))by simp))) (v:=Pn _ _) O))<|AT 1 O MH (fun w hS=>az cS O O (hS.oa ((fun x hx=>(mT (mT (mT (mT (mT (mT (mT (mT (mT (mT (mT (bB _ (bB _ hx)))))))))))))) _ (amk _ _ (show a8.blk b9 (.cells #[pt n] 31 (0,0))∈(RE++([a8.blk b9 (.cells #[pt n] 31 (0,0))]++L2))by simp))) (v:=Pn _ _) O))<|AQ 2 O MH (mV (U _) O)<|AQ 3 O MH (af O)<|AQ 4 O MH (fA bU 12 O mN O)<|A1 5<|eK O aH uN (j:=0) O (sQ sR) (bM O O (v:=B true) O O O (uN.blk (i:=0) O) aA)<|fun w73 wU=> ?_
 simp only[ij,kf,mA,gA,Nat.reduceAdd]at wU
 refine AQ 6 O (wU.sub (sQ sR)) (af O)<|AQ 7 O (wU.sub (sQ sR)) (fA bU 13 O cX O)<|AD<|bk wU (i:=0) O (bM O O (v:=U _) O O O (wU.blk (i:=0) O) aA)<|fun w75 qF=> ?_
 simp only[ij,kf,mA,gA,Nat.reduceAdd]at qF
 refine aa<|SR<|V (az cS O O (qF.oa ((fun x hx=>(mT (mT (mT (mT (mT (mT (mT (mT (mT (mT (mT (mT (bB _ (bB _ hx))))))))))))))) _ (amk _ _ (show a8.blk b9 (.cells #[pt n] 31 (0,0))∈(RE++([a8.blk b9 (.cells #[pt n] 31 (0,0))]++L2))by simp))) (v:=Pn _ _) O))<| ?_
 refine V (A6 bC) ?_
 refine ct O (gV _ _ .stuck J _ qF) (aK yd O O) ?_
 rintro _ w79 ⟨rfl,v81,pM⟩
 simp only[nE]at pM
 refine aa<|SR<|va (v:=B false) rfl<|aa<|aj<|have Eu:s.sk=false:=jM;have pP:=(pM);ja (v:=B false) O O (.inr ⟨Eu,F1.us,false,acB,ami,a28,_,[((iW 45 #[pt b9]),.stuck)],(RE++([a8.blk b9 (.cells #[pt n] 31 (0,0))]++L2)),_,Z32,f33,zT.us,rfl,amj,ayF,hG,rfl,(fun x hx=>by rw[fG.1 hx];exact⟨_,rfl,aA⟩),(by rw[gI];omega),Xo Eu (hwy Eu),(fun b o h=>bB _ (bB _ (MW b o h))),ayH,ayI,⟨{F64 with vd:=v81,vm:=F64.vm},L65,⟨ayK.fo,ayK.us⟩,amk,rfl⟩,pP⟩)
theorem MY(x:Value)(hx:x.cells=#[x])(w:World):Calls Tryz.prog 36 #[x] w (jF fun u w'=>∃(n:Nat) (Z:List a8),u=pt n/\Hp w w' Z/\uR n 0 (NP.mk [] [] [] [] [] [] 0 [[]] false 0 x) [] [] [] [] Z):=by
 refine eH func36 rfl rfl fun hH=>SR<|va (v:= .pointer none) rfl<|aa<|SR<|V (run_move (show _=x from O))<|V (dD (vs:=[(0,x)]) O (acs hx))<|gX hH (v:= .agg _) rfl<|fun b3 w1 a7=>va (v:=Pn _ _) rfl<|aa<|aj<|have hN:=(((((((((((a7.fl 3 1).fl 1 1).fl 128 13).fl 99 1).fl 35 1).fl 37 8).fl 3 1).fl 119 13).fl 3 1).fl 1 1).fl 35 1);ja O (v:=pt b3) O ⟨b3,_,rfl,hN.perm (sE (l₁:=[_,_,_,_,_,_,_,_,_,_,_]) (l₂:=[_])),⟨.slice none 0 0,.slice none 0 0,.slice none 0 0,.slice none 0 0,.slice none 0 0,.slice none 0 0,.slice none 0 0,.slice none 0 0,.slice none 0 0,0,.slice none 0 0,.slice none 0 0,none,none,[],[],[],[]⟩,[],⟨⟨⟨[],rfl,trivial,trivial,⟨rfl,rfl,rfl⟩,trivial,(fun x hx=>by cases hx),eI _,eI _⟩,rfl⟩,rfl⟩,(fun b o h=>n4),rfl⟩
theorem MZ{s:NP}{L0 Z:List a8}{ids:List Nat}{tl:List (Nat×Rl)}{f:Ct}{Zf:List a8}(p:kL)(hfn:p.aT.length<=1000)(hnn:∀f∈p.aT,f.names.length<=1000)(hll:s.an.length<=1000)(hlg:lg.length<=550000000000)(htm:tm.length<=100000000)(hwr:WrF s.wr ids)(w:World)(hT:oq W0)(hsh:kO (Kz (Kw W0) L0) p)(hZ:j5 (Ae fr) ids f tl Zf)(hZn:uR n m s lg tm Zf L0 Z)(hH:Hp W0 w Z):Calls Tryz.prog 19 #[pt n,.agg (rp p)] w (jF fun u w'=>((s.sk=true\/qL p.sh=false)/\u=I (-1)/\∃Z',uR n m s lg tm Zf L0 Z'/\Hp W0 w' Z')\/(s.sk=false/\∃(x:oP) (fv:Value) (OS:List (Nat×Rl)) (L1 Z' Zf':List a8),qL p.sh=true/\u=I s.an.length/\x.p.sh=p.sh/\x.low=gQ p.sh eM/\WrD s.wr x.d/\(∀b o,a8.blk b o∈L0->a8.blk b o∈L1)/\U1 TX (Kz (Kw W0) L1) ids (tl++OS) x/\l9 NX n L1 (fv,.aS s.an.length)/\j5 (Ae fr) ids f (tl++OS) Zf'/\iz [(fv,.aS s.an.length)] s {s with an:=s.an++[x]}/\uR n m {s with an:=s.an++[x]} (lg++[(fv,.aS s.an.length)]) (tm++[(lg.length:Int)]) Zf' L1 Z'/\Hp W0 w' Z')):=by
 refine enter func19 rfl ntmps19 rfl ?_
 obtain⟨F1,L2,zT,MW,rfl⟩:=hZn
 have bP:=hH
 simp only[NZ,nE]at bP
 have jg:=Hp.lC (A:=[_,_,_,_,_,_,_,_,_,_,_,_]) (B:=F1.us.map (dB 3)) (R:=Zf) bP
 simp only[fH,dZ]at jg
 have ayL:=hsh.mono (Le.zb (K:=Kw W0) MW)
 refine SR<|gX jg (v:=Pn _ _) rfl<|fun b9 w7 eX=>gX eX (v:= .agg _) rfl<|fun b12 Hi dN=>va (v:=I 0) rfl<|aa<|ah<|SR<|lP cS dN 1 O O rfl<|aE O dN (nQ _ (dN.blk (i:=2) O)) (aq call40 O)<|fun C8 cw=>V (bK O)<|mB rfl<|fW 11 O (fun Q9=> ?_) (fun Q9=> ?_)
 .refine aG (v:=B true) rfl<|aa<|cr rfl<|SR<|va (v:=I (-1)) rfl<|aa<|aj<|ja (v:=I (-1)) O O (.inl ⟨jM,rfl,_,⟨F1,L2,zT,MW,rfl⟩,Hp.lC (A:=[_,_,_,_,_,_,_,_,_,_,_,_]) (cw.sub (sQ (sQ sR)))⟩)
 refine V (cG (cs:=[B _,_]) dJ O O O (bf (cw.blk (i:=0) O)))<|aE O cw (wR p _ (ayL.mono (cw.kz (Le.refl _) (fun x hx=>(mT (mT (mT (mT (mT (mT (mT (mT (mT (mT (mT (mT (mT (mT (bB _ (bB _ hx))))))))))))))))))) (hT.hp cw)) (aq call50 O)<|fun Uc j7=>V (bK O)<|mB rfl<|aa<|bQ O (fun h22=> ?_) (fun h22=> ?_)
 .refine SR<|va (v:=I (-1)) rfl<|aa<|aj<|ja (v:=I (-1)) O O (.inl ⟨jM,rfl,_,⟨F1,L2,zT,MW,rfl⟩,Hp.lC (A:=[_,_,_,_,_,_,_,_,_,_,_,_]) (j7.sub (sQ (sQ sR)))⟩)
 refine ak<|SR<|lP cS j7 1 O O rfl<|ct O (oQ J _ (j7.pj [2,2,2,2,2,2,2,2,2,2,2,2])) (aq call41 O)<| ?_
 rintro _ w25 ⟨rfl,v27,j6⟩
 simp only[nE]at j6
 have jC:=j6.pk [12,12]
 refine aa<|SR<|V (cG (cs:=[B _,_]) dJ O O O (bf (jC.blk (i:=0) O)))<|vP 1 1 jC (K1 PG O O O (l:=[p]) O ay ay O)<|fun b31 w29 iN=>Wx O iN (zR (Kz (Kw W0) (F1.us.map (dB 3)++L2)) (.slice (some ⟨b31,0,none⟩) 1 1) [p] (show 1<=1000 by decide) (by simpa using hfn) (by simpa using hnn) _ (iN.kz (Le.refl _) (fun x hx=>(mT (mT (mT (mT (mT (mT (mT (mT (mT (mT (mT (mT (mT (mT (mT (bB _ hx)))))))))))))))))) (Hp.mv KZ iN (i:=0) (l:=[p]) O (show 1<=maxLen by decide)) ⟨fun x hx=>by rw[fG.1 hx];exact ayL.mono (Le.zz fun y hy=>bB _ hy)⟩) (aq call51 O)<|fun v34 w35 Il m6 aEW=>have oK:Hp _ w35 (_::_::_::_::_::_::_::_::_::_::_::_::_::_::_::(Il++(Zf++(F1.us.map (dB 3)++L2)))):=m6.Iq (L:=[_,_,_,_,_,_,_,_,_,_,_,_,_,_,_]) (L':=(Zf++(F1.us.map (dB 3)++L2)));have jD:Hp _ w35 (_::_::_::_::_::_::_::_::_::_::_::_::_::_::_::(Zf++(Il++(F1.us.map (dB 3)++L2)))):=Hp.swz (A:=[_,_,_,_,_,_,_,_,_,_,_,_,_,_,_]) oK;?_
 obtain⟨qP,rfl,aor,asi⟩:=aEW
 refine ou jD (aZ Tryz.zeroValue56)<|fun b47 w45 rK=>bk rK (i:=0) O (GL asi O O O (rK.blk (i:=0) O) O)<|fun w50 u7=> ?_
 simp only[z2,gF,pull]at u7
 refine aa<|SR<|V (fA dJ 0 O mN O)<|V (az sI O O (u7.cell (i:=2) O (v:=B _) O))<|V (fA dJ 0 O mN O)<|bk (c':=#[B p.tuple,qP.fv]) u7 (i:=0) O (bM (off:=0+0) O O (v:=B p.tuple) O O O (u7.blk (i:=0) O) aA)<|fun w53 gk=> ?_
 simp only[z2,gF,pull]at gk
 have U3:kO (Kz (Kw W0) (Il++(F1.us.map (dB 3)++L2))) (⟨p.tuple,qP.fv,qP.aT⟩:kL):=(show kO _ (⟨p.tuple,qP.fv,qP.aT⟩:kL)from⟨asi.aT,asi.each⟩).mono Le.kk
 have hps:(⟨p.tuple,qP.fv,qP.aT⟩:kL).sh=p.sh:=by show(⟨p.tuple,qP.aT.map pI.fc⟩:Sh)=p.sh;rw[OO aor];rfl
 obtain⟨pf1,pf2⟩:=ak0 aor hfn hnn
 refine aa<|DW (G:=(Nat)×(List a8)×(List a8)×(oP)×(List (Nat×Rl))) gk (6::(rg 24 6 [])) (fun(L:List a8) (⟨q6,Z1,Zq,x1,OS⟩:(Nat)×(List a8)×(List a8)×(oP)×(List (Nat×Rl)))=> .blk q6 (.cells (U0 x1).toArray 119 (0,0))::(L.take 16++(Z1++(Zq++(Il++(F1.us.map (dB 3)++L2)))))) (fun(⟨q6,Z1,Zq,x1,OS⟩:(Nat)×(List a8)×(List a8)×(oP)×(List (Nat×Rl))) s'=>(s' 6= .pointer (some ⟨q6,0,none⟩))/\(j5 (Ae fr) ids f (tl++OS) Z1)/\((U1 TX (Kz (Kw W0) (Zq++(Il++(F1.us.map (dB 3)++L2)))) ids (tl++OS) x1))/\(x1.p=(⟨p.tuple,qP.fv,qP.aT⟩:kL))/\(x1.d.dep=0)/\(x1.low=gQ x1.p.sh eM)) ?_ ?_
 .refine fC (z:=⟨none,_,_,_,_,none⟩) aN O aN gk (sP (sP (sP (sP (sP (sP (sP (sP (sP (sP (sP (sP (sP (sP (sP (sP (sA sR)))))))))))))))))<|fun w55 oo=>have asj:=oo.sub (sP (sP (sP (sP (sP (sP (sP (sP (sP (sP (sP (sP (sP (sP (sP (sP (sA sR)))))))))))))))));AT 0 O asj (fun w hS=>cG (cs:=[B _,_]) dJ O O O (bf (hS.blk (i:=0) O)))<|AT 1 O asj (fun w hS=>cG (cs:=[B _,_]) dJ O O O (bf (hS.blk (i:=0) O)))<|AT 3 O asj (fun w hS=>cG (cs:=[B _,_]) dJ O O O (bf (hS.blk (i:=0) O)))<|ic 2 6 aN ?_ ?_
  .refine wF O aH O (MG (Kz (Kw W0) (Il++(F1.us.map (dB 3)++L2))) (⟨p.tuple,qP.fv,qP.aT⟩:kL) pf1 pf2 _ (oo.kz (Le.refl _) (fun x hx=>(mT (mT (mT (mT (mT (mT (mT (mT (mT (mT (mT (mT (mT (mT (mT (mT (bB _ hx))))))))))))))))))) U3) (aq call52 O) (fun u w' ⟨_,_,_,_,_,_,_,_,_,_,_,_,_,_,_,_,_,h⟩=>(oo.call h.below).sub (sP (sP (sP (sP (sP (sP (sP (sP (sP (sP (sP (sP (sP (sP (sP (sP (sA sR)))))))))))))))))) ?_
   rintro _ w59 ⟨f1,f2,f3,a1,a2,a3,p60,acC,aiC,aNi,aiD,rfl,ayM,ayN,aos,aot,ayO,h70⟩
   obtain⟨Z71,aml,u9⟩:∃Z,j5 (Ae fr) ids f (tl++aiC) Z/\Hp _ _ (_::_::_::_::_::_::_::_::_::_::_::_::_::_::_::_::(Z++(aiD++(Il++(F1.us.map (dB 3)++L2))))):=⟨_,hZ.app ayO,Hp.am4 (A:=[_,_,_,_,_,_,_,_,_,_,_,_,_,_,_,_]) (Hp.EK oo h70)⟩
   refine ic 4 6 aN ?_ ?_
   .refine cC O aH O u9 (sP (sP (sP (sP (sP (sP (sP (sP (sP (sP (sP (sP (sP (sP (sP (sP (sA (sA sR)))))))))))))))))) (uL (⟨p.tuple,qP.fv,qP.aT⟩:kL) _ (U3.mono (u9.kz (Le.refl _) (fun x hx=>(mT (mT (mT (mT (mT (mT (mT (mT (mT (mT (mT (mT (mT (mT (mT (mT (bB _ (bB _ hx))))))))))))))))))))) (hT.hp u9)) (aq call53 O)<|fun w74 CG=>AQ 5 O (CG.sub (sP (sP (sP (sP (sP (sP (sP (sP (sP (sP (sP (sP (sP (sP (sP (sP (sA (sA sR))))))))))))))))))) (dD (vs:=[(0,.agg (rp (⟨p.tuple,qP.fv,qP.aT⟩:kL))),(1,.agg #[iW f1 a1,iW f2 a2,iW f3 a3]),(2,.agg (iU (gQ (⟨p.tuple,qP.fv,qP.aT⟩:kL).sh eM)))]) O (wV _ _ _ _ (.base p60 acC) _))<|A1 6<|cN O aH O CG (sP (sP (sP (sP (sP (sP (sP (sP (sP (sP (sP (sP (sP (sP (sP (sP (sA (sA sR)))))))))))))))))) (f:=fun b=> .pointer (some ⟨b,0,none⟩)) (aZ Tryz.zeroValue119)<|fun b78 w76 RF=>AD<|have hlx:U1 TX (Kz (Kw W0) (aiD++(Il++(F1.us.map (dB 3)++L2)))) ids (tl++aiC) ⟨(⟨p.tuple,qP.fv,qP.aT⟩:kL),_,_,_,.base p60 acC,gQ (⟨p.tuple,qP.fv,qP.aT⟩:kL).sh eM⟩:=⟨ayM.mono Le.kk,⟨aos,fun i hi q hq=>bB _ (aot i hi q hq)⟩,ayN,U3.mono (Le.zz fun x hx=>bB _ hx),mo _⟩;bk RF (i:=0) O (dX O O O (Fb hlx) (RF.blk (i:=0) O) O)<|fun w79 pM=> ?_
    simp only[z2,gF,pull]at pM
    refine aa ?_
    refine⟨((Fr.refl _ _)).u4.u1.u1.u1,(b78,Z71,aiD,⟨(⟨p.tuple,qP.fv,qP.aT⟩:kL),_,_,_,.base p60 acC,gQ (⟨p.tuple,qP.fv,qP.aT⟩:kL).sh eM⟩,aiC),(Hp.conv pM aM),rfl,?_,?_,aM,aM,aM⟩
    .exact aml
    exact hlx
   refine cN O aH O u9 (sP (sP (sP (sP (sP (sP (sP (sP (sP (sP (sP (sP (sP (sP (sP (sP (sA (sA sR)))))))))))))))))) (f:=fun b=> .pointer (some ⟨b,0,none⟩)) (aZ Tryz.zeroValue119)<|fun b83 w81 pP=>A1 4<|cC O aH O pP (sQ (sP (sP (sP (sP (sP (sP (sP (sP (sP (sP (sP (sP (sP (sP (sP (sP (sA (sA sR))))))))))))))))))) (uL (⟨p.tuple,qP.fv,qP.aT⟩:kL) _ (U3.mono (pP.kz (Le.refl _) (fun x hx=>(mT (mT (mT (mT (mT (mT (mT (mT (mT (mT (mT (mT (mT (mT (mT (mT (mT (bB _ (bB _ hx)))))))))))))))))))))) (hT.hp pP)) (aq call53 O)<|fun w84 Fx=>AQ 5 O (Fx.sub (sQ (sP (sP (sP (sP (sP (sP (sP (sP (sP (sP (sP (sP (sP (sP (sP (sP (sA (sA sR)))))))))))))))))))) (dD (vs:=[(0,.agg (rp (⟨p.tuple,qP.fv,qP.aT⟩:kL))),(1,.agg #[iW f1 a1,iW f2 a2,iW f3 a3]),(2,.agg (iU (gQ (⟨p.tuple,qP.fv,qP.aT⟩:kL).sh eM)))]) O (wV _ _ _ _ (.base p60 acC) _))<|AD<|have hlx:U1 TX (Kz (Kw W0) (aiD++(Il++(F1.us.map (dB 3)++L2)))) ids (tl++aiC) ⟨(⟨p.tuple,qP.fv,qP.aT⟩:kL),_,_,_,.base p60 acC,gQ (⟨p.tuple,qP.fv,qP.aT⟩:kL).sh eM⟩:=⟨ayM.mono Le.kk,⟨aos,fun i hi q hq=>bB _ (aot i hi q hq)⟩,ayN,U3.mono (Le.zz fun x hx=>bB _ hx),mo _⟩;bk Fx (i:=0) O (dX O O O (Fb hlx) (Fx.blk (i:=0) O) O)<|fun w86 Uq=> ?_
   simp only[z2,gF,pull]at Uq
   refine aa ?_
   refine⟨((Fr.refl _ _)).u4.u1.u1.u1,(b83,Z71,aiD,⟨(⟨p.tuple,qP.fv,qP.aT⟩:kL),_,_,_,.base p60 acC,gQ (⟨p.tuple,qP.fv,qP.aT⟩:kL).sh eM⟩,aiC),(Hp.conv Uq aM),rfl,?_,?_,aM,aM,aM⟩
   .exact aml
   exact hlx
  refine cN O aH O oo (sP (sP (sP (sP (sP (sP (sP (sP (sP (sP (sP (sP (sP (sP (sP (sP (sA sR))))))))))))))))) (f:=fun b=> .pointer (some ⟨b,0,none⟩)) (aZ Tryz.zeroValue119)<|fun b90 w88 Rq=>A1 2<|wF O aH O (MG (Kz (Kw W0) (Il++(F1.us.map (dB 3)++L2))) (⟨p.tuple,qP.fv,qP.aT⟩:kL) pf1 pf2 _ (Rq.kz (Le.refl _) (fun x hx=>(mT (mT (mT (mT (mT (mT (mT (mT (mT (mT (mT (mT (mT (mT (mT (mT (mT (bB _ hx)))))))))))))))))))) U3) (aq call52 O) (fun u w' ⟨_,_,_,_,_,_,_,_,_,_,_,_,_,_,_,_,_,h⟩=>(Rq.call h.below).sub (sQ (sP (sP (sP (sP (sP (sP (sP (sP (sP (sP (sP (sP (sP (sP (sP (sP (sA sR)))))))))))))))))))<| ?_
  rintro _ w93 ⟨f1,f2,f3,a1,a2,a3,p94,asl,asm,aNl,asn,rfl,aEZ,ayP,aso,asp,asq,aE0⟩
  obtain⟨aE1,ayQ,O8⟩:∃Z,j5 (Ae fr) ids f (tl++asm) Z/\Hp _ _ (_::_::_::_::_::_::_::_::_::_::_::_::_::_::_::_::_::(Z++(asn++(Il++(F1.us.map (dB 3)++L2))))):=⟨_,hZ.app asq,Hp.am4 (A:=[_,_,_,_,_,_,_,_,_,_,_,_,_,_,_,_,_]) (Hp.EK Rq aE0)⟩
  refine A1 4<|cC O aH O O8 (sQ (sP (sP (sP (sP (sP (sP (sP (sP (sP (sP (sP (sP (sP (sP (sP (sP (sA (sA sR))))))))))))))))))) (uL (⟨p.tuple,qP.fv,qP.aT⟩:kL) _ (U3.mono (O8.kz (Le.refl _) (fun x hx=>(mT (mT (mT (mT (mT (mT (mT (mT (mT (mT (mT (mT (mT (mT (mT (mT (mT (bB _ (bB _ hx)))))))))))))))))))))) (hT.hp O8)) (aq call53 O)<|fun aE2 Pf=>AQ 5 O (Pf.sub (sQ (sP (sP (sP (sP (sP (sP (sP (sP (sP (sP (sP (sP (sP (sP (sP (sP (sA (sA sR)))))))))))))))))))) (dD (vs:=[(0,.agg (rp (⟨p.tuple,qP.fv,qP.aT⟩:kL))),(1,.agg #[iW f1 a1,iW f2 a2,iW f3 a3]),(2,.agg (iU (gQ (⟨p.tuple,qP.fv,qP.aT⟩:kL).sh eM)))]) O (wV _ _ _ _ (.base p94 asl) _))<|AD<|have hlx:U1 TX (Kz (Kw W0) (asn++(Il++(F1.us.map (dB 3)++L2)))) ids (tl++asm) ⟨(⟨p.tuple,qP.fv,qP.aT⟩:kL),_,_,_,.base p94 asl,gQ (⟨p.tuple,qP.fv,qP.aT⟩:kL).sh eM⟩:=⟨aEZ.mono Le.kk,⟨aso,fun i hi q hq=>bB _ (asp i hi q hq)⟩,ayP,U3.mono (Le.zz fun x hx=>bB _ hx),mo _⟩;bk Pf (i:=0) O (dX O O O (Fb hlx) (Pf.blk (i:=0) O) O)<|fun aNm UL=> ?_
  simp only[z2,gF,pull]at UL
  refine aa ?_
  refine⟨((Fr.refl _ _)).u4.u1.u1.u1,(b90,aE1,asn,⟨(⟨p.tuple,qP.fv,qP.aT⟩:kL),_,_,_,.base p94 asl,gQ (⟨p.tuple,qP.fv,qP.aT⟩:kL).sh eM⟩,asm),(Hp.conv UL aM),rfl,?_,?_,aM,aM,aM⟩
  .exact ayQ
  exact hlx
 rintro⟨q6,Z1,Zq,x1,OS⟩ aIy axN ayR B0 ⟨RG,ND,hx1,hxp,hxd,WD⟩
 simp only[FM,we,fH,dZ]at B0
 have sY:=ayR.w1 2
 refine ah<|SR<|V (az cS O sY (B0.cell (i:=4) O (v:=Pn _ _) O))<|V (af O)<|V (fA bU 0 O sizeOf74 O)<|lV underlying74 B0 5 O O rfl<|V (abQ hwr.fn underlying74 O O)<|aa<|bQ O (fun arH=> ?_) (fun arH=> ?_)
 .obtain⟨mwf,fwf,cwf,hwf,aE3,aE4,aE5⟩:=hwr.yes aQ
  refine fC (z:=⟨none,_,_,_,_,none⟩) aN O aN B0 (sP (sP (sP (sP (sP (sP (sP (sP (sP (sP (sP (sP (sP (sP (sP (sP (sP (sA sR))))))))))))))))))<|fun asc Dp=>have Pg:=Dp.sub (sP (sP (sP (sP (sP (sP (sP (sP (sP (sP (sP (sP (sP (sP (sP (sP (sP (sA sR))))))))))))))))));AT 0 O Pg (fun w hS=>az cS O sY (hS.cell (i:=4) O (v:=Pn _ _) O))<|AQ 1 O Pg (af O)<|AQ 2 O Pg (fA bU 0 O sizeOf74 O)<|tV 3 O Pg underlying74 5 O O rfl<|AQ 4 O Pg (fA AJ 2 O sizeOf117 RG)<|AT 5 O Pg (fun w hS=>ix (sub:=[_,_,_]) pV O O O (hS.blk (i:=0) O) O)<|A1 6<|wF O aH O (aE5 (Kz (Kw W0) (Zq++(Il++(F1.us.map (dB 3)++L2)))) x1.d x1.e x1.l x1.j _ (Dp.kz (Le.refl _) (fun x hx=>(mT (mT (mT (mT (mT (mT (mT (mT (mT (mT (mT (mT (mT (mT (mT (mT (mT (bB _ hx)))))))))))))))))))) hx1.ops) (kH aE4 (cs:=cwf) (rfl.trans hwf) O) (fun u w' ⟨_,h,_⟩=>(Dp.call h.below).sub (sP (sP (sP (sP (sP (sP (sP (sP (sP (sP (sP (sP (sP (sP (sP (sP (sP (sA sR)))))))))))))))))))<| ?_
  rintro _ aNp ⟨M0,ar0,g1,g2,g3,c1,c2,c3,rfl,ayS⟩
  have Ij:Hp _ _ (_::_::_::_::_::_::_::_::_::_::_::_::_::_::_::_::_::(Z1++(M0++(Zq++(Il++(F1.us.map (dB 3)++L2)))))):=Hp.swz (A:=[_,_,_,_,_,_,_,_,_,_,_,_,_,_,_,_,_]) (Hp.Iq (L:=[_,_,_,_,_,_,_,_,_,_,_,_,_,_,_,_,_]) (L':=(Z1++(Zq++(Il++(F1.us.map (dB 3)++L2))))) (Hp.EK Dp ar0))
  have hx2:U1 TX (Kz (Kw W0) (M0++(Zq++(Il++(F1.us.map (dB 3)++L2))))) ids (tl++OS) ⟨x1.p,iW g1 c1,iW g2 c2,iW g3 c3,.wrap mwf x1.d,x1.low⟩:=⟨ayS.mono Le.kk,⟨aE3,hx1.DP⟩,hx1.sh,hx1.yz.mono (Le.zz fun x hx=>bB _ hx),by show x1.d.dep+1<=1;omega⟩
  refine AQ 7 O (Ij.sub (sP (sP (sP (sP (sP (sP (sP (sP (sP (sP (sP (sP (sP (sP (sP (sP (sP (sA (sA sR)))))))))))))))))))) (fA AJ 2 O sizeOf117 RG)<|AD<|bk Ij (i:=0) O (Ob (sub:=[iW g1 c1,iW g2 c2,iW g3 c3]) (c':=U0 ⟨x1.p,iW g1 c1,iW g2 c2,iW g3 c3,.wrap mwf x1.d,x1.low⟩) O O O (by simp[Value.oneCell',iW]) (Ij.blk (i:=0) O) (by simp[qg]) O)<|fun aNq UM=> ?_
  simp only[z2,gF,pull]at UM
  refine aa<|SR<|V (az cS O sY (UM.cell (i:=4) O (v:=Pn _ _) O))<|V (af O)<|V (fA bU 1 O sL O)<|lV nR UM 5 O O rfl<|V (aD (UM.sl (i:=9) O) O nR O)<|ou UM (aZ Tryz.zeroValue3)<|fun amm aNr aov=>bk aov (i:=0) O (bM O O (v:=I _) O O O (aov.blk (i:=0) O) ay)<|fun ar3 FI=> ?_
  simp only[z2,gF,pull]at FI
  refine aa<|ah<|fC (z:=⟨none,_,_,_,_,none⟩) aN O aN FI (sP (sP (sP (sP (sP (sP (sP (sP (sP (sP (sQ (sP (sP (sP (sP (sP (sP (sP (sA sR)))))))))))))))))))<|fun ayT M1=>have xM:=M1.sub (sP (sP (sP (sP (sP (sP (sP (sP (sP (sP (sQ (sP (sP (sP (sP (sP (sP (sP (sA sR)))))))))))))))))));AT 0 O xM (fun w hS=>az cS O sY (hS.cell (i:=5) O (v:=Pn _ _) O))<|AT 1 O xM (fun w hS=>az cS O sY (hS.cell (i:=5) O (v:=Pn _ _) O))<|AQ 2 O xM (af O)<|AQ 3 O xM (fA bU 1 O sL O)<|tV 4 O xM nR 6 O O rfl<|AT 5 O xM (fun w hS=>cG (cs:=U0 _) AJ O O RG (bf (hS.blk (i:=1) O)))<|A1 6<|cN O aH O M1 (sP (sP (sP (sP (sP (sP (sP (sP (sP (sP (sQ (sP (sP (sP (sP (sP (sP (sP (sA sR))))))))))))))))))) (f:=fun b=> .slice (some ⟨b,0,none⟩) 1 1) (kI qg nR O O O (l:=[⟨x1.p,iW g1 c1,iW g2 c2,iW g3 c3,.wrap mwf x1.d,x1.low⟩]) O ay ay O)<|fun aE6 aE7 FD=>A1 7<|QI (a:=⟨x1.p,iW g1 c1,iW g2 c2,iW g3 c3,.wrap mwf x1.d,x1.low⟩) O aH qg ay O FD (i:=11) O (fun _=>(sQ (sP (sP (sP (sP (sP (sP (sP (sP (sP (sP (sQ (sP (sP (sP (sP (sP (sP (sP (sA sR))))))))))))))))))))) (Hp.mv qg FD (i:=0) (l:=[⟨x1.p,iW g1 c1,iW g2 c2,iW g3 c3,.wrap mwf x1.d,x1.low⟩]) O jL) O O nR O O (bytes:=120) O O O (fun u hu=>Fb hx2 u pX) J ay<|fun aiE amn oM=> ?_
  simp only[z2,gF,pull]at oM
  refine AQ 8 O (oM.sub (sQ (sP (sP (sP (sP (sP (sP (sP (sP (sP (sP (sQ (sP (sP (sP (sP (sP (sP (sP (sA sR))))))))))))))))))))) (af O)<|AQ 9 O (oM.sub (sQ (sP (sP (sP (sP (sP (sP (sP (sP (sP (sP (sQ (sP (sP (sP (sP (sP (sP (sP (sA sR))))))))))))))))))))) (fA bU 1 O sL O)<|AD<|bk oM (i:=7) O (bM O O (v:=aiE) O (a6 (oM.get (i:=11) O)).1 (a6 (oM.get (i:=11) O)).2 (oM.blk (i:=7) O) aA)<|fun ayU B3=> ?_
  simp only[ij,kf,mA,gA,Nat.reduceAdd]at B3
  refine aa<|SR<|V (az cS O sY (B3.cell (i:=6) O (v:=Pn _ _) O))<| ?_
  refine V (rP sY bC) ?_
  refine ct O (gV _ _ (.aS s.an.length) J _ (B3.pj [7,7,7,7,7,7,7,7,7,7,7,7])) (aK yd O O) ?_
  rintro _ aNs ⟨rfl,aE8,aow⟩
  simp only[nE]at aow
  have aox:=aow.pk [12,12,12,12,12,12,12]
  refine aa<|SR<|lI bt aox 1 O O rfl<|aI rfl<|aa<|aj<|have UN:=Hp.lC (A:=[_,_,_,_,_,_,_,_,_,_,_,_]) (B:=[_,_]) (R:=Z1) ((aox.sub (sQ (sP (sQ (sQ (sQ (sQ sR))))))).pj [2,2,2,2,2,2,2,2,2,2,2,2,1]);have hmv:∀b o,a8.blk b o∈(M0++(Zq++(Il++(F1.us.map (dB 3)++L2))))->a8.blk b o∈([a8.blk b9 (.cells #[pt n] 31 (0,0)),a8.blk amm (.cells #[I s.an.length] 3 (0,0))]++(M0++(Zq++(Il++L2)))):=(fun b o hb=>by have h2:=QU (A:=M0++Zq++Il) (gs:=F1.us) (t:=3) (B:=L2) (by simpa only[dg]using hb);simp only[dg]at h2;exact bB _ h2);ja (v:=I s.an.length) O O (.inr ⟨jM,⟨x1.p,iW g1 c1,iW g2 c2,iW g3 c3,.wrap mwf x1.d,x1.low⟩,(iW 54 #[pt b9,pt amm]),OS,([a8.blk b9 (.cells #[pt n] 31 (0,0)),a8.blk amm (.cells #[I s.an.length] 3 (0,0))]++(M0++(Zq++(Il++L2)))),_,Z1,jM,rfl,?_,?_,⟨fun q=>absurd (q.symm.trans ‹agA s.wr=true›) Js,by show x1.d.dep+1<=1;omega⟩,(fun b o hb=>(fun e he=>bB _ (bB _ (bB _ (bB _ (he))))) _ (MW b o hb)),hx2.mono (Le.zb hmv),?_,ND,TP,⟨{F1 with vL:=aiE,vm:=v27,vd:=aE8},([a8.blk b9 (.cells #[pt n] 31 (0,0)),a8.blk amm (.cells #[I s.an.length] 3 (0,0))]++(M0++(Zq++(Il++L2)))),⟨zT.fo.mono (fun e he=>bB _ (bB _ (bB _ (bB _ (he))))),zT.us⟩,fun _ _ q=>q,rfl⟩,Hp.us4 (A:=[_,_,_,_,_,_,_,_,_,_,_,_]) UN⟩)
  .show x1.p.sh=p.sh;rw[hxp];exact hps
  .show x1.low=_;rw[WD,hxp];exact aJ (fun q=>gQ q eM) hps
  exact⟨_,_,rfl,aA,aA⟩
 refine ak<|SR<|V (az cS O sY (B0.cell (i:=4) O (v:=Pn _ _) O))<|V (af O)<|V (fA bU 1 O sL O)<|lV nR B0 5 O O rfl<|V (aD (B0.sl (i:=9) O) O nR O)<|ou B0 (aZ Tryz.zeroValue3)<|fun amo aD7 Ig=>bk Ig (i:=0) O (bM O O (v:=I _) O O O (Ig.blk (i:=0) O) ay)<|fun aNt aoy=> ?_
 simp only[z2,gF,pull]at aoy
 refine aa<|ah<|fC (z:=⟨none,_,_,_,_,none⟩) aN O aN aoy (sP (sP (sP (sP (sP (sP (sP (sP (sP (sP (sQ (sP (sP (sP (sP (sP (sP (sP (sA sR)))))))))))))))))))<|fun aNu aoz=>have Ph:=aoz.sub (sP (sP (sP (sP (sP (sP (sP (sP (sP (sP (sQ (sP (sP (sP (sP (sP (sP (sP (sA sR)))))))))))))))))));AT 0 O Ph (fun w hS=>az cS O sY (hS.cell (i:=5) O (v:=Pn _ _) O))<|AT 1 O Ph (fun w hS=>az cS O sY (hS.cell (i:=5) O (v:=Pn _ _) O))<|AQ 2 O Ph (af O)<|AQ 3 O Ph (fA bU 1 O sL O)<|tV 4 O Ph nR 6 O O rfl<|AT 5 O Ph (fun w hS=>cG (cs:=U0 _) AJ O O RG (bf (hS.blk (i:=1) O)))<|A1 6<|cN O aH O aoz (sP (sP (sP (sP (sP (sP (sP (sP (sP (sP (sQ (sP (sP (sP (sP (sP (sP (sP (sA sR))))))))))))))))))) (f:=fun b=> .slice (some ⟨b,0,none⟩) 1 1) (kI qg nR O O O (l:=[x1]) O ay ay O)<|fun aNv aNw aoA=>A1 7<|QI (a:=x1) O aH qg ay O aoA (i:=11) O (fun _=>(sQ (sP (sP (sP (sP (sP (sP (sP (sP (sP (sP (sQ (sP (sP (sP (sP (sP (sP (sP (sA sR))))))))))))))))))))) (Hp.mv qg aoA (i:=0) (l:=[x1]) O jL) O O nR O O (bytes:=120) O O O (fun u hu=>Fb hx1 u pX) J ay<|fun ayV aNx FJ=> ?_
 simp only[z2,gF,pull]at FJ
 refine AQ 8 O (FJ.sub (sQ (sP (sP (sP (sP (sP (sP (sP (sP (sP (sP (sQ (sP (sP (sP (sP (sP (sP (sP (sA sR))))))))))))))))))))) (af O)<|AQ 9 O (FJ.sub (sQ (sP (sP (sP (sP (sP (sP (sP (sP (sP (sP (sQ (sP (sP (sP (sP (sP (sP (sP (sA sR))))))))))))))))))))) (fA bU 1 O sL O)<|AD<|bk FJ (i:=7) O (bM O O (v:=ayV) O (a6 (FJ.get (i:=11) O)).1 (a6 (FJ.get (i:=11) O)).2 (FJ.blk (i:=7) O) aA)<|fun aNy aiF=> ?_
 simp only[ij,kf,mA,gA,Nat.reduceAdd]at aiF
 refine aa<|SR<|V (az cS O sY (aiF.cell (i:=6) O (v:=Pn _ _) O))<| ?_
 refine V (rP sY bC) ?_
 refine ct O (gV _ _ (.aS s.an.length) J _ (aiF.pj [7,7,7,7,7,7,7,7,7,7,7,7])) (aK yd O O) ?_
 rintro _ aNz ⟨rfl,v175,aoB⟩
 simp only[nE]at aoB
 have aoC:=aoB.pk [12,12,12,12,12,12,12]
 refine aa<|SR<|lI bt aoC 1 O O rfl<|aI rfl<|aa<|aj<|have ayW:=Hp.lC (A:=[_,_,_,_,_,_,_,_,_,_,_,_]) (B:=[_,_]) (R:=Z1) ((aoC.sub (sQ (sP (sQ (sQ (sQ (sQ sR))))))).pj [2,2,2,2,2,2,2,2,2,2,2,2,1]);have hmv:∀b o,a8.blk b o∈(Zq++(Il++(F1.us.map (dB 3)++L2)))->a8.blk b o∈([a8.blk b9 (.cells #[pt n] 31 (0,0)),a8.blk amo (.cells #[I s.an.length] 3 (0,0))]++(Zq++(Il++L2))):=(fun b o hb=>by have h2:=QU (A:=Zq++Il) (gs:=F1.us) (t:=3) (B:=L2) (by simpa only[dg]using hb);simp only[dg]at h2;exact bB _ h2);ja (v:=I s.an.length) O O (.inr ⟨jM,x1,(iW 54 #[pt b9,pt amo]),OS,([a8.blk b9 (.cells #[pt n] 31 (0,0)),a8.blk amo (.cells #[I s.an.length] 3 (0,0))]++(Zq++(Il++L2))),_,Z1,jM,rfl,?_,?_,⟨fun _=>hxd,J⟩,(fun b o hb=>(fun e he=>bB _ (bB _ (bB _ (he)))) _ (MW b o hb)),hx1.mono (Le.zb hmv),?_,ND,TP,⟨{F1 with vL:=ayV,vm:=v27,vd:=v175},([a8.blk b9 (.cells #[pt n] 31 (0,0)),a8.blk amo (.cells #[I s.an.length] 3 (0,0))]++(Zq++(Il++L2))),⟨zT.fo.mono (fun e he=>bB _ (bB _ (bB _ (he)))),zT.us⟩,fun _ _ q=>q,rfl⟩,Hp.us3 (A:=[_,_,_,_,_,_,_,_,_,_,_,_]) ayW⟩)
 .show x1.p.sh=p.sh;rw[hxp];exact hps
 .show x1.low=_;rw[WD,hxp];exact aJ (fun q=>gQ q eM) hps
 exact⟨_,_,rfl,aA,aA⟩
theorem IP(k:Int)(v:Value)(l:List dI)(t:gZ)(w:World)(hb:w.heap[n]?=some (.cells #[wr,vL,vt,vv,vy,vu,vq,I sn,vW,vU,vT,I cn,B sk,U wy,vd,vm] 111 (0,0)))(hL:Sl w vL 13 an.length (an.flatMap U0))(ht:Sl w vt 1 aS.length (aS.map I))(hc:Sl w v 10 l.length (l.flatMap jW))(hls:∀x∈an,kO (Kw w) x.p)(hT:oq w):Calls Tryz.prog 56 #[pt n,I k,v,.agg (iS t).toArray] w (Pure (B (sU an aS k l t)) w):=by
 have hm3:=hc.small
 unfold maxLen at hm3
 refine eH func56 rfl rfl fun hH=>SR<|gX hH (v:= .agg _) rfl<|fun b3 w1 a7=>va (v:=B false) rfl<|aa<|ah<|SR<|mI rfl<|V (aL O O)<|mB rfl<|bI 14 O (fun h5=> ?_) (fun h5=> ?_)
 .refine aG (v:=B true) rfl<|mB rfl<|cD O rfl<|aG (v:=B true) rfl<|aa<|cr rfl<|SR<|va (v:=B false) rfl<|aa<|aj<|oB O ?_ a7
  exact(LK J).symm
 refine mI rfl<|aG (v:=Pn _ _) rfl<|V (af O)<|V (fA bU 1 O sL O)<|V (az nR O O (a7.dY hb O))<|V (aD (hL.hp a7) O nR O)<|V (di O O)<|mB rfl<|mB rfl<|bI 23 O (fun h7=> ?_) (fun h7=> ?_)
 .refine aG (v:=B true) rfl<|aa<|cr rfl<|SR<|va (v:=B false) rfl<|aa<|aj<|oB O ?_ a7
  exact(LK J).symm
 refine V (run_move bC) ?_
 refine aE O a7 (Fy _ _ _ (hc.hp a7)) (aq call103 O)<|fun w8 iv=>V (bK O)<|mB rfl<|aa<|bQ O (fun h12=> ?_) (fun h12=> ?_)
 .refine SR<|va (v:=B false) rfl<|aa<|aj<|oB O ?_ iv
  exact(agD (nt ‹(!fP _)=true›)).symm
 refine ak<|SR<|aG (v:=Pn _ _) rfl<|V (af O)<|V (fA bU 1 O sL O)<|V (az nR O O (iv.dY hb O))<|mI rfl<|V (ag (hL.hp iv) nR sizeOf119 O O J)<|V (fA AJ 0 O AR O)<|V (oy (dv:=oF) (off:=0) (cs:=zY _) qg (hL.hp iv) dJ O O O J (aeW O))<|ou iv (aZ Tryz.zeroValue56)<|fun b15 C8 cw=>have HN:0<=k/\k<an.length:=J;bk cw (i:=0) O (dX O O O (agB (hls _ (dG HN.1 HN.2))) (cw.blk (i:=0) O) O)<|fun Ml er=>aa<|ah<|SR<| ?_
 refine V (run_move bC) ?_
 refine V (aD (hc.hp er) O ir O)<|aG (v:=I 0) rfl<|aa<|aC<|bj (G:=Int) (fun q s' w'=>(Fr (8::(11::(rg 38 28 []))) _ s')/\(Hp w w' _)/\(s' 38=I q)/\(0<=q)/\(q<=l.length)/\(∀j:Int,0<=j->j<q->Aa an aS k (l.getD j.toNat cg)=true)) (fun q=>(l.length-q).toNat) (0) ⟨Fr.refl _ _,er,rfl,J,J,fun j a b=>absurd b J⟩<| ?_
 rintro q aqG Uc ⟨wL,dH,HI,h0,hq,hg⟩
 obtain⟨aoD,ZW,aiG,aiH,asr,ass⟩:=wL.w6 0 1 7 9 36 37
 refine SR<|V (aL HI ass)<|aa<|ah<|aF O (fun Jm=> ?_) (fun Jm=> ?_)
 .refine ak<|ah<|aC<|SR<|V (ag (hc.hp dH) ir oW asr HI J)<|V (fg (dv:=cg) gE (hc.hp dH) eG O O O J)<|ou dH (aZ BC)<|fun b23 Nr c8=>bk c8 (i:=0) O (dX (c':=(jW _).toArray) O O O (xo _) (c8.blk (i:=0) O) O)<|fun Uj dw=>aa<|SR<|V (fA eG 0 O bp O)<|lI bt dw 0 O O rfl<|V (bO O O)<|mB rfl<|bI 45 O (fun qC=> ?_) (fun qC=> ?_)
  .refine aG aoD<|V (fA eG 1 O bp O)<|lI bt dw 0 O O rfl<|aG ZW<|aE O dw (Dm _ _ _ (dw.ext hb) (ht.hp dw)) (bz call104 O O O)<|fun w30 lQ=>V (tY O)<|mB rfl<|mB rfl<|bI 53 O (fun CF=> ?_) (fun CF=> ?_)
   .refine gP O O rfl<|gP O O rfl<|gP O O rfl<|gP O O rfl<|gP O O rfl<|A7<|aG (v:=B true) rfl<|aa<|cr rfl<|SR<|va (v:=B false) rfl<|aa<|aj<|oB O ?_ lQ
    exact(TQ h0 ‹q<_› (agE ‹(List.getD l _ _).op=1› oY)).symm
   refine V (fA eG 0 O bp O)<|lI bt lQ 0 O O rfl<|V (bO O O)<|mB rfl<|bI 57 O (fun h37=> ?_) (fun h37=> ?_)
   .refine V (cG (cs:=[B _,_]) dJ O O aiH (bf (lQ.blk (i:=1) O)))<|V (fA eG 2 O gN O)<|V (rz cA O O O (lQ.blk (i:=0) O) (ES _))<|aE O lQ (zj _ _ _ ((hls _ (dG HN.1 HN.2)).mono lQ.kw) (hT.hp lQ)) (aK call105 O O)<|fun w38 oK=>V (bK O)<|mB rfl<|mB rfl<|aa<|bQ O (fun h42=> ?_) (fun h42=> ?_)
    .refine SR<|va (v:=B false) rfl<|aa<|aj<|oB O ?_ oK
     exact(LK J).symm
    refine ak<|au<|V (ax HI O J)<|mI rfl<|aa<| ?_
    refine⟨q+1,aW,wL.u4.u4.u4.u4.u4.u4.u4.u1,(oK.sub (sQ sR)),(aJ I aM),J,J,?_⟩
    exact fun j a b=>if e:j=q then e▸Bv adA (by exact .inr (nf ‹(!cf _ _)=false›))else hg j a J
   refine aG (v:=B false) rfl<|mB rfl<|aa<|dm rfl<|ak<|au<|V (ax HI O J)<|mI rfl<|aa<| ?_
   refine⟨q+1,aW,wL.u4.u4.u4.u4.u4.u4.u4.u1,(lQ.sub (sQ sR)),(aJ I aM),J,J,?_⟩
   exact fun j a b=>if e:j=q then e▸Bv adA (by exact .inl ‹¬(List.getD l _ _).op=2›)else hg j a J
  refine aG (v:=B false) rfl<|mB rfl<|cD O rfl<|V (fA eG 0 O bp O)<|lI bt dw 0 O O rfl<|V (bO O O)<|mB rfl<|bI 57 O (fun h44=> ?_) (fun h44=> ?_)
  .refine V (cG (cs:=[B _,_]) dJ O O aiH (bf (dw.blk (i:=1) O)))<|V (fA eG 2 O gN O)<|V (rz cA O O O (dw.blk (i:=0) O) (ES _))<|aE O dw (zj _ _ _ ((hls _ (dG HN.1 HN.2)).mono dw.kw) (hT.hp dw)) (aK call105 O O)<|fun w45 rK=>V (bK O)<|mB rfl<|mB rfl<|aa<|bQ O (fun h49=> ?_) (fun h49=> ?_)
   .refine SR<|va (v:=B false) rfl<|aa<|aj<|oB O ?_ rK
    exact(TQ h0 ‹q<_› (agF ‹(List.getD l _ _).op=2› (nt ‹(!cf _ _)=true›))).symm
   refine ak<|au<|V (ax HI O J)<|mI rfl<|aa<| ?_
   refine⟨q+1,aW,wL.u4.u4.u4.u4.u4.u4.u4.u1,(rK.sub (sQ sR)),(aJ I aM),J,J,?_⟩
   exact fun j a b=>if e:j=q then e▸Bv ady (by exact .inr (nf ‹(!cf _ _)=false›))else hg j a J
  refine aG (v:=B false) rfl<|mB rfl<|aa<|dm rfl<|ak<|au<|V (ax HI O J)<|mI rfl<|aa<| ?_
  refine⟨q+1,aW,wL.u4.u4.u4.u4.u4.u4.u4.u1,(dw.sub (sQ sR)),(aJ I aM),J,J,?_⟩
  exact fun j a b=>if e:j=q then e▸Bv ady (by exact .inl ‹¬(List.getD l _ _).op=2›)else hg j a J
 refine aY (id:=0) rfl<|ah<|SR<|V (fA mL 0 O bp aiG)<|lI bt dH 1 O O rfl<|V (aL O O)<|aa<|aF O (fun h51=> ?_) (fun h51=> ?_)
 .refine SR<|V (cG (cs:=[B _,_]) dJ O O aiH (bf (dH.blk (i:=0) O)))<|V (fA mL 1 O gN aiG)<|V (rz cA O O O (dH.blk (i:=1) O) (SX _))<|aE O dH (zj _ _ _ ((hls _ (dG HN.1 HN.2)).mono dH.kw) (hT.hp dH)) (aK call105 O O)<|fun w52 iZ=>aB rfl<|aa<|aj<|oB O ?_ iZ
  (rw[LL HN (nf ‹(!fP _)=false›) ‹¬q<_› hg];((rw[ak1 ‹t.var<0›];rfl)))
 refine ak<|SR<|aG aoD<|V (fA mL 0 O bp aiG)<|lI bt dH 1 O O rfl<|aG ZW<|aE O dH (Dm _ _ _ (dH.ext hb) (ht.hp dH)) (bz call104 O O O)<|fun w55 oo=>aB rfl<|aa<|aj<|oB O ?_ oo
 (rw[LL HN (nf ‹(!fP _)=false›) ‹¬q<_› hg];(rw[ak2 ‹¬t.var<0›]))
theorem M3{s:NP}{R L0 Z:List a8}(l:Int)(hm:m<=90000)(hok:Fa s)(hlg:lg.length<=550000000000)(htm:tm.length<=100000000)(w:World)(hZ:uR n m s lg tm R L0 Z)(hH:Hp W0 w Z):Calls Tryz.prog 18 #[pt n,I l] w (jF fun u w'=>(¬(s.sk=false/\0<=l/\l<s.an.length)/\u=I (-1)/\∃Z',uR n m s lg tm R L0 Z'/\Hp W0 w' Z')\/(s.sk=false/\(0<=l/\l<s.an.length)/\u=I s.ai.length/\∃(fv:Value) (L1 Z':List a8),(∀b o,a8.blk b o∈L0->a8.blk b o∈L1)/\l9 NX n L1 (fv,.var s.ai.length ((s.cs.length:Int)-1))/\iz [(fv,.var s.ai.length ((s.cs.length:Int)-1))] s (pK s l (s.an.getD l.toNat oF).low)/\uR n (m+1) (pK s l (s.an.getD l.toNat oF).low) (lg++[(fv,.var s.ai.length ((s.cs.length:Int)-1))]) (tm++[(lg.length:Int)]) R L1 Z'/\Hp W0 w' Z')):=by
 have ON:=hok.ON
 have hlt:=hok.hlt
 have RQ:=hok.RQ
 have M7:=hok.M7
 have hgu:∀F:NF,o5 F.us=s.us->F.us.length=s.us.length:=fun F e=>by rw[<-e,fQ]
 refine enter func18 rfl ntmps18 rfl ?_
 obtain⟨F1,L2,zT,MW,rfl⟩:=hZ
 have bP:=hH
 simp only[NZ,nE]at bP
 have jg:=bP
 rw[<-dg]at jg
 refine SR<|gX jg (v:=Pn _ _) rfl<|fun b9 w7 eX=>va (v:=I 0) rfl<|aa<|ah<|SR<|lP cS eX 0 O O rfl<|aE O eX (nQ _ (eX.blk (i:=1) O)) (aq call40 O)<|fun Hi dN=>V (bK O)<|mB rfl<|fW 10 O (fun Jn=> ?_) (fun Jn=> ?_)
 .refine aG (v:=B true) rfl<|mB rfl<|cD O rfl<|aG (v:=B true) rfl<|aa<|cr rfl<|SR<|va (v:=I (-1)) rfl<|aa<|aj<|ja (v:=I (-1)) O O (.inl ⟨by simp_all;try omega,rfl,_,⟨F1,L2,zT,MW,rfl⟩,by rw[dg]at*;exact(dN.sub (sQ sR))⟩)
 refine mI rfl<|V (aL O O)<|mB rfl<|mB rfl<|bI 14 O (fun xF=> ?_) (fun xF=> ?_)
 .refine aG (v:=B true) rfl<|aa<|cr rfl<|SR<|va (v:=I (-1)) rfl<|aa<|aj<|ja (v:=I (-1)) O O (.inl ⟨by simp_all;try omega,rfl,_,⟨F1,L2,zT,MW,rfl⟩,by rw[dg]at*;exact(dN.sub (sQ sR))⟩)
 refine mI rfl<|lP cS dN 0 O O rfl<|V (af O)<|V (fA bU 1 O sL O)<|lV nR dN 1 O O rfl<|V (aD (dN.sl (i:=5) O) O nR O)<|V (di O O)<|mB rfl<|aa<|aF O (fun pL=> ?_) (fun pL=> ?_)
 .refine SR<|va (v:=I (-1)) rfl<|aa<|aj<|ja (v:=I (-1)) O O (.inl ⟨by simp_all;try omega,rfl,_,⟨F1,L2,zT,MW,rfl⟩,by rw[dg]at*;exact(dN.sub (sQ sR))⟩)
 refine ak<|SR<|lP cS dN 0 O O rfl<|ct O (oQ J _ (dN.pj [1,1,1,1,1,1,1,1,1,1,1,1])) (aq call41 O)<| ?_
 rintro _ Nr ⟨rfl,v23,c8⟩
 simp only[nE]at c8
 have qB:=c8.pk [12]
 refine aa<|SR<|lP cS qB 0 O O rfl<|V (af O)<|V (fA bU 3 O mq O)<|lV dL qB 1 O O rfl<|V (aD (qB.sl (i:=7) O) O dL O)<|ou qB (aZ Tryz.zeroValue3)<|fun b27 w25 j6=>bk j6 (i:=0) O (bM O O (v:=I _) O O O (j6.blk (i:=0) O) ay)<|fun w30 lQ=>aa<|ah<|fC (z:=⟨none,_,_,_,_,none⟩) aN O aN lQ (sP (sP (sP (sP (sP (sP (sP (sQ sR))))))))<|fun w32 jE=>have MQ:=jE.sub (sP (sP (sP (sP (sP (sP (sP (sQ sR))))))));tP 0 O MQ cS 1 O O rfl<|tP 1 O MQ cS 1 O O rfl<|AQ 2 O MQ (af O)<|AQ 3 O MQ (fA bU 2 O df O)<|tV 4 O MQ bq 2 O O rfl<|AQ 5 O MQ (mV (I _) O)<|A1 6<|cN O aH O jE (sP (sP (sP (sP (sP (sP (sP (sQ sR)))))))) (f:=fun b=> .slice (some ⟨b,0,none⟩) 1 1) (bZ bq O O (sz:=1) (vs:=[I _]) O O ay ay O O)<|fun b36 w34 xH=> ?_
 (try simp only[ot]at xH)
 refine A1 7<|QH O aH O xH (i:=8) O (fun _=>(sQ (sP (sP (sP (sP (sP (sP (sP (sQ sR)))))))))) (xH.dQ (i:=0) (n:=1) (sz:=1) O O ay) O O bq O O (bytes:=8) O O O O J ay<|fun v39 w40 jD=>AQ 8 O (jD.sub (sQ (sP (sP (sP (sP (sP (sP (sP (sQ sR)))))))))) (af O)<|AQ 9 O (jD.sub (sQ (sP (sP (sP (sP (sP (sP (sP (sQ sR)))))))))) (fA bU 2 O df O)<|AD<|bk jD (i:=3) O (bM O O (v:=v39) O (a6 (jD.get (i:=8) O)).1 (a6 (jD.get (i:=8) O)).2 (jD.blk (i:=3) O) aA)<|fun w42 me=> ?_
 simp only[ij,kf,mA,gA,Nat.reduceAdd]at me
 refine aa<|ah<|fC (z:=⟨none,_,_,_,_,none⟩) aN O aN me (sP (sP (sP (sP (sP (sP (sP (sP (sP (sQ sR))))))))))<|fun w44 qD=>have HJ:=qD.sub (sP (sP (sP (sP (sP (sP (sP (sP (sP (sQ sR))))))))));tP 0 O HJ cS 2 O O rfl<|tP 1 O HJ cS 2 O O rfl<|AQ 2 O HJ (af O)<|AQ 3 O HJ (fA bU 3 O mq O)<|tV 4 O HJ dL 3 O O rfl<|tP 5 O HJ cS 2 O O rfl<|AQ 6 O HJ (af O)<|AQ 7 O HJ (fA bU 1 O sL O)<|tV 8 O HJ nR 3 O O rfl<|AQ 9 O HJ (mV (I _) O)<|AT 10 O HJ (fun w hS=>ag (hS.sl (i:=7) O) nR sizeOf119 O O J)<|AQ 11 O HJ (fA AJ 5 O gN O)<|AT 12 O HJ (fun w hS=>abe (dv:=oF) (off:=5) qg (hS.sl (i:=7) O) cA O O O J (aqj _))<|A1 13<|cN O aH O qD (sP (sP (sP (sP (sP (sP (sP (sP (sP (sQ sR)))))))))) (f:=fun b=> .slice (some ⟨b,0,none⟩) 1 1) (ru dL O O O O)<|fun b48 w46 nO=> ?_
 (try simp only[ot]at nO)
 refine A1 14<|QI (a:=(s.an.getD l.toNat oF).low) O aH fw ay O nO (i:=10) O (fun _=>(sQ (sP (sP (sP (sP (sP (sP (sP (sP (sP (sQ sR)))))))))))) (Hp.mv fw nO (i:=0) (l:=[_]) O jL) O O dL O O (bytes:=64) O O O (fun u hu=>vF _ u pX) J ay<|fun v51 w52 iZ=>AQ 15 O (iZ.sub (sQ (sP (sP (sP (sP (sP (sP (sP (sP (sP (sQ sR)))))))))))) (af O)<|AQ 16 O (iZ.sub (sQ (sP (sP (sP (sP (sP (sP (sP (sP (sP (sQ sR)))))))))))) (fA bU 3 O mq O)<|AD<|bk iZ (i:=4) O (bM O O (v:=v51) O (a6 (iZ.get (i:=10) O)).1 (a6 (iZ.get (i:=10) O)).2 (iZ.blk (i:=4) O) aA)<|fun w54 iB=> ?_
 simp only[ij,kf,mA,gA,Nat.reduceAdd]at iB
 refine aa<|ah<|fC (z:=⟨none,_,_,_,_,none⟩) aN O aN iB (sP (sP (sP (sP (sP (sP (sP (sP (sP (sP (sP (sQ sR))))))))))))<|fun w56 Yl=>have aiI:=Yl.sub (sP (sP (sP (sP (sP (sP (sP (sP (sP (sP (sP (sQ sR))))))))))));tP 0 O aiI cS 3 O O rfl<|tP 1 O aiI cS 3 O O rfl<|AQ 2 O aiI (af O)<|AQ 3 O aiI (fA bU 4 O iO O)<|tV 4 O aiI cR 4 O O rfl<|A1 5<|cN O aH O Yl (sP (sP (sP (sP (sP (sP (sP (sP (sP (sP (sP (sQ sR)))))))))))) (f:=fun b=> .slice (some ⟨b,0,none⟩) 1 1) (bZ cR O O (sz:=1) (vs:=[U 0#64]) O O ay ay O O)<|fun b60 w58 Ao=> ?_
 (try simp only[ot]at Ao)
 refine A1 6<|QH O aH O Ao (i:=12) O (fun _=>(sQ (sP (sP (sP (sP (sP (sP (sP (sP (sP (sP (sP (sQ sR)))))))))))))) (Ao.dQ (i:=0) (n:=1) (sz:=1) O O ay) O O cR O O (bytes:=8) O O O O J ay<|fun v63 w64 uM=>AQ 7 O (uM.sub (sQ (sP (sP (sP (sP (sP (sP (sP (sP (sP (sP (sP (sQ sR)))))))))))))) (af O)<|AQ 8 O (uM.sub (sQ (sP (sP (sP (sP (sP (sP (sP (sP (sP (sP (sP (sQ sR)))))))))))))) (fA bU 4 O iO O)<|AD<|bk uM (i:=5) O (bM O O (v:=v63) O (a6 (uM.get (i:=12) O)).1 (a6 (uM.get (i:=12) O)).2 (uM.blk (i:=5) O) aA)<|fun w66 MV=> ?_
 simp only[ij,kf,mA,gA,Nat.reduceAdd]at MV
 refine aa<|ah<|fC (z:=⟨none,_,_,_,_,none⟩) aN O aN MV (sP (sP (sP (sP (sP (sP (sP (sP (sP (sP (sP (sP (sP (sQ sR))))))))))))))<|fun w68 NA=>have aiJ:=NA.sub (sP (sP (sP (sP (sP (sP (sP (sP (sP (sP (sP (sP (sP (sQ sR))))))))))))));tP 0 O aiJ cS 4 O O rfl<|tP 1 O aiJ cS 4 O O rfl<|AQ 2 O aiJ (af O)<|AQ 3 O aiJ (fA bU 5 O yc O)<|tV 4 O aiJ ov 5 O O rfl<|A1 5<|cN O aH O NA (sP (sP (sP (sP (sP (sP (sP (sP (sP (sP (sP (sP (sP (sQ sR)))))))))))))) (f:=fun b=> .slice (some ⟨b,0,none⟩) 1 1) (bZ ov O O (sz:=1) (vs:=[.slice none 0 0]) O O ay ay O O)<|fun b72 w70 ahP=> ?_
 (try simp only[ot]at ahP)
 refine A1 6<|QH (a:=cP) O aH O ahP (i:=14) O (fun _=>(sQ (sP (sP (sP (sP (sP (sP (sP (sP (sP (sP (sP (sP (sP (sQ sR)))))))))))))))) (ahP.dQ (i:=0) (n:=1) (sz:=1) O O ay) O O ov O O (bytes:=24) O O O O (by have:=hgu _ ‹awW _ _ _ _ _›.us;omega) ay<|fun v75 w76 RF=>AQ 7 O (RF.sub (sQ (sP (sP (sP (sP (sP (sP (sP (sP (sP (sP (sP (sP (sP (sQ sR)))))))))))))))) (af O)<|AQ 8 O (RF.sub (sQ (sP (sP (sP (sP (sP (sP (sP (sP (sP (sP (sP (sP (sP (sQ sR)))))))))))))))) (fA bU 5 O yc O)<|AD<|bk RF (i:=6) O (bM O O (v:=v75) O (a6 (RF.get (i:=14) O)).1 (a6 (RF.get (i:=14) O)).2 (RF.blk (i:=6) O) aA)<|fun w78 IQ=> ?_
 simp only[ij,kf,mA,gA,Nat.reduceAdd]at IQ
 refine aa<|SR<|lP cS IQ 5 O O rfl<|V (af O)<|V (fA bU 8 O nY O)<|aE O IQ (aif zT.fo J (IQ.blk (i:=6) O) (IQ.xp (i:=7) O zT.fo.hW) (IQ.sl (i:=9) O)) (aq call46 O)<|fun w80 amp=>ou amp (aZ Tryz.zeroValue3)<|fun b84 w82 aiK=>bk aiK (i:=0) O (bM O O (v:=I _) O O O (aiK.blk (i:=0) O) ay)<|fun w87 Ee=>aa<|SR<|lP cS Ee 6 O O rfl<|V (af O)<|V (fA bU 8 O nY O)<|ct O (awV zT.fo J (R:=([_,_,_,_,_,_,_,_,_,_,_,_,_,_,_]++(F1.us.map (dB 3)++R))) (Ee.pj [7,7,7,7])) (aq call47 O)<| ?_
 rintro _ ayd ⟨rfl,aFa,aFb,aFc,aFd,aFe,W96,aFf,aFg,aFh,aic,ast,MU⟩
 have Pd:=Hp.lC (A:=[_,_,_,_]) (R:=([_,_,_,_,_,_,_,_,_,_,_,_,_,_,_]++(F1.us.map (dB 3)++R))) MU
 simp only[fH,dZ]at Pd
 have uP:=Pd.pk [4,4,4,4,4,4,4]
 refine aa<|SR<|lP cS uP 6 O O rfl<| ?_
 refine V (Ki bC bC bC) ?_
 refine ct O (gV _ _ (.var s.ai.length ((s.cs.length:Int)-1)) J _ (uP.pj [7,7,7,7,7,7,7,7,7,7,7,7])) (aK yd O O) ?_
 rintro _ aDw ⟨rfl,aFi,O6⟩
 simp only[nE]at O6
 have B0:=O6.pk [12,12,12,12,12,12,12]
 refine aa<|SR<|lI bt B0 5 O O rfl<|aI rfl<|aa<|aj<|have ayY:=(((B0.sub (sP (sQ (sQ (sQ (sQ sR)))))).pj [3,3,3,3,3,3,3,3,3,3,3,3,2,1])).fl 3 1;have Dk:=Hp.aBN (A:=[_,_,_,_,_,_,_,_,_,_,_,_]) (B:=[a8.blk b9 (.cells #[pt n] 31 (0,0)),a8.blk b27 (.cells #[I s.ai.length] 3 (0,0)),a8.blk b84 (.cells #[I ((s.cs.length:Int)-1)] 3 (0,0))]) (U:=(F1.us.map (dB 3))) (R:=R) ayY;ja (v:=I s.ai.length) O O (.inr ⟨jM,J,rfl,(iW 48 #[pt b9,pt b27,pt b84]),([a8.blk b9 (.cells #[pt n] 31 (0,0)),a8.blk b27 (.cells #[I s.ai.length] 3 (0,0)),a8.blk b84 (.cells #[I ((s.cs.length:Int)-1)] 3 (0,0))]++(aic++L2)),_,(fun b o hb=>bB _ (bB _ (MW b o hb))),⟨_,_,_,rfl,aA,aA,aA⟩,agH hok.hlt hok.RQ hok.M7 zT.fo.ne,⟨{F1 with vW:=aFa,vU:=aFb,vT:=aFc,cW:=aFd,cU:=aFe,W:=W96,ul:=aFf,ts:=aFg,cn:=aFh,vt:=v39,vv:=v51,vy:=v63,vu:=v75,vd:=aFi,vm:=v23,us:=F1.us++[cP]},([a8.blk b9 (.cells #[pt n] 31 (0,0)),a8.blk b27 (.cells #[I s.ai.length] 3 (0,0)),a8.blk b84 (.cells #[I ((s.cs.length:Int)-1)] 3 (0,0))]++(aic++L2)),⟨ast.mono fun e he=>bB _ he,agI zT.us⟩,fun _ _ q=>q,rfl⟩,?_⟩)
 simp only[NZ,nE,pK,gp,kV,AL];exact Dk
theorem vZ(v:Value)(l:List dI)(hl:l.length<=1000)(w:World)(hs:Sl w v 10 l.length (l.flatMap jW)):Calls Tryz.prog 57 #[v] w (rM 3 1 (dc l).length ((dc l).map I) w):=by
 have hm:=hs.small
 unfold maxLen at hm
 refine eH func57 rfl rfl fun hH=>SR<|va (v:= .slice none 0 0) rfl<|aa<|SR<|va (v:= .slice none 0 0) rfl<|have iA:=hH.fl 3 1;aa<|ah<|SR<| ?_
 refine V (run_move bC) ?_
 refine V (aD (hs.hp iA) O ir O)<|aG (v:=I 0) rfl<|aa<|aC<|bj (G:=Int×(List Int)×Value) (fun⟨k,m,v3⟩ s' w'=>(Fr (3::(5::6::(rg 9 57 []))) _ s')/\(Hp w w' (.row v3 3 1 (m.length) (m.map I)::_))/\(s' 3=v3)/\(s' 9=I k)/\(0<=k)/\(k<=l.length)/\(m=dc (l.take k.toNat))/\((m.length:Int)<=k)) (fun⟨k,m,v3⟩=>(l.length-k).toNat) ((0,[],(.slice none 0 0:Value))) ⟨Fr.refl _ _,iA,rfl,rfl,J,J,rfl,aA⟩<| ?_
 rintro⟨k,m,v3⟩ sg2 w2 ⟨SL,a7,T8,aiL,h0,hk,hm,hml⟩
 obtain⟨aNF,aFj,aFk⟩:=SL.w3 2 7 8
 refine SR<|V (aL aiL aFk)<|aa<|ah<|aF O (fun h4=> ?_) (fun h4=> ?_)
 .refine ak<|ah<|aC<|SR<|V (ag (hs.hp a7) ir oW aFj aiL J)<|V (fg (dv:=cg) gE (hs.hp a7) eG O O O J)<|ou a7 (aZ BC)<|fun b7 w5 jg=>bk jg (i:=0) O (dX (c':=(jW _).toArray) O O O (xo _) (jg.blk (i:=0) O) O)<|fun w8 iv=>aa<|ah<|SR<|V (fA eG 0 O bp O)<|lI bt iv 0 O O rfl<|V (kQ O O)<|mB rfl<|bI 16 O (fun h11=> ?_) (fun h11=> ?_)
  .refine aG (v:=B true) rfl<|aa<|cr rfl<|aY (id:=1) rfl<|au<|V (ax aiL O J)<|mI rfl<|aa<| ?_
   refine⟨(k+1,m,v3),aW,SL.u4.u4.u4.u1.u1,(Hp.conv (iv.sub (sQ sR)) aM),T8,(aJ I aM),J,J,?_,J⟩
   rw[iX h0 ‹k<_›,<-hm];((rw[aP J];done))
  refine V (fA eG 1 O bp O)<|lI bt iv 0 O O rfl<|V (aL O O)<|mB rfl<|aa<|aF O (fun Ua=> ?_) (fun Ua=> ?_)
  .refine aY (id:=1) rfl<|au<|V (ax aiL O J)<|mI rfl<|aa<| ?_
   refine⟨(k+1,m,v3),aW,SL.u4.u4.u4.u1.u1,(Hp.conv (iv.sub (sQ sR)) aM),T8,(aJ I aM),J,J,?_,J⟩
   rw[iX h0 ‹k<_›,<-hm];((rw[aP J];done))
  refine ak<|SR<|va (v:=I 0) rfl<|aa<|ah<|aC<|bj (G:=Int) (fun i s' w'=>(Fr (6::(rg 21 15 [])) _ s')/\(Hp w w' _)/\(s' 6=I i)/\(0<=i)/\(i<=m.length)/\(∀j:Nat,j<i.toNat->m.getD j 0<(l.getD k.toNat cg).n)) (fun i=>(m.length-i).toNat) (0) ⟨Fr.refl _ _,iv,rfl,J,J,fun j h=>absurd h J⟩<| ?_
  rintro i XE Na ⟨lO,cw,lH,i0,hi,hlt⟩
  have vS:=lO.w1 5
  obtain⟨jT,zN⟩:=lO.t2 3 T8 9 aiL
  refine ah<|ah<|eu aN cw<|fun XD cF=>have sy:=cF;AQ 0 O sy (run_move lH)<|AQ 1 O sy (run_move jT)<|AT 2 O sy (fun w hS=>aD (hS.sl (i:=1) O) O bq O)<|AQ 3 O sy (aL O O)<|AQ 4 O sy (mV (B _) O)<|CQ (dj:=25) O (fun pL=> ?_) (fun pL=> ?_)
  .refine BQ 5 O O (bT pL) cF (run_move jT)<|BQ 6 O O (bT pL) cF (run_move lH)<|AG 7 O O (bT pL) cF (fun w hS=>ag (hS.sl (i:=1) O) bq bp O O J)<|AG 8 O O (bT pL) cF (fun w hS=>az bt O O ((hS.sl (i:=1) O).cell _ _ (ew J)))<|BQ 9 O O (bT pL) cF (fA eG 1 O bp vS)<|AG 10 O O (bT pL) cF (fun w hS=>az bt O O (hS.cell (i:=0) O (v:=I _) O))<|BQ 11 O O (bT pL) cF (aL O O)<|AQ 12 O sy (gC (bT pL) (v:=B _) O)<|AD<|aF O (fun Jm=> ?_) (fun Jm=> ?_)
   .refine ak<|aC<|au<|aG lH<|V (ax O O J)<|aI rfl<|aa<| ?_
    refine⟨i+1,aW,lO.u4.u4.u4.u4,cF,(aJ I aM),J,J,?_⟩
    exact fun j hj=>if e:j=i.toNat then e▸‹_<_›else hlt j J
   refine aY (id:=2) rfl<|ah<|ah<|eu aN cF<|fun Nr c8=>have Ym:=c8;AQ 0 O Ym (run_move lH)<|AQ 1 O Ym (run_move jT)<|AT 2 O Ym (fun w hS=>aD (hS.sl (i:=1) O) O bq O)<|AQ 3 O Ym (aL O O)<|AQ 4 O Ym (mV (B _) O)<|CQ (dj:=40) O (fun zL=> ?_) (fun zL=> ?_)
   .refine BQ 5 O O (bT zL) c8 (run_move jT)<|BQ 6 O O (bT zL) c8 (run_move lH)<|AG 7 O O (bT zL) c8 (fun w hS=>ag (hS.sl (i:=1) O) bq bp O O J)<|AG 8 O O (bT zL) c8 (fun w hS=>az bt O O ((hS.sl (i:=1) O).cell _ _ (ew J)))<|BQ 9 O O (bT zL) c8 (fA eG 1 O bp vS)<|AG 10 O O (bT zL) c8 (fun w hS=>az bt O O (hS.cell (i:=0) O (v:=I _) O))<|BQ 11 O O (bT zL) c8 (bO O O)<|AQ 12 O Ym (gC (bT zL) (v:=B _) O)<|AD<|aF O (fun h26=> ?_) (fun h26=> ?_)
    .refine aY (id:=1) rfl<|au<|V (ax zN O J)<|mI rfl<|aa<| ?_
     refine⟨(k+1,m,v3),aW,(((SL.u4.u4.u4.u1).t lO O)).u4.u4.u4.u4.u4.u4.u4,(Hp.conv (c8.sub (sQ sR)) aM),jT,(aJ I aM),J,J,?_,J⟩
     rw[iX h0 ‹k<_›,<-hm];((rw[aR ⟨J,J⟩];exact(agk (i:=i.toNat) J hlt J).symm))
    refine ak<|SR<|aG jT<|vP 1 1 c8 (bZ bq O O (sz:=1) (vs:=[I 0]) O O ay ay O O)<|fun b29 w27 jC=> ?_
    (try simp only[ot]at jC)
    refine jm O jC (i:=2) O (jC.dQ (i:=0) (n:=1) (sz:=1) O O ay) O O bq O O (size:=1) (bytes:=8) O O O ay jY J jv<|fun v30 w31 iM=> ?_
    refine V (run_assign bC) ?_
    refine aa<|ah<|ia aN iM (sP (sP (sQ sR)))<|fun w33 mG=>have aiM:=mG.sub (sP (sP (sQ sR)));?_
    refine AQ 0 O aiM (run_move bC) ?_
    refine AQ 1 O aiM (run_move lH)<|AQ 2 O aiM (ax O O J)<| ?_
    refine AQ 4 O aiM (run_move bC) ?_
    refine AQ 5 O aiM (run_move lH)<|ic 3 6 aN ?_ ?_
    .refine bW O aH O mG (sP (sP (sQ sR))) (fT (mG.sl (i:=2) O) bq bp O O J)<|A1 6<|bW O aH O mG (sP (sP (sQ sR))) (fT (mG.sl (i:=2) O) bq bp O O J)<|A1 7<|Bh O aH O (pA (c:=m.length-i.toNat) (o:=(i+1).toNat) mG (i:=2) O J bq O O O (Sl.fr (mG.sl (i:=2) O) i.toNat J) AZ J (fun u hu=>sv (xa hu))) (fun w' h=>h.sub (sP (sP (sQ sR))))<|fun w41 xI=>AD<|au<| ?_
     refine V (run_move bC) ?_
     refine aG lH<|V (fA eG 1 O bp vS)<|lI bt xI 1 O O rfl<|V (ag (xI.sl (i:=2) O) bq bp O O J)<|yF xI (i:=2) O J O (u:=I _) O O O O J<|fun w43 wT=>aa<|au<|V (ax zN O J)<|mI rfl<|aa<| ?_
     refine⟨(k+1,(m.take i.toNat++(l.getD k.toNat cg).n::m.drop i.toNat),v30),aW,(((SL.u4.u4.u4.u1).t lO O)).u4.u4.u4.u4.u4.u4.u4.u4.u4.u4.u4.u1,(Hp.conv (wT.sub (sQ (sQ sR))) AW),rfl,(aJ I aM),J,J,?_,J3⟩
     rw[iX h0 ‹k<_›,<-hm];((rw[aR ⟨J,J⟩];exact(yS (i:=i.toNat) J hlt (fun _=>J)).symm))
    refine bW O aH O mG (sP (sP (sQ sR))) (fT (mG.sl (i:=2) O) bq bp O O J)<|A1 3<|bW O aH O mG (sP (sP (sQ sR))) (fT (mG.sl (i:=2) O) bq bp O O J)<|A1 7<|Bh O aH O (pA (c:=m.length-i.toNat) (o:=(i+1).toNat) mG (i:=2) O J bq O O O (Sl.fr (mG.sl (i:=2) O) i.toNat J) AZ J (fun u hu=>sv (xa hu))) (fun w' h=>h.sub (sP (sP (sQ sR))))<|fun w51 air=>AD<|au<| ?_
    refine V (run_move bC) ?_
    refine aG lH<|V (fA eG 1 O bp vS)<|lI bt air 1 O O rfl<|V (ag (air.sl (i:=2) O) bq bp O O J)<|yF air (i:=2) O J O (u:=I _) O O O O J<|fun w53 gk=>aa<|au<|V (ax zN O J)<|mI rfl<|aa<| ?_
    refine⟨(k+1,(m.take i.toNat++(l.getD k.toNat cg).n::m.drop i.toNat),v30),aW,(((SL.u4.u4.u4.u1).t lO O)).u4.u4.u4.u4.u4.u4.u4.u4.u4.u4.u4.u1,(Hp.conv (gk.sub (sQ (sQ sR))) AW),rfl,(aJ I aM),J,J,?_,J3⟩
    rw[iX h0 ‹k<_›,<-hm];((rw[aR ⟨J,J⟩];exact(yS (i:=i.toNat) J hlt (fun _=>J)).symm))
   refine AK 5 O O (bF zL) c8<|AK 6 O O (bF zL) c8<|AK 7 O O (bF zL) c8<|AK 8 O O (bF zL) c8<|AK 9 O O (bF zL) c8<|AK 10 O O (bF zL) c8<|AK 11 O O (bF zL) c8<|AQ 12 O Ym (dV (bF zL) (v:=B false) O)<|AD<|dm rfl<|ak<|SR<|aG jT<|vP 1 1 c8 (bZ bq O O (sz:=1) (vs:=[I 0]) O O ay ay O O)<|fun b57 w55 oo=> ?_
   (try simp only[ot]at oo)
   refine jm O oo (i:=2) O (oo.dQ (i:=0) (n:=1) (sz:=1) O O ay) O O bq O O (size:=1) (bytes:=8) O O O ay jY J jv<|fun v58 w59 BW=> ?_
   refine V (run_assign bC) ?_
   refine aa<|ah<|ia aN BW (sP (sP (sQ sR)))<|fun w61 pO=>have aiN:=pO.sub (sP (sP (sQ sR)));?_
   refine AQ 0 O aiN (run_move bC) ?_
   refine AQ 1 O aiN (run_move lH)<|AQ 2 O aiN (ax O O J)<| ?_
   refine AQ 4 O aiN (run_move bC) ?_
   refine AQ 5 O aiN (run_move lH)<|ic 3 6 aN ?_ ?_
   .refine bW O aH O pO (sP (sP (sQ sR))) (fT (pO.sl (i:=2) O) bq bp O O J)<|A1 6<|bW O aH O pO (sP (sP (sQ sR))) (fT (pO.sl (i:=2) O) bq bp O O J)<|A1 7<|Bh O aH O (pA (c:=m.length-i.toNat) (o:=(i+1).toNat) pO (i:=2) O J bq O O O (Sl.fr (pO.sl (i:=2) O) i.toNat J) AZ J (fun u hu=>sv (xa hu))) (fun w' h=>h.sub (sP (sP (sQ sR))))<|fun w69 uN=>AD<|au<| ?_
    refine V (run_move bC) ?_
    refine aG lH<|V (fA eG 1 O bp vS)<|lI bt uN 1 O O rfl<|V (ag (uN.sl (i:=2) O) bq bp O O J)<|yF uN (i:=2) O J O (u:=I _) O O O O J<|fun w71 X4=>aa<|au<|V (ax zN O J)<|mI rfl<|aa<| ?_
    refine⟨(k+1,(m.take i.toNat++(l.getD k.toNat cg).n::m.drop i.toNat),v58),aW,(((SL.u4.u4.u4.u1).t lO O)).u4.u4.u4.u4.u4.u4.u4.u4.u4.u4.u4.u1,(Hp.conv (X4.sub (sQ (sQ sR))) AW),rfl,(aJ I aM),J,J,?_,J⟩
    rw[iX h0 ‹k<_›,<-hm];((rw[aR ⟨J,J⟩];exact(yS (i:=i.toNat) J hlt (fun _=>J)).symm))
   refine bW O aH O pO (sP (sP (sQ sR))) (fT (pO.sl (i:=2) O) bq bp O O J)<|A1 3<|bW O aH O pO (sP (sP (sQ sR))) (fT (pO.sl (i:=2) O) bq bp O O J)<|A1 7<|Bh O aH O (pA (c:=m.length-i.toNat) (o:=(i+1).toNat) pO (i:=2) O J bq O O O (Sl.fr (pO.sl (i:=2) O) i.toNat J) AZ J (fun u hu=>sv (xa hu))) (fun w' h=>h.sub (sP (sP (sQ sR))))<|fun w79 pM=>AD<|au<| ?_
   refine V (run_move bC) ?_
   refine aG lH<|V (fA eG 1 O bp vS)<|lI bt pM 1 O O rfl<|V (ag (pM.sl (i:=2) O) bq bp O O J)<|yF pM (i:=2) O J O (u:=I _) O O O O J<|fun w81 pP=>aa<|au<|V (ax zN O J)<|mI rfl<|aa<| ?_
   refine⟨(k+1,(m.take i.toNat++(l.getD k.toNat cg).n::m.drop i.toNat),v58),aW,(((SL.u4.u4.u4.u1).t lO O)).u4.u4.u4.u4.u4.u4.u4.u4.u4.u4.u4.u1,(Hp.conv (pP.sub (sQ (sQ sR))) AW),rfl,(aJ I aM),J,J,?_,J⟩
   rw[iX h0 ‹k<_›,<-hm];((rw[aR ⟨J,J⟩];exact(yS (i:=i.toNat) J hlt (fun _=>J)).symm))
  refine AK 5 O O (bF pL) cF<|AK 6 O O (bF pL) cF<|AK 7 O O (bF pL) cF<|AK 8 O O (bF pL) cF<|AK 9 O O (bF pL) cF<|AK 10 O O (bF pL) cF<|AK 11 O O (bF pL) cF<|AQ 12 O sy (dV (bF pL) (v:=B false) O)<|AD<|dm rfl<|aY (id:=2) rfl<|ah<|ah<|eu aN cF<|fun w83 nP=>have qG:=nP;AQ 0 O qG (run_move lH)<|AQ 1 O qG (run_move jT)<|AT 2 O qG (fun w hS=>aD (hS.sl (i:=1) O) O bq O)<|AQ 3 O qG (aL O O)<|AQ 4 O qG (mV (B _) O)<|CQ (dj:=40) O (fun UO=> ?_) (fun UO=> ?_)
  .refine BQ 5 O O (bT UO) nP (run_move jT)<|BQ 6 O O (bT UO) nP (run_move lH)<|AG 7 O O (bT UO) nP (fun w hS=>ag (hS.sl (i:=1) O) bq bp O O J)<|AG 8 O O (bT UO) nP (fun w hS=>az bt O O ((hS.sl (i:=1) O).cell _ _ (ew J)))<|BQ 9 O O (bT UO) nP (fA eG 1 O bp vS)<|AG 10 O O (bT UO) nP (fun w hS=>az bt O O (hS.cell (i:=0) O (v:=I _) O))<|BQ 11 O O (bT UO) nP (bO O O)<|AQ 12 O qG (gC (bT UO) (v:=B _) O)<|AD<|aF O (fun h88=> ?_) (fun h88=> ?_)
   .refine aY (id:=1) rfl<|au<|V (ax zN O J)<|mI rfl<|aa<| ?_
    refine⟨(k+1,m,v3),aW,(((SL.u4.u4.u4.u1).t lO O)).u4.u4.u4.u4.u4.u4.u4,(Hp.conv (nP.sub (sQ sR)) aM),jT,(aJ I aM),J,J,?_,J⟩
    rw[iX h0 ‹k<_›,<-hm];((rw[aP J];done))
   refine ak<|SR<|aG jT<|vP 1 1 nP (bZ bq O O (sz:=1) (vs:=[I 0]) O O ay ay O O)<|fun b91 w89 sX=> ?_
   (try simp only[ot]at sX)
   refine jm O sX (i:=2) O (sX.dQ (i:=0) (n:=1) (sz:=1) O O ay) O O bq O O (size:=1) (bytes:=8) O O O ay jY J jv<|fun v92 w93 vc=> ?_
   refine V (run_assign bC) ?_
   refine aa<|ah<|ia aN vc (sP (sP (sQ sR)))<|fun w95 uO=>have aiO:=uO.sub (sP (sP (sQ sR)));?_
   refine AQ 0 O aiO (run_move bC) ?_
   refine AQ 1 O aiO (run_move lH)<|AQ 2 O aiO (ax O O J)<| ?_
   refine AQ 4 O aiO (run_move bC) ?_
   refine AQ 5 O aiO (run_move lH)<|ic 3 6 aN ?_ ?_
   .refine bW O aH O uO (sP (sP (sQ sR))) (fT (uO.sl (i:=2) O) bq bp O O J)<|A1 6<|bW O aH O uO (sP (sP (sQ sR))) (fT (uO.sl (i:=2) O) bq bp O O J)<|A1 7<|Bh O aH O (pA (c:=m.length-i.toNat) (o:=(i+1).toNat) uO (i:=2) O J bq O O O (Sl.fr (uO.sl (i:=2) O) i.toNat J) AZ J (fun u hu=>sv (xa hu))) (fun w' h=>h.sub (sP (sP (sQ sR))))<|fun ayZ FK=>AD<|au<| ?_
    refine V (run_move bC) ?_
    refine aG lH<|V (fA eG 1 O bp vS)<|lI bt FK 1 O O rfl<|V (ag (FK.sl (i:=2) O) bq bp O O J)<|yF FK (i:=2) O J O (u:=I _) O O O O J<|fun arG uP=>aa<|au<|V (ax zN O J)<|mI rfl<|aa<| ?_
    refine⟨(k+1,(m.take i.toNat++(l.getD k.toNat cg).n::m.drop i.toNat),v92),aW,(((SL.u4.u4.u4.u1).t lO O)).u4.u4.u4.u4.u4.u4.u4.u4.u4.u4.u4.u1,(Hp.conv (uP.sub (sQ (sQ sR))) AW),rfl,(aJ I aM),J,J,?_,J⟩
    rw[iX h0 ‹k<_›,<-hm];((rw[aR ⟨J,J⟩];exact(yS (i:=i.toNat) J hlt (fun _=>J)).symm))
   refine bW O aH O uO (sP (sP (sQ sR))) (fT (uO.sl (i:=2) O) bq bp O O J)<|A1 3<|bW O aH O uO (sP (sP (sQ sR))) (fT (uO.sl (i:=2) O) bq bp O O J)<|A1 7<|Bh O aH O (pA (c:=m.length-i.toNat) (o:=(i+1).toNat) uO (i:=2) O J bq O O O (Sl.fr (uO.sl (i:=2) O) i.toNat J) AZ J (fun u hu=>sv (xa hu))) (fun w' h=>h.sub (sP (sP (sQ sR))))<|fun aDx Dk=>AD<|au<| ?_
   refine V (run_move bC) ?_
   refine aG lH<|V (fA eG 1 O bp vS)<|lI bt Dk 1 O O rfl<|V (ag (Dk.sl (i:=2) O) bq bp O O J)<|yF Dk (i:=2) O J O (u:=I _) O O O O J<|fun asc Dp=>aa<|au<|V (ax zN O J)<|mI rfl<|aa<| ?_
   refine⟨(k+1,(m.take i.toNat++(l.getD k.toNat cg).n::m.drop i.toNat),v92),aW,(((SL.u4.u4.u4.u1).t lO O)).u4.u4.u4.u4.u4.u4.u4.u4.u4.u4.u4.u1,(Hp.conv (Dp.sub (sQ (sQ sR))) AW),rfl,(aJ I aM),J,J,?_,J⟩
   rw[iX h0 ‹k<_›,<-hm];((rw[aR ⟨J,J⟩];exact(yS (i:=i.toNat) J hlt (fun _=>J)).symm))
  refine AK 5 O O (bF UO) nP<|AK 6 O O (bF UO) nP<|AK 7 O O (bF UO) nP<|AK 8 O O (bF UO) nP<|AK 9 O O (bF UO) nP<|AK 10 O O (bF UO) nP<|AK 11 O O (bF UO) nP<|AQ 12 O qG (dV (bF UO) (v:=B false) O)<|AD<|dm rfl<|ak<|SR<|aG jT<|vP 1 1 nP (bZ bq O O (sz:=1) (vs:=[I 0]) O O ay ay O O)<|fun aNH amq xL=> ?_
  (try simp only[ot]at xL)
  refine jm O xL (i:=2) O (xL.dQ (i:=0) (n:=1) (sz:=1) O O ay) O O bq O O (size:=1) (bytes:=8) O O O ay jY J jv<|fun ay0 aDn ah8=> ?_
  refine V (run_assign bC) ?_
  refine aa<|ah<|ia aN ah8 (sP (sP (sQ sR)))<|fun ay1 qQ=>have UP:=qQ.sub (sP (sP (sQ sR)));?_
  refine AQ 0 O UP (run_move bC) ?_
  refine AQ 1 O UP (run_move lH)<|AQ 2 O UP (ax O O J)<| ?_
  refine AQ 4 O UP (run_move bC) ?_
  refine AQ 5 O UP (run_move lH)<|ic 3 6 aN ?_ ?_
  .refine bW O aH O qQ (sP (sP (sQ sR))) (fT (qQ.sl (i:=2) O) bq bp O O J)<|A1 6<|bW O aH O qQ (sP (sP (sQ sR))) (fT (qQ.sl (i:=2) O) bq bp O O J)<|A1 7<|Bh O aH O (pA (c:=m.length-i.toNat) (o:=(i+1).toNat) qQ (i:=2) O J bq O O O (Sl.fr (qQ.sl (i:=2) O) i.toNat J) AZ J (fun u hu=>sv (xa hu))) (fun w' h=>h.sub (sP (sP (sQ sR))))<|fun ar3 FI=>AD<|au<| ?_
   refine V (run_move bC) ?_
   refine aG lH<|V (fA eG 1 O bp vS)<|lI bt FI 1 O O rfl<|V (ag (FI.sl (i:=2) O) bq bp O O J)<|yF FI (i:=2) O J O (u:=I _) O O O O J<|fun ayT M1=>aa<|au<|V (ax zN O J)<|mI rfl<|aa<| ?_
   refine⟨(k+1,(m.take i.toNat++(l.getD k.toNat cg).n::m.drop i.toNat),ay0),aW,(((SL.u4.u4.u4.u1).t lO O)).u4.u4.u4.u4.u4.u4.u4.u4.u4.u4.u4.u1,(Hp.conv (M1.sub (sQ (sQ sR))) AW),rfl,(aJ I aM),J,J,?_,J3⟩
   rw[iX h0 ‹k<_›,<-hm];((rw[aR ⟨J,J⟩];exact(yS (i:=i.toNat) J hlt (fun _=>J)).symm))
  refine bW O aH O qQ (sP (sP (sQ sR))) (fT (qQ.sl (i:=2) O) bq bp O O J)<|A1 3<|bW O aH O qQ (sP (sP (sQ sR))) (fT (qQ.sl (i:=2) O) bq bp O O J)<|A1 7<|Bh O aH O (pA (c:=m.length-i.toNat) (o:=(i+1).toNat) qQ (i:=2) O J bq O O O (Sl.fr (qQ.sl (i:=2) O) i.toNat J) AZ J (fun u hu=>sv (xa hu))) (fun w' h=>h.sub (sP (sP (sQ sR))))<|fun amn oM=>AD<|au<| ?_
  refine V (run_move bC) ?_
  refine aG lH<|V (fA eG 1 O bp vS)<|lI bt oM 1 O O rfl<|V (ag (oM.sl (i:=2) O) bq bp O O J)<|yF oM (i:=2) O J O (u:=I _) O O O O J<|fun ayU B3=>aa<|au<|V (ax zN O J)<|mI rfl<|aa<| ?_
  refine⟨(k+1,(m.take i.toNat++(l.getD k.toNat cg).n::m.drop i.toNat),ay0),aW,(((SL.u4.u4.u4.u1).t lO O)).u4.u4.u4.u4.u4.u4.u4.u4.u4.u4.u4.u1,(Hp.conv (B3.sub (sQ (sQ sR))) AW),rfl,(aJ I aM),J,J,?_,J3⟩
  rw[iX h0 ‹k<_›,<-hm];((rw[aR ⟨J,J⟩];exact(yS (i:=i.toNat) J hlt (fun _=>J)).symm))
 refine aY (id:=0) rfl<|SR<|aG T8<| ?_
 refine V (run_assign bC) ?_
 refine aa<|aj<|Nc O O a7 (i:=0) O ((by rw[hm,iD J])) ((by rw[hm,iD J]))
theorem M4{s:NP}{R L0 Z:List a8}(k:Int)(v:Value)(l:List dI)(t:gZ)(y:BitVec 64)(hok:Fa s)(hll:l.length<=1000)(hlg:lg.length<=550000000000)(htm:tm.length<=100000000)(w:World)(hT:oq W0)(hls:∀x∈s.an,kO (Kz (Kw W0) L0) x.p)(hc:n7 (Kz (Kw W0) L0) v 10 l.length (l.flatMap jW))(hZ:uR n m s lg tm R L0 Z)(hH:Hp W0 w Z):Calls Tryz.prog 25 #[pt n,I k,v,.agg (iS t).toArray,U y] w (jF fun u w'=>(¬(s.sk=false/\sU s.an s.aS k l t=true)/\u=B false/\∃Z',uR n m s lg tm R L0 Z'/\Hp W0 w' Z')\/(s.sk=false/\sU s.an s.aS k l t=true/\u=B true/\∃(fv cv vv:Value) (L1 Z':List a8),(∀b o,a8.blk b o∈L0->a8.blk b o∈L1)/\CC (Kz (Kw W0) L1) (⟨k,cv,l,t,y,vv,dc l⟩:de)/\l9 NX n L1 (fv,.add s.qs.length (⟨k,cv,l,t,y,vv,dc l⟩:de))/\iz [(fv,.add s.qs.length (⟨k,cv,l,t,y,vv,dc l⟩:de))] s (Ab s (⟨k,cv,l,t,y,vv,dc l⟩:de))/\uR n m (Ab s (⟨k,cv,l,t,y,vv,dc l⟩:de)) (lg++[(fv,.add s.qs.length (⟨k,cv,l,t,y,vv,dc l⟩:de))]) (tm++[(lg.length:Int)]) R L1 Z'/\Hp W0 w' Z')):=by
 have hqn:=hok.hqn
 refine enter func25 rfl ntmps25 rfl ?_
 obtain⟨F1,L2,zT,MW,rfl⟩:=hZ
 have bP:=hH
 simp only[NZ,nE]at bP
 have WL:=hc.mono (Le.zb (K:=Kw W0) MW)
 have aFl:∀x∈s.an,kO (Kz (Kw W0) L2) x.p:=fun x hx=>(hls x hx).mono (Le.zb MW)
 have IM:∀k:Nat,(F1.us.getD k cP).l.length<=1000:=fun k=>by rw[<-Bu,zT.us];by_cases c:k<s.us.length;exact(hok.wI k c).1;rw[ep,mJ J];simp
 refine SR<|gX bP (v:=Pn _ _) rfl<|fun b8 w6 eR=>gX eR (v:= .agg _) rfl<|fun b11 w9 bS=>va (v:=B false) rfl<|aa<|ah<|SR<|lP cS bS 1 O O rfl<|aE O bS (nQ _ (bS.blk (i:=2) O)) (aq call40 O)<|fun Cx bY=>V (bK O)<|mB rfl<|fW 18 O (fun xF=> ?_) (fun xF=> ?_)
 .refine aG (v:=B true) rfl<|aa<|cr rfl<|SR<|va (v:=B false) rfl<|aa<|aj<|ja (v:=B false) O O (.inl ⟨jM,rfl,_,⟨F1,L2,zT,MW,rfl⟩,(bY.sub (sQ (sQ sR)))⟩)
 refine lP cS bY 1 O O rfl<|mI rfl<| ?_
 refine V (run_move bC) ?_
 refine V (cG (cs:=iS _) mL O O O (bf (bY.blk (i:=0) O)))<|aE O bY (IP _ _ _ _ _ (bY.blk (i:=2) O) (bY.sl (i:=6) O) (bY.sl (i:=7) O) (WL.mono (bY.kz (Le.refl _) (fun x hx=>(mT (mT (mT (mT (mT (mT (mT (mT (mT (mT (mT (mT (mT (mT (bB _ (bB _ hx))))))))))))))))))).sl (fun x hx=>(aFl x hx).mono (bY.kz (Le.refl _) (fun x hx=>(mT (mT (mT (mT (mT (mT (mT (mT (mT (mT (mT (mT (mT (mT (bB _ (bB _ hx))))))))))))))))))) (hT.hp bY)) (iQ call56 O O O O)<|fun OY dH=>V (bK O)<|mB rfl<|aa<|bQ O (fun Q6=> ?_) (fun Q6=> ?_)
 .refine SR<|va (v:=B false) rfl<|aa<|aj<|ja (v:=B false) O O (.inl ⟨jM,rfl,_,⟨F1,L2,zT,MW,rfl⟩,(dH.sub (sQ (sQ sR)))⟩)
 refine ak<|SR<|lP cS dH 1 O O rfl<|ct O (oQ J _ (dH.pj [2,2,2,2,2,2,2,2,2,2,2,2])) (aq call41 O)<| ?_
 rintro _ w24 ⟨rfl,v26,mc⟩
 simp only[nE]at mc
 have dw:=mc.pk [12,12]
 refine aa<|SR<|lP cS dw 1 O O rfl<|V (af O)<|V (fA bU 6 O wv O)<|lV mK dw 2 O O rfl<|V (aD (dw.sl (i:=11) O) O mK O)<|ou dw (aZ Tryz.zeroValue3)<|fun b30 w28 gj=>bk gj (i:=0) O (bM O O (v:=I _) O O O (gj.blk (i:=0) O) ay)<|fun w33 mG=> ?_
 simp only[z2,gF,pull]at mG
 refine aa<|DW (G:=(Nat)×(Value)×(Value)×(List a8)) mG (12::(rg 33 9 [])) (fun(L:List a8) (⟨q12,cv,vv,Zq⟩:(Nat)×(Value)×(Value)×(List a8))=> .blk q12 (.cells (o7 (⟨k,cv,l,t,y,vv,dc l⟩:de)).toArray 128 (0,0))::(L.take 15++((F1.us.map (dB 3))++(Zq++(R++L2))))) (fun(⟨q12,cv,vv,Zq⟩:(Nat)×(Value)×(Value)×(List a8)) s'=>(s' 12= .pointer (some ⟨q12,0,none⟩))/\(CC (Kz (Kw W0) Zq) (⟨k,cv,l,t,y,vv,dc l⟩:de))) ?_ ?_
 .refine fC (z:=⟨none,_,_,_,_,none⟩) aN O aN mG sR<|fun w35 m6=>have rL:=m6.sub sR;AQ 0 O rL (mV (I _) O)<| ?_
  refine AQ 2 O rL (run_move bC) ?_
  refine AT 4 O rL (fun w hS=>cG (cs:=iS _) mL O O O (bf (hS.blk (i:=1) O)))<|AQ 5 O rL (mV (U _) O)<| ?_
  refine AQ 6 O rL (run_move bC) ?_
  refine ic 1 9 aN ?_ ?_
  .refine cN O aH O m6 sR (f:=fun b=> .slice (some ⟨b,0,none⟩) 0 0) (EG ir oW)<|fun b39 w37 zn=> ?_
   (try simp only[ot]at zn)
   have nM:=zn.A9 0 10 O ay
   refine ic 3 9 aN ?_ ?_
   .refine k8 O aH O nM (j:=0) O (fun _=>(sQ sR)) (WL.mono (nM.kz (Le.refl _) (fun x hx=>(mT (mT (mT (mT (mT (mT (mT (mT (mT (mT (mT (mT (mT (mT (mT (mT (bB _ (bB _ hx))))))))))))))))))))).sl O O ir O O (size:=10) (bytes:=80) O O O ay (LN _) J jv<|fun v43 w44 qD=> ?_
    simp only[z2,gF,pull]at qD
    refine ic 7 9 aN ?_ ?_
    .refine Kg O aH O qD (sQ sR) (vZ _ _ J _ (WL.mono (qD.kz (Le.refl _) (fun x hx=>(mT (mT (mT (mT (mT (mT (mT (mT (mT (mT (mT (mT (mT (mT (mT (mT (bB _ (bB _ hx))))))))))))))))))))).sl) (aq call57 O)<|fun v48 w46 nO=>AQ 8 O (nO.sub (sQ (sQ sR))) (dD (vs:=[(0,I k),(1,v43),(2,.agg (iS t).toArray),(3,U y),(4,v48)]) O (zv k l t y (dc l) (a6 (nO.get (i:=1) O)).1 (a6 (nO.get (i:=0) O)).1))<|A1 9<|cN O aH O nO (sQ (sQ sR)) (f:=fun b=> .pointer (some ⟨b,0,none⟩)) (aZ Tryz.zeroValue128)<|fun b51 w49 ey=>AD<| ?_
     obtain⟨Z52,aFm,aFn,-⟩:=(ey.pj [2]).UX (Kw W0)
     have iB:Hp _ w49 (_::_::_::_::_::_::_::_::_::_::_::_::_::_::_::_::_::(Z52++((F1.us.map (dB 3))++(R++L2)))):=aFm.Iq (L:=[_,_,_,_,_,_,_,_,_,_,_,_,_,_,_,_,_]) (L':=((F1.us.map (dB 3))++(R++L2)))
     have oo:=Hp.lC (A:=[_,_,_,_,_,_,_,_,_,_,_,_,_,_,_,_,_]) (B:=Z52) (R:=(F1.us.map (dB 3))) iB
     simp only[fH,dZ]at oo
     obtain⟨Z57,aFo,aFp,-⟩:=(oo.pj [1]).UX (Kw W0)
     have BW:Hp _ w49 (_::_::_::_::_::_::_::_::_::_::_::_::_::_::_::_::(Z57++((F1.us.map (dB 3))++(Z52++(R++L2))))):=aFo.Iq (L:=[_,_,_,_,_,_,_,_,_,_,_,_,_,_,_,_]) (L':=((F1.us.map (dB 3))++(Z52++(R++L2))))
     have CI:=Hp.lC (A:=[_,_,_,_,_,_,_,_,_,_,_,_,_,_,_,_]) (B:=Z57) (R:=(F1.us.map (dB 3))) BW
     simp only[fH,dZ]at CI
     have xR:CC (Kz (Kw W0) (Z57++Z52)) (⟨k,v43,l,t,y,v48,dc l⟩:de):=⟨n7.mono (by simpa using aFn) (Le.zz fun x hx=>bB _ hx),aFp.mono (Le.zz fun x hx=>dy _ hx)⟩
     refine bk CI (i:=0) O (dX O O O (sw xR) (CI.blk (i:=0) O) O)<|fun w62 pc=> ?_
     simp only[z2,gF,pull]at pc
     refine aa ?_
     refine⟨((Fr.refl _ _)).u4.u4.u1.u1,(b51,v43,v48,(Z57++Z52)),(Hp.conv pc PW),rfl,?_⟩
     exact xR
    refine cN O aH O qD (sQ sR) (f:=fun b=> .pointer (some ⟨b,0,none⟩)) (aZ Tryz.zeroValue128)<|fun b66 w64 uM=>A1 7<|Kg O aH O uM (sQ (sQ sR)) (vZ _ _ J _ (WL.mono (uM.kz (Le.refl _) (fun x hx=>(mT (mT (mT (mT (mT (mT (mT (mT (mT (mT (mT (mT (mT (mT (mT (mT (mT (bB _ (bB _ hx)))))))))))))))))))))).sl) (aq call57 O)<|fun v69 w67 kD=>AQ 8 O (kD.sub (sQ (sQ (sQ sR)))) (dD (vs:=[(0,I k),(1,v43),(2,.agg (iS t).toArray),(3,U y),(4,v69)]) O (zv k l t y (dc l) (a6 (kD.get (i:=2) O)).1 (a6 (kD.get (i:=0) O)).1))<|AD<| ?_
    obtain⟨Z70,aFq,aFr,-⟩:=(kD.pj [2]).UX (Kw W0)
    have u9:Hp _ w67 (_::_::_::_::_::_::_::_::_::_::_::_::_::_::_::_::_::(Z70++((F1.us.map (dB 3))++(R++L2)))):=aFq.Iq (L:=[_,_,_,_,_,_,_,_,_,_,_,_,_,_,_,_,_]) (L':=((F1.us.map (dB 3))++(R++L2)))
    have wU:=Hp.lC (A:=[_,_,_,_,_,_,_,_,_,_,_,_,_,_,_,_,_]) (B:=Z70) (R:=(F1.us.map (dB 3))) u9
    simp only[fH,dZ]at wU
    obtain⟨Z75,aFs,aFt,-⟩:=wU.UX (Kw W0)
    have II:Hp _ w67 (_::_::_::_::_::_::_::_::_::_::_::_::_::_::_::_::(Z75++((F1.us.map (dB 3))++(Z70++(R++L2))))):=aFs.Iq (L:=[_,_,_,_,_,_,_,_,_,_,_,_,_,_,_,_]) (L':=((F1.us.map (dB 3))++(Z70++(R++L2))))
    have IQ:=Hp.lC (A:=[_,_,_,_,_,_,_,_,_,_,_,_,_,_,_,_]) (B:=Z75) (R:=(F1.us.map (dB 3))) II
    simp only[fH,dZ]at IQ
    have xR:CC (Kz (Kw W0) (Z75++Z70)) (⟨k,v43,l,t,y,v69,dc l⟩:de):=⟨n7.mono (by simpa using aFr) (Le.zz fun x hx=>bB _ hx),aFt.mono (Le.zz fun x hx=>dy _ hx)⟩
    refine bk IQ (i:=0) O (dX O O O (sw xR) (IQ.blk (i:=0) O) O)<|fun w80 amp=> ?_
    simp only[z2,gF,pull]at amp
    refine aa ?_
    refine⟨((Fr.refl _ _)).u4.u4.u1.u1,(b66,v43,v69,(Z75++Z70)),(Hp.conv amp PW),rfl,?_⟩
    exact xR
   refine cN O aH O nM (sQ sR) (f:=fun b=> .pointer (some ⟨b,0,none⟩)) (aZ Tryz.zeroValue128)<|fun b84 w82 aiK=>A1 3<|k8 O aH O aiK (j:=1) O (fun _=>(sQ (sQ sR))) (WL.mono (aiK.kz (Le.refl _) (fun x hx=>(mT (mT (mT (mT (mT (mT (mT (mT (mT (mT (mT (mT (mT (mT (mT (mT (mT (bB _ (bB _ hx)))))))))))))))))))))).sl O O ir O O (size:=10) (bytes:=80) O O O ay (LN _) J jv<|fun v87 w88 Rq=> ?_
   simp only[z2,gF,pull]at Rq
   refine A1 7<|Kg O aH O Rq (sQ (sQ sR)) (vZ _ _ J _ (WL.mono (Rq.kz (Le.refl _) (fun x hx=>(mT (mT (mT (mT (mT (mT (mT (mT (mT (mT (mT (mT (mT (mT (mT (mT (mT (bB _ (bB _ hx)))))))))))))))))))))).sl) (aq call57 O)<|fun v92 w90 MI=>AQ 8 O (MI.sub (sQ (sQ (sQ sR)))) (dD (vs:=[(0,I k),(1,v87),(2,.agg (iS t).toArray),(3,U y),(4,v92)]) O (zv k l t y (dc l) (a6 (MI.get (i:=2) O)).1 (a6 (MI.get (i:=0) O)).1))<|AD<| ?_
   obtain⟨Z93,aFu,aFv,-⟩:=(MI.pj [2]).UX (Kw W0)
   have uO:Hp _ w90 (_::_::_::_::_::_::_::_::_::_::_::_::_::_::_::_::_::(Z93++((F1.us.map (dB 3))++(R++L2)))):=aFu.Iq (L:=[_,_,_,_,_,_,_,_,_,_,_,_,_,_,_,_,_]) (L':=((F1.us.map (dB 3))++(R++L2)))
   have Rw:=Hp.lC (A:=[_,_,_,_,_,_,_,_,_,_,_,_,_,_,_,_,_]) (B:=Z93) (R:=(F1.us.map (dB 3))) uO
   simp only[fH,dZ]at Rw
   obtain⟨Z98,aFw,ay2,-⟩:=Rw.UX (Kw W0)
   have Dn:Hp _ w90 (_::_::_::_::_::_::_::_::_::_::_::_::_::_::_::_::(Z98++((F1.us.map (dB 3))++(Z93++(R++L2))))):=aFw.Iq (L:=[_,_,_,_,_,_,_,_,_,_,_,_,_,_,_,_]) (L':=((F1.us.map (dB 3))++(Z93++(R++L2))))
   have Ia:=Hp.lC (A:=[_,_,_,_,_,_,_,_,_,_,_,_,_,_,_,_]) (B:=Z98) (R:=(F1.us.map (dB 3))) Dn
   simp only[fH,dZ]at Ia
   have xR:CC (Kz (Kw W0) (Z98++Z93)) (⟨k,v87,l,t,y,v92,dc l⟩:de):=⟨n7.mono (by simpa using aFv) (Le.zz fun x hx=>bB _ hx),ay2.mono (Le.zz fun x hx=>dy _ hx)⟩
   refine bk Ia (i:=0) O (dX O O O (sw xR) (Ia.blk (i:=0) O) O)<|fun ayZ FK=> ?_
   simp only[z2,gF,pull]at FK
   refine aa ?_
   refine⟨((Fr.refl _ _)).u4.u4.u1.u1,(b84,v87,v92,(Z98++Z93)),(Hp.conv FK PW),rfl,?_⟩
   exact xR
  refine cN O aH O m6 sR (f:=fun b=> .pointer (some ⟨b,0,none⟩)) (aZ Tryz.zeroValue128)<|fun aFx arG uP=>A1 1<|cN O aH O uP (sQ sR) (f:=fun b=> .slice (some ⟨b,0,none⟩) 0 0) (EG ir oW)<|fun aNJ aE2 Pf=> ?_
  (try simp only[ot]at Pf)
  have UL:=Pf.A9 0 10 O ay
  refine A1 3<|k8 O aH O UL (j:=0) O (fun _=>(sQ (sQ sR))) (WL.mono (UL.kz (Le.refl _) (fun x hx=>(mT (mT (mT (mT (mT (mT (mT (mT (mT (mT (mT (mT (mT (mT (mT (mT (mT (bB _ (bB _ hx)))))))))))))))))))))).sl O O ir O O (size:=10) (bytes:=80) O O O ay (LN _) J jv<|fun asu asc Dp=> ?_
  simp only[z2,gF,pull]at Dp
  refine A1 7<|Kg O aH O Dp (sQ (sQ sR)) (vZ _ _ J _ (WL.mono (Dp.kz (Le.refl _) (fun x hx=>(mT (mT (mT (mT (mT (mT (mT (mT (mT (mT (mT (mT (mT (mT (mT (mT (mT (bB _ (bB _ hx)))))))))))))))))))))).sl) (aq call57 O)<|fun asv amq xL=>AQ 8 O (xL.sub (sQ (sQ (sQ sR)))) (dD (vs:=[(0,I k),(1,asu),(2,.agg (iS t).toArray),(3,U y),(4,asv)]) O (zv k l t y (dc l) (a6 (xL.get (i:=1) O)).1 (a6 (xL.get (i:=0) O)).1))<|AD<| ?_
  obtain⟨acD,ay3,ay4,-⟩:=(xL.pj [1]).UX (Kw W0)
  have Ij:Hp _ amq (_::_::_::_::_::_::_::_::_::_::_::_::_::_::_::_::_::(acD++((F1.us.map (dB 3))++(R++L2)))):=ay3.Iq (L:=[_,_,_,_,_,_,_,_,_,_,_,_,_,_,_,_,_]) (L':=((F1.us.map (dB 3))++(R++L2)))
  have qQ:=Hp.lC (A:=[_,_,_,_,_,_,_,_,_,_,_,_,_,_,_,_,_]) (B:=acD) (R:=(F1.us.map (dB 3))) Ij
  simp only[fH,dZ]at qQ
  obtain⟨amr,ay5,aiP,-⟩:=qQ.UX (Kw W0)
  have aiQ:Hp _ amq (_::_::_::_::_::_::_::_::_::_::_::_::_::_::_::_::(amr++((F1.us.map (dB 3))++(acD++(R++L2))))):=ay5.Iq (L:=[_,_,_,_,_,_,_,_,_,_,_,_,_,_,_,_]) (L':=((F1.us.map (dB 3))++(acD++(R++L2))))
  have MJ:=Hp.lC (A:=[_,_,_,_,_,_,_,_,_,_,_,_,_,_,_,_]) (B:=amr) (R:=(F1.us.map (dB 3))) aiQ
  simp only[fH,dZ]at MJ
  have xR:CC (Kz (Kw W0) (amr++acD)) (⟨k,asu,l,t,y,asv,dc l⟩:de):=⟨n7.mono (by simpa using ay4) (Le.zz fun x hx=>bB _ hx),aiP.mono (Le.zz fun x hx=>dy _ hx)⟩
  refine bk MJ (i:=0) O (dX O O O (sw xR) (MJ.blk (i:=0) O) O)<|fun aDy aaa=> ?_
  simp only[z2,gF,pull]at aaa
  refine aa ?_
  refine⟨((Fr.refl _ _)).u4.u4.u1.u1,(aFx,asu,asv,(amr++acD)),(Hp.conv aaa PW),rfl,?_⟩
  exact xR
 rintro⟨q12,cv,vv,Zq⟩ aIB aNK ay6 FI ⟨RH,acE⟩
 simp only[FM,we,fH,dZ]at FI
 obtain⟨Yn,aAn,ams⟩:=ay6.w3 5 10 11
 have hfb:sU s.an s.aS k l t=true:=nf ‹(!sU _ _ _ _ _)=false›
 have hvs:=abR hfb
 have ON:=TR l
 have hvl:∀v∈dc l,0<=v/\v<s.us.length:=fun v hv=>by have:=hvs v hv;have:=hok.hlt;have:=hok.M7;omega
 have hvc:(dc l).length<=1000:=kg (abI l) hll
 have hvw:(⟨k,cv,l,t,y,vv,dc l⟩:de).vars.length=(dc l).length:=rfl
 refine ah<|fC (z:=⟨none,_,_,_,_,none⟩) aN O aN FI (sP (sP (sP (sP (sP (sP (sP (sP (sP (sP (sP (sP (sP (sQ sR))))))))))))))<|fun ayT M1=>have xM:=M1.sub (sP (sP (sP (sP (sP (sP (sP (sP (sP (sP (sP (sP (sP (sQ sR))))))))))))));AT 0 O xM (fun w hS=>az cS O Yn (hS.cell (i:=3) O (v:=Pn _ _) O))<|AT 1 O xM (fun w hS=>az cS O Yn (hS.cell (i:=3) O (v:=Pn _ _) O))<|AQ 2 O xM (af O)<|AQ 3 O xM (fA bU 6 O wv O)<|tV 4 O xM mK 4 O O rfl<|AT 5 O xM (fun w hS=>cG (cs:=o7 _) iE O O RH (bf (hS.blk (i:=0) O)))<|A1 6<|cN O aH O M1 (sP (sP (sP (sP (sP (sP (sP (sP (sP (sP (sP (sP (sP (sQ sR)))))))))))))) (f:=fun b=> .slice (some ⟨b,0,none⟩) 1 1) (kI oE mK O O O (l:=[(⟨k,cv,l,t,y,vv,dc l⟩:de)]) O ay ay O)<|fun aE6 aE7 FD=>A1 7<|QI (a:=(⟨k,cv,l,t,y,vv,dc l⟩:de)) O aH oE ay O FD (i:=14) O (fun _=>(sQ (sP (sP (sP (sP (sP (sP (sP (sP (sP (sP (sP (sP (sP (sQ sR)))))))))))))))) (Hp.mv oE FD (i:=0) (l:=[(⟨k,cv,l,t,y,vv,dc l⟩:de)]) O jL) O O mK O O (bytes:=136) O O O (fun u hu=>sw acE u pX) J ay<|fun aiE amn oM=> ?_
 simp only[z2,gF,pull]at oM
 refine AQ 8 O (oM.sub (sQ (sP (sP (sP (sP (sP (sP (sP (sP (sP (sP (sP (sP (sP (sQ sR)))))))))))))))) (af O)<|AQ 9 O (oM.sub (sQ (sP (sP (sP (sP (sP (sP (sP (sP (sP (sP (sP (sP (sP (sQ sR)))))))))))))))) (fA bU 6 O wv O)<|AD<|bk oM (i:=5) O (bM O O (v:=aiE) O (a6 (oM.get (i:=14) O)).1 (a6 (oM.get (i:=14) O)).2 (oM.blk (i:=5) O) aA)<|fun ayU B3=> ?_
 simp only[ij,kf,mA,gA,Nat.reduceAdd]at B3
 refine aa<|ah<|SR<|V (fA iE 12 O df RH)<|V (cB (acE.vars.mono (B3.kz (Le.refl _) (fun x hx=>(mT (mT (mT (mT (mT (mT (mT (mT (mT (mT (mT (mT (mT (mT (mT (mT (mT (bB _ (dy _ hx)))))))))))))))))))))).sl bq O O (B3.cell (i:=1) O O))<|V (aD (acE.vars.mono (B3.kz (Le.refl _) (fun x hx=>(mT (mT (mT (mT (mT (mT (mT (mT (mT (mT (mT (mT (mT (mT (mT (mT (mT (bB _ (dy _ hx)))))))))))))))))))))).sl O bq O)<|aG (v:=I 0) rfl<|aa<|aC<|bj (G:=Int×(List jx)×(List a8)) (fun⟨j,U7,Z1⟩ s' w'=>(Fr (14::(rg 55 21 [])) _ s')/\(Hp W0 w' (_::_::_::_::_::_::_::_::_::_::_::_::_::jf jx.v F1.vu 99 U7::_::_::_::Z1))/\(s' 55=I j)/\(0<=j)/\(j<=(dc l).length)/\(Z1=U7.map (dB 3)++(Zq++(R++L2)))/\(o5 U7=((dc l).take j.toNat).foldl (D9 s.qs.length) s.us)) (fun⟨j,U7,Z1⟩=>((dc l).length-j).toNat) ((0,F1.us,((F1.us.map (dB 3))++(Zq++(R++L2))))) ⟨Fr.refl _ _,B3,rfl,J,J,rfl,zT.us⟩<| ?_
 rintro⟨j,U7,Z1⟩ aIC aNL ⟨aiR,UQ,RI,h0,hj,hz,hgs⟩
 obtain⟨amt,amu⟩:=aiR.w2 53 54
 obtain⟨RJ,aai,amv⟩:=aiR.t3 5 Yn 11 ams 12 RH
 subst hz
 have hgn:U7.length=s.us.length:=by have:=aJ List.length hgs;rwa[fQ,oH]at this
 have hub:∀k:Nat,(U7.getD k cP).l.length<=1001:=fun k=>by rw[<-Bu,hgs];exact ak3 (ON.sublist (List.take_sublist _ _)) (fun v hv=>hvl v (AA hv)) (by rw[<-zT.us,Bu];exact IM k)
 refine SR<|V (aL RI amu)<|aa<|ah<|aF O (fun aFy=> ?_) (fun aFy=> ?_)
 .refine ak<|ah<|aC<|SR<|V (ag (acE.vars.mono (UQ.kz (Le.refl _) (fun x hx=>(mT (mT (mT (mT (mT (mT (mT (mT (mT (mT (mT (mT (mT (mT (mT (mT (mT (bB _ (dy _ hx)))))))))))))))))))))).sl bq bp amt RI J)<|V (az bt O O ((acE.vars.mono (UQ.kz (Le.refl _) (fun x hx=>(mT (mT (mT (mT (mT (mT (mT (mT (mT (mT (mT (mT (mT (mT (mT (mT (mT (bB _ (dy _ hx)))))))))))))))))))))).sl.cell _ _ (ew J)))<|V (run_assign (show _=I ((dc l).getD j.toNat 0)from O))<|aa<|have hvj:=hvl _ (dG (d:=0) h0 ‹j<_›);?_
  rw[<-hgn]at hvj
  refine fC (z:=⟨none,_,_,_,_,none⟩) aN O aN UQ (sP (sP (sP (sP (sP (sP (sP (sP (sP (sP (sP (sP (sP (sP (sP (sP (sP (sA sR))))))))))))))))))<|fun aNN aoF=>have xN:=aoF.sub (sP (sP (sP (sP (sP (sP (sP (sP (sP (sP (sP (sP (sP (sP (sP (sP (sP (sA sR))))))))))))))))));AT 0 O xN (fun w hS=>az cS O RJ (hS.cell (i:=4) O (v:=Pn _ _) O))<|AQ 1 O xN (af O)<|AQ 2 O xN (fA bU 5 O yc O)<|tV 3 O xN ov 5 O O rfl<|AQ 4 O xN (mV (I _) O)<|AT 5 O xN (fun w hS=>az cS O RJ (hS.cell (i:=4) O (v:=Pn _ _) O))<|AQ 6 O xN (af O)<|AQ 7 O xN (fA bU 5 O yc O)<|tV 8 O xN ov 5 O O rfl<|AQ 9 O xN (mV (I _) O)<|AT 10 O xN (fun w hS=>ag (hS.sl (i:=13) O) ov df O (show _=I ((dc l).getD j.toNat 0)from O) J)<|AT 11 O xN (fun w hS=>az bq O O ((hS.sl (i:=13) O).cell _ _ (kR (dv:=cP) J)))<|AT 12 O xN (fun w hS=>az bt O aai (hS.cell (i:=2) O (v:=I _) O))<|A1 13<|cN O aH O aoF (sP (sP (sP (sP (sP (sP (sP (sP (sP (sP (sP (sP (sP (sP (sP (sP (sP (sA sR)))))))))))))))))) (f:=fun b=> .slice (some ⟨b,0,none⟩) 1 1) (bZ bq O O (sz:=1) (vs:=[I _]) O O ay ay O O)<|fun aNO aNP UN=> ?_
  (try simp only[ot]at UN)
  refine A1 14<|af4 (A:=[_,_,_,_,_,_,_,_,_,_,_,_,_,_,_,_,_,_]) (gs:=U7) (q:=((dc l).getD j.toNat 0)) (a:=(s.qs.length:Int)) (R:=(Zq++(R++L2))) O aH O UN (fun _=>(sQ (sP (sP (sP (sP (sP (sP (sP (sP (sP (sP (sP (sP (sP (sP (sP (sP (sP (sA (sA sR))))))))))))))))))))) hvj (UN.dQ (i:=0) (n:=1) (sz:=1) O O ay) O O bq O O (bytes:=8) O O O (by have:=hub (((dc l).getD j.toNat 0)).toNat;omega) ay<|fun asw aNQ aaj=> ?_
  simp only[fH,dZ]at aaj
  refine AT 15 O (aaj.sub (sQ (sP (sP (sP (sP (sP (sP (sP (sP (sP (sP (sP (sP (sP (sP (sP (sP (sP (sA sR)))))))))))))))))))) (fun w hS=>ag (hS.sl (i:=13) O) ov df O (show _=I ((dc l).getD j.toNat 0)from O) J)<|AD<|have aoG:=Hp.auI (A:=[_,_,_,_,_,_,_,_,_,_,_,_,_,_,_,_,_,_]) (gs:=U7) (q:=((dc l).getD j.toNat 0)) (R:=(Zq++(R++L2))) aaj J;qe (f:=jx.v) (a:=⟨asw,(U7.getD (((dc l).getD j.toNat 0)).toNat cP).l++[(s.qs.length:Int)]⟩) aaj (i:=14) O J O O aoG.1 aoG.2 rfl<|fun aNR aoH=> ?_
  simp only[z2,gF,pull]at aoH
  refine aa<|au<|V (ax RI O J)<|mI rfl<|aa<| ?_
  refine⟨(j+1,(U7.set (((dc l).getD j.toNat 0)).toNat ⟨asw,(U7.getD (((dc l).getD j.toNat 0)).toNat cP).l++[(s.qs.length:Int)]⟩),(((U7.set (((dc l).getD j.toNat 0)).toNat ⟨asw,(U7.getD (((dc l).getD j.toNat 0)).toNat cP).l++[(s.qs.length:Int)]⟩).map (dB 3))++(Zq++(R++L2)))),aW,aiR.u4.u4.u4.u4.u4.u1.u1,(Hp.conv (aoH.sub (sQ sR)) aM),(aJ I aM),J,J,aM,?_⟩
  (rw[nu h0 ‹j<_›,<-hgs];unfold D9;rw[Zw,D5])
 refine aY (id:=0) rfl<|SR<|V (az cS O RJ (UQ.cell (i:=4) O (v:=Pn _ _) O))<|V (Ki RJ aai amv)<|ct O (gV _ _ (.add s.qs.length (⟨k,cv,l,t,y,vv,dc l⟩:de)) J _ (UQ.pj [5,5,5,5,5,5,5,5,5,5,5,5])) (aK yd O O)<| ?_
 rintro _ aFz ⟨rfl,aFA,aak⟩
 simp only[nE]at aak
 have ay7:=aak.pk [12,12,12,12,12]
 refine aa<|SR<|va (v:=B true) rfl<|aa<|aj<|have aie:=((ay7.sub (sQ (sP (sP (sQ sR))))).pj [3,3,3,3,3,3,3,3,3,3,3,3,2,1]);have FJ:=Hp.aBO (A:=[_,_,_,_,_,_,_,_,_,_,_,_]) (B:=[a8.blk b8 (.cells #[pt n] 31 (0,0)),a8.blk b30 (.cells #[I s.qs.length] 3 (0,0)),a8.blk q12 (.cells (o7 (⟨k,cv,l,t,y,vv,dc l⟩:de)).toArray 128 (0,0))]) (U:=(U7.map (dB 3))) (Q:=Zq) (R:=R) aie;?_
 rw[iD J]at hgs
 refine ja (v:=B true) O O (.inr ⟨jM,hfb,rfl,(iW 58 #[pt b8,pt b30,pt q12]),cv,vv,([a8.blk b8 (.cells #[pt n] 31 (0,0)),a8.blk b30 (.cells #[I s.qs.length] 3 (0,0)),a8.blk q12 (.cells (o7 (⟨k,cv,l,t,y,vv,dc l⟩:de)).toArray 128 (0,0))]++(Zq++L2)),_,(fun b o hb=>bB _ (bB _ (MW b o hb))),acE.mono (Le.zz fun x hx=>bB _ (dy _ hx)),⟨_,_,_,rfl,aA,aA,aA⟩,agK ON hvl,⟨{F1 with vu:=F1.vu,vq:=aiE,vd:=aFA,vm:=v26,us:=U7},([a8.blk b8 (.cells #[pt n] 31 (0,0)),a8.blk b30 (.cells #[I s.qs.length] 3 (0,0)),a8.blk q12 (.cells (o7 (⟨k,cv,l,t,y,vv,dc l⟩:de)).toArray 128 (0,0))]++(Zq++L2)),⟨zT.fo.mono fun e he=>bB _ (bB _ he),hgs⟩,fun _ _ q=>q,rfl⟩,?_⟩)
 simp only[NZ,nE,Ab];exact FJ
section
variable{W0 w:World}{n:Nat}{s:NP}{lg:List (Value×lK)}{tm:List Int}{ids:List Nat}{f:Ct}{tl:List (Nat×Rl)}{b c:Nat}{A R Z:List a8}
theorem UR(hT:oq W0)(hW:xA s)(hb:b<=70)(hc:c<=1000)(hZ:kP fr W0 n s lg tm ids f tl b c Z)(hH:Hp W0 w (A++(Z++R))):Calls Tryz.prog 15 #[pt n] w (jF fun u w'=>∃(ok:Bool) (s':NP) (new:List (Value×lK)) (f':Ct) (a j:Nat) (Z':List a8),u=B ok/\au4 s s' ok/\iz new s s'/\oG f f' a a (a+j)/\a<=muM s/\j<=s.ai.length/\kP fr W0 n s' (lg++new) (tmS s lg tm) ids f' tl (b+1) c Z'/\Hp W0 w' (A++(Z'++R))):=by
 obtain⟨Z2,hM,a7⟩:=hZ.awY hH
 obtain⟨m,L0,Zf,⟨b1,b2,b3,b4⟩,hZf,hlv,xR,hch,hN⟩:=hM
 have hmu:=hW.mu
 have hnv:=hW.nv
 refine(FH (JB s) (muB s) (muM s) J hW.ns.ok hW.wy J J b4 J (au3 hW) w hT hlv hZf xR hN a7).mono fun e w' hr=>jF.mono ?_ hr
 rintro u w' (⟨h1,rfl,Z3,Yo,tK⟩|⟨Eu,us,ok,cc,RR,a,s',new,L1,Z3,Zf',f',wI,rfl,hR,hJ,ha,hs',hnc,hnl,hbk,hL,asx,hk,Yo,tK⟩)
 .obtain⟨Zo,ho,hh⟩:=kP.out (A:=A) (R:=R) (fr:=fr) (b:=b+1) (c:=c) ⟨m,L0,Zf,⟨J,J,J,b4.mono J⟩,hZf,hlv,xR,hch,Yo⟩ tK
  refine⟨false,s,[],f,0,0,Zo,rfl,⟨fun _=>⟨rfl,rfl⟩,fun q=>(by rw[h1]at q;cases q)⟩,iz.nil s,oG.refl f,J,J,?_,hh⟩
  rw[lU,au6 h1];exact ho
 have hal:=ag5 hW wI hR ha
 have hS:=aqv hW Eu wI hR (by unfold JN;rw[ZK];exact hJ)
 have hj:(rG s.cs us s.an s.aS s.qs s.sn s.ai.length ⟨s.ai,s.aX,[],List.replicate s.qs.length false⟩).j<=s.ai.length:=(Q1 hW.ns wI).2.2.2
 rw[<-hs']at hS
 have hlt:s'.an=s.an:=hS.an
 obtain⟨Zo,ho,hh⟩:=kP.out (A:=A) (R:=R) (fr:=fr) (b:=b+1) (c:=c) ⟨m+s.ai.length,L1,Zf',⟨J,by simp only[cV];omega,by simp only[cV,gI];omega,(hk.ok b4).mono J⟩,asx,by rw[hlt];exact hlv.mono (Le.zb hL),by rw[hS.qs];exact xR.mono (Le.zb hL),fun x hx=>by rcases eF.1 hx with q|q;exact(hch x q).C3 hL;exact hnc x q,Yo⟩ tK
 rw[<-au7 (lg:=lg) (tm:=tm) Eu]at ho
 exact⟨ok,s',new,f',a,_,Zo,rfl,⟨fun q=>(by rw[Eu]at q;cases q),fun _=>hS⟩,hbk,hk,hal,hj,ho,hh⟩
end
section
variable{W0 w:World}{n:Nat}{s:NP}{lg:List (Value×lK)}{tm:List Int}{ids:List Nat}{f:Ct}{tl:List (Nat×Rl)}{b c:Nat}{A R Z:List a8}
theorem aiT(l:Int)(hok:Fa s)(hb:b<=70)(hc:c<=1000)(hZ:kP fr W0 n s lg tm ids f tl b c Z)(hH:Hp W0 w (A++(Z++R))):Calls Tryz.prog 18 #[pt n,I l] w (jF fun u w'=>(¬(s.sk=false/\0<=l/\l<s.an.length)/\u=I (-1)/\∃Z',kP fr W0 n s lg tm ids f tl b c Z'/\Hp W0 w' (A++(Z'++R)))\/(s.sk=false/\(0<=l/\l<s.an.length)/\u=I s.ai.length/\∃(fv:Value) (Z':List a8),iz [(fv,lK.var s.ai.length ((s.cs.length:Int)-1))] s (pK s l (s.an.getD l.toNat oF).low)/\kP fr W0 n (pK s l (s.an.getD l.toNat oF).low) (lg++[(fv,lK.var s.ai.length ((s.cs.length:Int)-1))]) (tm++[(lg.length:Int)]) ids f tl b (c+1) Z'/\Hp W0 w' (A++(Z'++R)))):=by
 obtain⟨Z2,hM,a7⟩:=hZ.awY hH
 obtain⟨m,L0,Zf,⟨b1,b2,b3,b4⟩,hZf,hlv,xR,hch,hN⟩:=hM
 refine(M3 l J hok J J w hN a7).mono fun e w' hr=>jF.mono ?_ hr
 rintro u w' (⟨h1,rfl,Z3,Yo,tK⟩|⟨h1,h2,rfl,fv,L1,Z3,hL,hC,hbk,Yo,tK⟩)
 .refine .inl ⟨h1,rfl,?_⟩
  obtain⟨Zo,ho,hh⟩:=kP.out (A:=A) (R:=R) (fr:=fr) ⟨m,L0,Zf,⟨b1,b2,b3,b4⟩,hZf,hlv,xR,hch,Yo⟩ tK
  exact⟨Zo,ho,hh⟩
 obtain⟨Zo,ho,hh⟩:=kP.out (A:=A) (R:=R) (fr:=fr) (s:=pK s l (s.an.getD l.toNat oF).low) (lg:=lg++[(fv,lK.var s.ai.length ((s.cs.length:Int)-1))]) (tm:=tm++[(lg.length:Int)]) (b:=b) (c:=c+1) ⟨m+1,L1,Zf,⟨J,by simp only[cV,gI];omega,by simp only[cV,gI];omega,b4⟩,hZf,hlv.mono (Le.zb hL),xR.mono (Le.zb hL),fun x hx=>by rcases eF.1 hx with q|q;exact(hch x q).C3 hL;rw[fG.1 q];exact hC,Yo⟩ tK
 exact .inr ⟨h1,h2,rfl,fv,Zo,hbk,ho,hh⟩
end
section
variable{W0 w:World}{n:Nat}{s:NP}{lg:List (Value×lK)}{tm:List Int}{ids:List Nat}{f:Ct}{tl:List (Nat×Rl)}{b c:Nat}{A R Z:List a8}
theorem aal(k:Int)(v:Value)(l:List dI)(t:gZ)(y:BitVec 64)(hok:Fa s)(hll:l.length<=1000)(hb:b<=70)(hc:c<=1000)(hT:oq W0){X:List a8}(hcv:n7 (Kz (Kw W0) X) v 10 l.length (l.flatMap jW))(hZ:kP fr W0 n s lg tm ids f tl b c Z)(hH:Hp W0 w (A++(Z++X))):Calls Tryz.prog 25 #[pt n,I k,v,.agg (iS t).toArray,U y] w (jF fun u w'=>∃(ok:Bool) (s':NP) (new:List (Value×lK)) (tm':List Int) (Z':List a8),u=B ok/\Q2 s s' k l t y ok/\iz new s s'/\TmA ok lg tm tm'/\kP fr W0 n s' (lg++new) tm' ids f tl b (c+1) Z'/\Hp W0 w' (A++(Z'++[]))):=by
 obtain⟨m,L0,Zf,Z2,⟨b1,b2,b3,b4⟩,hZf,hlv,xR,hch,hN,a7,hXL⟩:=hZ.awZ hH
 refine(M4 k v l t y hok hll J J w hT (fun x hx=>(hlv x hx).yz) (hcv.mono (Le.zb hXL)) hN a7).mono fun e w' hr=>jF.mono ?_ hr
 rintro u w' (⟨h1,rfl,Z3,Yo,tK⟩|⟨h1,h2,rfl,fv,cv,vv,L1,Z3,hL,hq,hC,hbk,Yo,tK⟩)
 .obtain⟨Zo,ho,hh⟩:=kP.out (A:=A) (R:=[]) (fr:=fr) (b:=b) (c:=c+1) ⟨m,L0,Zf,⟨J,J,J,b4⟩,hZf,hlv,xR,hch,Yo⟩ tK
  refine⟨false,s,[],tm,Zo,rfl,Q2.no h1,iz.nil s,rfl,?_,hh⟩
  rw[lU];exact ho
 obtain⟨Zo,ho,hh⟩:=kP.out (A:=A) (R:=[]) (fr:=fr) (s:=Ab s (⟨k,cv,l,t,y,vv,dc l⟩:de)) (lg:=lg++[(fv,lK.add s.qs.length (⟨k,cv,l,t,y,vv,dc l⟩:de))]) (tm:=tm++[(lg.length:Int)]) (b:=b) (c:=c+1) ⟨m,L1,Zf,⟨J,by simp only[cV,gI];omega,by simp only[cV,gI];omega,b4⟩,hZf,hlv.mono (Le.zb hL),fun x hx=>by rcases eF.1 hx with q|q;exact(xR.mono (Le.zb hL)) x q;rw[fG.1 q];exact hq,fun x hx=>by rcases eF.1 hx with q|q;exact(hch x q).C3 hL;rw[fG.1 q];exact hC,Yo⟩ tK
 exact⟨true,_,_,_,Zo,rfl,Q2.yes h1 h2,hbk,rfl,ho,hh⟩
end
section
variable{W0 w:World}{n:Nat}{s:NP}{lg:List (Value×lK)}{tm:List Int}{ids:List Nat}{f:Ct}{tl:List (Nat×Rl)}{b c:Nat}{A R Z:List a8}
theorem aoI(p:kL)(hfn:p.aT.length<=1000)(hnn:∀f∈p.aT,f.names.length<=1000)(hll:s.an.length<=1000)(hwr:WrF s.wr ids)(hb:b<=70)(hc:c<=1000)(hT:oq W0){X:List a8}(hsh:kO (Kz (Kw W0) X) p)(hZ:kP fr W0 n s lg tm ids f tl b c Z)(hH:Hp W0 w (A++(Z++X))):Calls Tryz.prog 19 #[pt n,.agg (rp p)] w (jF fun u w'=>((s.sk=true\/qL p.sh=false)/\u=I (-1)/\∃Z',kP fr W0 n s lg tm ids f tl b c Z'/\Hp W0 w' (A++(Z'++[])))\/(s.sk=false/\∃(x:oP) (fv:Value) (OS:List (Nat×Rl)) (Z':List a8),qL p.sh=true/\u=I s.an.length/\x.p.sh=p.sh/\x.low=gQ p.sh eM/\WrD s.wr x.d/\iz [(fv,lK.aS s.an.length)] s {s with an:=s.an++[x]}/\kP fr W0 n {s with an:=s.an++[x]} (lg++[(fv,lK.aS s.an.length)]) (tm++[(lg.length:Int)]) ids f (tl++OS) b (c+1) Z'/\Hp W0 w' (A++(Z'++[])))):=by
 obtain⟨m,L0,Zf,Z2,⟨b1,b2,b3,b4⟩,hZf,hlv,xR,hch,hN,a7,hXL⟩:=hZ.awZ hH
 refine(MZ p hfn hnn hll J J hwr w hT (hsh.mono (Le.zb hXL)) hZf hN a7).mono fun e w' hr=>jF.mono ?_ hr
 rintro u w' (⟨h1,rfl,Z3,Yo,tK⟩|⟨h1,x,fv,OS,L1,Z3,Zf',h2,rfl,h3,h4,h5,hL,hx,hC,asx,hbk,Yo,tK⟩)
 .refine .inl ⟨h1,rfl,?_⟩
  obtain⟨Zo,ho,hh⟩:=kP.out (A:=A) (R:=[]) (fr:=fr) ⟨m,L0,Zf,⟨b1,b2,b3,b4⟩,hZf,hlv,xR,hch,Yo⟩ tK
  exact⟨Zo,ho,hh⟩
 obtain⟨Zo,ho,hh⟩:=kP.out (A:=A) (R:=[]) (fr:=fr) (s:={s with an:=s.an++[x]}) (lg:=lg++[(fv,lK.aS s.an.length)]) (tm:=tm++[(lg.length:Int)]) (tl:=tl++OS) (b:=b) (c:=c+1) ⟨m,L1,Zf',⟨J,by simp only[cV,gI];omega,by simp only[cV,gI];omega,b4⟩,asx,TH.snoc (fun y hy=>((hlv y hy).mono (Le.zb hL)).more) hx,xR.mono (Le.zb hL),fun x hx=>by rcases eF.1 hx with q|q;exact(hch x q).C3 hL;rw[fG.1 q];exact hC,Yo⟩ tK
 exact .inr ⟨h1,x,fv,OS,Zo,h2,rfl,h3,h4,h5,hbk,ho,hh⟩
end
section
variable{W0 w:World}{n:Nat}{s:NP}{lg:List (Value×lK)}{tm:List Int}{ids:List Nat}{f:Ct}{tl:List (Nat×Rl)}{b c:Nat}{A R Z:List a8}
theorem amw(v:Int)(hZ:kP fr W0 n s lg tm ids f tl b c Z){L:List a8}(hH:Hp W0 w L)(hs:∀x,x∈Z->x∈L):Calls Tryz.prog 23 #[pt n,I v] w (Pure (.agg (iU (if 0<=v/\v<s.ai.length then s.ai.getD v.toNat dh else dh))) w):=by
 obtain⟨m,L0,Zf,_,_,_,_,_,F,L1,hI,hL,rfl⟩:=hZ
 exact HH v w (hH.abq (hs _ (tN ..))) (Sl.Ke (hH.ok (uD sC 8 F.vv 37 s.ai) (hs _ aA)))
end
section
variable{W0 w:World}{n:Nat}{s:NP}{lg:List (Value×lK)}{tm:List Int}{ids:List Nat}{f:Ct}{tl:List (Nat×Rl)}{b c:Nat}{A R Z:List a8}
theorem ay8(v:Int)(hZ:kP fr W0 n s lg tm ids f tl b c Z){L:List a8}(hH:Hp W0 w L)(hs:∀x,x∈Z->x∈L):Calls Tryz.prog 21 #[pt n,I v] w (Pure (U (if 0<=v/\v<s.aX.length then s.aX.getD v.toNat 0 else 0)) w):=by
 obtain⟨m,L0,Zf,_,_,_,_,_,F,L1,hI,hL,rfl⟩:=hZ
 exact MX v w (hH.abq (hs _ (tN ..))) ((show Sl w F.vy 1 s.aX.length (s.aX.map U)from Sl.Ke (hH.ok (jf U F.vy 35 s.aX) (hs _ aA))))
end
section
variable{W0 w:World}{n:Nat}{s:NP}{lg:List (Value×lK)}{tm:List Int}{ids:List Nat}{f:Ct}{tl:List (Nat×Rl)}{b c:Nat}{A R Z:List a8}
theorem amx(hZ:kP fr W0 n s lg tm ids f tl b c Z){L:List a8}(hH:Hp W0 w L)(hs:∀x,x∈Z->x∈L):Calls Tryz.prog 16 #[pt n] w (Pure (.tuple #[U s.wy,B s.sk]) w):=by
 obtain⟨m,L0,Zf,_,_,_,_,_,F,L1,hI,hL,rfl⟩:=hZ
 exact HG w (hH.abq (hs _ (tN ..)))
end
section
variable{W0 w:World}{n:Nat}{s:NP}{lg:List (Value×lK)}{tm:List Int}{ids:List Nat}{f:Ct}{tl:List (Nat×Rl)}{b c:Nat}{A R Z:List a8}
theorem aiU(hZ:kP fr W0 n s lg tm ids f tl b c Z){L:List a8}(hH:Hp W0 w L)(hs:∀x,x∈Z->x∈L):Calls Tryz.prog 24 #[pt n] w (Pure (I (tm.length:Int)) w):=by
 obtain⟨m,L0,Zf,_,_,_,_,_,F,L1,hI,hL,rfl⟩:=hZ
 exact IN w (hH.abq (hs _ (tN ..))) ((show Sl w F.vm 1 tm.length (tm.map I)from Sl.Ke (hH.ok (jf I F.vm 3 tm) (hs _ aA))))
end
theorem zw{ids:List Nat}{f:Ct}{Zf:List a8}(p:kx)(x:Value)(hrs:gy p=true)(hwr:WrF x ids)(hf:D3 0 f)(w:World)(hT:oq W0)(hs:xm (Kw W0) p)(hZ:j5 (Ae fr) ids f [] Zf)(hH:Hp W0 w Zf):Calls Tryz.prog 12 #[.agg (GM p),x] w (jF fun u w'=>∃(n:Nat) (s:NP) (lg:List (Value×lK)) (tm:List Int) (tl:List (Nat×Rl)) (Z:List a8) (c:Nat),u= .tuple #[pt n,B true]/\qh p s/\xA s/\s.qs=[]/\s.sk=false/\s.wr=x/\(∀y∈s.an,WrD x y.d)/\c<=100/\kP fr W0 n s lg tm ids f tl 0 c Z/\Hp W0 w' Z):=by
 obtain⟨⟨hs1,hs2⟩,hsl,hsv⟩:=Bz hrs
 have hsm:=ag6 hrs
 refine en func12 rfl rfl<|SR<|gX hH (v:= .agg _) rfl<|fun b3 w1 a7=>va (v:= .pointer none) rfl<|va (v:=B false) rfl<|aa<|SR<|V (run_move (show _=x from O))<|ct O (MY _ hwr.cells _) (aq call36 O)<| ?_
 rintro _ C8 ⟨n6,Zn7,rfl,h10,hn9⟩
 obtain⟨Z8,aFC,cQ⟩:=kP.new (A:=[_]) (fr:=fr) hn9 hZ hf (Hp.EK a7 h10)
 simp only[fH,dZ]at cQ
 refine va (v:=Pn _ _) rfl<|aa<|ah<|SR<|V (fA gB 0 O qW O)<|V (cB (hs.an.sl.hp cQ) kK O O (cQ.cell (i:=0) O O))<|V (aD (hs.an.sl.hp cQ) O kK O)<|aG (v:=I 0) rfl<|aa<|aC<|bj (G:=Int×(List oP)×(List a8)) (fun⟨k,ls,Z1⟩ s' w'=>(Fr (4::5::(7::8::(rg 16 13 []))) _ s')/\(Hp W0 w' (_::Z1))/\(s' 16=I k)/\(0<=k)/\(k<=p.an.length)/\(LX p k.toNat ls)/\(∀y∈ls,WrD x y.d)/\(∃lg tm tl Jq,Z1=Jq++[]/\kP fr W0 n6 (npL ls x) lg tm ids f tl 0 k.toNat Jq)) (fun⟨k,ls,Z1⟩=>(p.an.length-k).toNat) ((0,[],(Z8++[]))) ⟨Fr.refl _ _,cQ,rfl,J,J,⟨aA,fun x hx=>by cases hx⟩,(fun y hy=>by cases hy),⟨_,_,_,_,rfl,aFC⟩⟩<| ?_
 rintro⟨k,ls,Z1⟩ XE Na ⟨lO,cw,RK,h0,hk,hB,hwd,hS⟩
 obtain⟨zM,lH,asy,asA⟩:=lO.w4 2 6 14 15
 obtain⟨lg1,MP,OS,Jq,rfl,ND⟩:=hS
 have hln:=hB.len J
 refine SR<|V (aL RK asA)<|aa<|ah<|aF O (fun xF=> ?_) (fun xF=> ?_)
 .refine ak<|ah<|aC<|SR<|aG RK<|V (ag (hs.an.sl.hp cw) kK DD asy RK J)<|V (fg (dv:=mX) r6 (hs.an.sl.hp cw) wo O O O J)<|ou cw (aZ T4)<|fun XI OY dH=>aI rfl<|bk dH (i:=0) O (dX (c':=(K2 _).toArray) O O O (SM (hs.at J J)) (dH.blk (i:=0) O) O)<|fun Ug eU=>aa<|SR<|have hlm:=dG (d:=mX) h0 ‹k<_›;aG lH<|V (fA wo 1 O AR O)<|V (ix (sub:=zY _) dJ O O O (eU.blk (i:=0) O) O)<|ct O (aoI (p.an.getD k.toNat mX).yz (hsm _ hlm).1 (hsm _ hlm).2 (by show ls.length<=1000;omega) hwr J J hT ((hs.at h0 ‹k<_›).mono (Le.z _ _)) (A:=[_,_]) (X:=[]) ND eU) (aK call19 O O)<| ?_
  rintro _ w37 (⟨hno,-⟩|⟨-,x26,aNV,aNW,Z29,aFD,rfl,aFE,aFF,aFG,aNX,aFH,h36⟩)
  .exact absurd hno (by rintro(q|q);cases q;rw[hsl _ hlm]at q;cases q)
  have zn:Hp _ w37 (_::_::(Z29++[])):=h36
  refine mI rfl<|V (kQ O O)<|aa<|dm (bF ((fun h=>h (by show(ls.length:Int)=k;omega))))<|ak<|au<|V (ax RK O J)<|mI rfl<|aa<| ?_
  refine⟨(k+1,ls++[x26],(Z29++[])),aW,lO.u4.u4.u4.u1.u1,(zn.sub (sQ sR)),(aJ I aM),J,J,?_,?_,?_⟩
  .exact hB.next h0 ‹k<_› aFD aFE aFF
  ·(intro y hy;rcases eF.1 hy with q|q;exact hwd y q;rw[fG.1 q];exact aFG)
  (rw[show(k+1).toNat=k.toNat+1 by omega];exact⟨_,_,_,_,rfl,aFH⟩)
 refine aY (id:=0) rfl<|ah<|SR<|V (fA gB 1 O qX zM)<|V (cB (hs.vars.sl.hp cw) kW O O (cw.cell (i:=0) O O))<|V (aD (hs.vars.sl.hp cw) O kW O)<|aG (v:=I 0) rfl<|aa<|aC<|have hkl:k.toNat=p.an.length:=J;?_
 rw[hkl]at ND
 refine bj (G:=Int×NP×(List a8)) (fun⟨j,s,Z2⟩ s' w'=>(Fr (4::5::(9::10::(rg 32 13 []))) _ s')/\(Hp W0 w' (_::Z2))/\(s' 32=I j)/\(0<=j)/\(j<=p.vars.length)/\(IA p x j.toNat s)/\(∀y∈s.an,WrD x y.d)/\(∃lg tm tl U6,Z2=U6++[]/\kP fr W0 n6 s lg tm ids f tl 0 (p.an.length+j.toNat) U6)) (fun⟨j,s,Z2⟩=>(p.vars.length-j).toNat) ((0,npL ls x,(Jq++[]))) ⟨Fr.refl _ _,cw,rfl,J,J,hB.fin h0 ‹¬k<_›,hwd,⟨_,_,_,_,rfl,ND⟩⟩ ?_
 rintro⟨j,s,Z2⟩ aNY w40 ⟨asB,nM,RM,j0,hj,hI,ay9,hS2⟩
 obtain⟨asC,asD⟩:=asB.w2 30 31
 have aoJ:=asB.t1 6 lH
 obtain⟨lg2,tm2,tl2,U6,rfl,hZ2⟩:=hS2
 have ON:=hI.nv
 have aFI:=hI.len
 refine SR<|V (aL RM asD)<|aa<|ah<|aF O (fun h42=> ?_) (fun h42=> ?_)
 .refine ak<|ah<|aC<|SR<|aG RM<|V (ag (hs.vars.sl.hp nM) kW DE asC RM J)<|V (fg (dv:=eY) uu (hs.vars.sl.hp nM) nX O O O J)<|ou nM (aZ Tryz.zeroValue63)<|fun b45 w43 wT=>aI rfl<|bk wT (i:=0) O (dX (c':=(Io _).toArray) O O O V7 (wT.blk (i:=0) O) O)<|fun w48 Hv=>aa<|SR<|have hvl:=(hsv _ (dG (d:=eY) j0 ‹j<_›)).2;?_
  rw[<-aFI]at hvl
  refine aG aoJ<|V (fA nX 2 O bp O)<|lI bt Hv 0 O O rfl<|ct O (aiT (p.vars.getD j.toNat eY).aS hI.nw.ns.ok J J (A:=[_,_]) (R:=[]) hZ2 Hv) (aK call18 O O)<| ?_
  rintro _ w57 (⟨hno,-⟩|⟨-,-,rfl,aNZ,Z53,aN0,aFJ,IF⟩)
  .exact absurd ⟨hI.sk,hvl.1,hvl.2⟩ hno
  have sW:Hp _ w57 (_::_::(Z53++[])):=IF
  refine mI rfl<|V (kQ O O)<|aa<|dm (bF ((fun h=>h J)))<|ak<|au<|V (ax RM O J)<|mI rfl<|aa<| ?_
  refine⟨(j+1,pK s (p.vars.getD j.toNat eY).aS (s.an.getD (p.vars.getD j.toNat eY).aS.toNat oF).low,(Z53++[])),aW,asB.u4.u4.u4.u1.u1,(sW.sub (sQ sR)),(aJ I aM),J,J,?_,?_,?_⟩
  .exact hI.next j0 ‹j<_› hs2 hvl
  .exact ay9
  (rw[show(j+1).toNat=j.toNat+1 by omega,<-xZ];exact⟨_,_,_,_,rfl,aFJ⟩)
 refine aY (id:=2) rfl<|SR<|aG aoJ<|va (v:=Pn _ _) rfl<|va (v:=B true) rfl<|aa<|aj<|atv O O O ⟨n6,s,_,_,_,_,p.an.length+j.toNat,rfl,hI.fin j0 hj ‹¬j<_›,hI.nw,hI.qs,hI.sk,hI.wr,ay9,J,hZ2,by simpa using(nM.sub (sQ sR))⟩
theorem ju(w:World)(hT:oq w):Calls Tryz.prog 11 #[] w (Pure (B true) w):=by
 have hwr:WrF .nilFunc []:= .inl O
 have hZ:=j5.nil (T:=Ae [])
 have hf:=D3.zero
 obtain⟨-,hal⟩:=LV (aBX N_ N_ N_ N_ N_ N_ N_ N_)
 have n8:=aBY N_ N_ N_
 refine eH func11 rfl rfl fun hH=>SR<|va (v:=B false) rfl<|aa<|SR<|ct O (MY _ hwr.cells _) (aq call36 (show _=Value.nilFunc from O))<| ?_
 rintro _ Hi ⟨n3,Zn4,rfl,h7,hn6⟩
 obtain⟨Z5,hZ8,iv⟩:=kP.new (A:=[]) (fr:=[]) hn6 hZ hf (by simpa using Hp.EK hH h7)
 simp only[fH,dZ]at iv
 refine va (v:=Pn _ _) rfl<|aa<|SR<|aG (v:=Pn _ _) rfl<|vP 2 2 iv (bZ dM O O (sz:=1) (vs:=[.string ⟨#[108,111]⟩,.string ⟨#[104,105]⟩]) O O ay ay O O)<|fun Mm H9 cQ=>have cw:Hp _ H9 (([a8.blk Mm (.cells (HS uZ).toArray 9 (0,0))]++(Z5++[]))):=Hp.Iq (Z:=[a8.blk Mm (.cells (HS uZ).toArray 9 (0,0))]) (L:=[]) (L':=(Z5++[])) cQ;have aFK:n7 (Kz (Kw w) [a8.blk Mm (.cells (HS uZ).toArray 9 (0,0))]) (.slice (some ⟨Mm,0,none⟩) 2 2) 1 2 (HS uZ):=EL (tN ..) O jL;have cF:=Hp.lC (A:=[]) (B:=[a8.blk Mm (.cells (HS uZ).toArray 9 (0,0))]) (R:=Z5) cw;V (dD (vs:=[(0,I 1),(1,.slice (some ⟨Mm,0,none⟩) 2 2)]) O (ab0 1 Mm 2 uZ))<|vP 1 1 cF (yy dz O O O (l:=[_]) O ay ay O)<|fun XI OY dH=>have cJ:Hp _ OY (([a8.blk XI (.cells ([(⟨1,.slice (some ⟨Mm,0,none⟩) 2 2,uZ,Rl.none⟩:pI)].flatMap rj).toArray 88 (0,0))]++(Z5++([a8.blk Mm (.cells (HS uZ).toArray 9 (0,0))]++[])))):=Hp.Iq (Z:=[a8.blk XI (.cells ([(⟨1,.slice (some ⟨Mm,0,none⟩) 2 2,uZ,Rl.none⟩:pI)].flatMap rj).toArray 88 (0,0))]) (L:=[]) (L':=(Z5++([a8.blk Mm (.cells (HS uZ).toArray 9 (0,0))]++[]))) dH;have aFL:n7 (Kz (Kw w) [a8.blk XI (.cells ([(⟨1,.slice (some ⟨Mm,0,none⟩) 2 2,uZ,Rl.none⟩:pI)].flatMap rj).toArray 88 (0,0))]) (.slice (some ⟨XI,0,none⟩) 1 1) 67 1 ([(⟨1,.slice (some ⟨Mm,0,none⟩) 2 2,uZ,Rl.none⟩:pI)].flatMap rj):=EL (tN ..) (eV fB _) jL;have c8:=Hp.lC (A:=[]) (B:=[a8.blk XI (.cells ([(⟨1,.slice (some ⟨Mm,0,none⟩) 2 2,uZ,Rl.none⟩:pI)].flatMap rj).toArray 88 (0,0))]) (R:=Z5) cJ;V (dD (vs:=[(1,.slice (some ⟨XI,0,none⟩) 1 1)]) O (Xy O))<|have hsh:kO (Kz (Kw w) ([a8.blk XI (.cells ([(⟨1,.slice (some ⟨Mm,0,none⟩) 2 2,uZ,Rl.none⟩:pI)].flatMap rj).toArray 88 (0,0))]++([a8.blk Mm (.cells (HS uZ).toArray 9 (0,0))]++[]))) (⟨false,.slice (some ⟨XI,0,none⟩) 1 1,[(⟨1,.slice (some ⟨Mm,0,none⟩) 2 2,uZ,Rl.none⟩:pI)]⟩:kL):=⟨(aFL.mono (Le.zz (fun x hx=>(dy _ hx)))),fun x hx=>by rw[fG.1 hx];exact⟨(aFK.mono (Le.zz (fun x hx=>(bB _ (dy _ hx)))))⟩⟩;ct O (aoI (⟨false,.slice (some ⟨XI,0,none⟩) 1 1,[(⟨1,.slice (some ⟨Mm,0,none⟩) 2 2,uZ,Rl.none⟩:pI)]⟩:kL) (show 1<=1000 by decide) (fun f hf=>by rw[fG.1 hf];exact(by decide:uZ.length<=1000)) ay hwr J J hT hsh (A:=[]) (X:=([a8.blk XI (.cells ([(⟨1,.slice (some ⟨Mm,0,none⟩) 2 2,uZ,Rl.none⟩:pI)].flatMap rj).toArray 88 (0,0))]++([a8.blk Mm (.cells (HS uZ).toArray 9 (0,0))]++[]))) hZ8 c8) (aK call19 O O)<| ?_
 rintro _ w36 (⟨hno,-⟩|⟨-,x25,aN4,aN5,Z28,aFM,rfl,aFN,aFO,arN,aN7,arO,CF⟩)
 .exact absurd hno (by rintro(q|q);cases q;exact absurd (q.symm.trans aBZ) ay)
 have xG:Hp _ w36 ((Z28++[])):=CF
 refine V (run_assign (show _=I 0 from O))<|aa<|SR<|have hB1:LX (qj N_ N_ N_ N_) 1 [x25]:=LX.next (p:=(qj N_ N_ N_ N_)) (k:=0) (ls:=[]) ⟨rfl,fun x hx=>by cases hx⟩ J ay aFM aFN aFO;have hI0:=LX.fin (p:=(qj N_ N_ N_ N_)) (k:=1) (x:= .nilFunc) hB1 J ay;aG (v:=Pn _ _) rfl<|mI rfl<|ct O (aiT 0 hI0.nw.ns.ok J J (A:=[]) (R:=[]) arO xG) (aK call18 O O)<| ?_
 rintro _ w45 (⟨hno,-⟩|⟨-,-,rfl,aN9,Z41,aOb,aFP,h44⟩)
 .exact absurd ⟨hI0.sk,ay,(show(0:Int)<((1:Nat):Int)by decide)⟩ hno
 have rK:Hp _ w45 ((Z41++[])):=h44
 have hI1:=IA.next (j:=0) hI0 J ay ay ⟨ay,(show(0:Int)<((1:Nat):Int)by decide)⟩
 refine aG (v:=Pn _ _) rfl<|mI rfl<|ct O (aiT 0 hI1.nw.ns.ok J J (A:=[]) (R:=[]) aFP rK) (aK call18 O O)<| ?_
 rintro _ w54 (⟨hno,-⟩|⟨-,-,rfl,aOc,Z50,aOd,aFQ,h53⟩)
 .exact absurd ⟨hI1.sk,ay,(show(0:Int)<((1:Nat):Int)by decide)⟩ hno
 have iB:Hp _ w54 ((Z50++[])):=h53
 refine V (run_assign (show _=I 0 from O))<|V (run_assign (show _=I 1 from O))<|aa<|SR<|have hI2:=IA.next (j:=1) hI1 J ay ay ⟨ay,(show(0:Int)<((1:Nat):Int)by decide)⟩;have hL0:=BA.start (l:=(zH N_ N_ N_)) (IA.fin (j:=2) hI2 J ay ay) hI2.nw hI2.qs;aG (v:=Pn _ _) rfl<|mI rfl<|V (dD (vs:=[(0,U 1#64)]) O (OV _))<|V (dD (vs:=[(0,I 2),(2,.agg (iU vO))]) O (Yb 2 vO))<|vP 1 1 iB (kI gE ir O O O (l:=[_]) O ay ay O)<|fun b58 w56 Yl=>have Ao:Hp _ w56 (([a8.blk b58 (.cells ([⟨2,0,vO⟩].flatMap jW).toArray 90 (0,0))]++(Z50++[]))):=Hp.Iq (Z:=[a8.blk b58 (.cells ([⟨2,0,vO⟩].flatMap jW).toArray 90 (0,0))]) (L:=[]) (L':=(Z50++[])) Yl;have aFR:n7 (Kz (Kw w) [a8.blk b58 (.cells ([⟨2,0,vO⟩].flatMap jW).toArray 90 (0,0))]) (.slice (some ⟨b58,0,none⟩) 1 1) 10 1 ([⟨2,0,vO⟩].flatMap jW):=EL (tN ..) (eV gE _) jL;have CI:=Hp.lC (A:=[]) (B:=[a8.blk b58 (.cells ([⟨2,0,vO⟩].flatMap jW).toArray 90 (0,0))]) (R:=Z50) Ao;mI rfl<|V (dD (vs:=[(0,I 0)]) O (BZ 0))<|ct O (aal 0 _ [⟨2,0,vO⟩] ⟨0,dh⟩ 1#64 hI2.nw.ns.ok ay J J hT (A:=[]) (X:=([a8.blk b58 (.cells ([⟨2,0,vO⟩].flatMap jW).toArray 90 (0,0))]++[])) (aFR.mono (Le.zz (fun x hx=>(dy _ hx)))) aFQ CI) (q5 call25 O O O O (show _=U 1#64 from O))<| ?_
 rintro _ w74 ⟨aFS,s65,aOg,aOh,Z68,rfl,aFT,aOi,aOj,aml,h73⟩
 have CG:Hp _ w74 ((Z68++[])):=h73
 refine aB rfl<|aa<|SR<|have hX0:Xv _ s65 ((zH N_ N_ N_).getD 0 iJ) 0 aFS:=⟨fun q=>absurd O q,fun _=>aFT⟩;?_
 obtain⟨aFU,hL1,aFV,-⟩:=BA.add hL0 ay ay hal n8 hI2.sk hX0
 subst aFU
 refine aG (v:=Pn _ _) rfl<|mI rfl<|mI rfl<|V (dD (vs:=[(0,I 1),(1,I 0)]) O (MO 1 0))<|vP 1 1 CG (kI gE ir O O O (l:=[_]) O ay ay O)<|fun b79 w77 II=>have pM:Hp _ w77 (([a8.blk b79 (.cells ([⟨1,0,dh⟩].flatMap jW).toArray 90 (0,0))]++(Z68++[]))):=Hp.Iq (Z:=[a8.blk b79 (.cells ([⟨1,0,dh⟩].flatMap jW).toArray 90 (0,0))]) (L:=[]) (L':=(Z68++[])) II;have aFW:n7 (Kz (Kw w) [a8.blk b79 (.cells ([⟨1,0,dh⟩].flatMap jW).toArray 90 (0,0))]) (.slice (some ⟨b79,0,none⟩) 1 1) 10 1 ([⟨1,0,dh⟩].flatMap jW):=EL (tN ..) (eV gE _) jL;have pP:=Hp.lC (A:=[]) (B:=[a8.blk b79 (.cells ([⟨1,0,dh⟩].flatMap jW).toArray 90 (0,0))]) (R:=Z68) pM;mI rfl<|V (dD (vs:=[(0,I 1)]) O (BZ 1))<|ct O (aal 0 _ [⟨1,0,dh⟩] ⟨1,dh⟩ 2#64 hL1.nw.ns.ok ay J J hT (A:=[]) (X:=([a8.blk b79 (.cells ([⟨1,0,dh⟩].flatMap jW).toArray 90 (0,0))]++[])) (aFW.mono (Le.zz (fun x hx=>(dy _ hx)))) aml pP) (q5 call25 O O O O (show _=U 2#64 from O))<| ?_
 rintro _ w95 ⟨aFX,s86,aOn,aOo,Z89,rfl,aFY,aOq,aOr,aFZ,h94⟩
 have uO:Hp _ w95 ((Z89++[])):=h94
 refine aB rfl<|aa<|SR<|have hX1:Xv s65 s86 ((zH N_ N_ N_).getD 1 iJ) 1 aFX:=⟨fun q=>absurd O q,fun _=>aFY⟩;?_
 obtain⟨Yh,hL2,aF0,-⟩:=BA.add hL1 ay ay hal n8 aFV hX1
 subst Yh
 refine aG (v:=Pn _ _) rfl<|ct O (UR hT hL2.nw J J (A:=[]) (R:=[]) aFZ uO) (aq call15 O)<| ?_
 rintro _ aF1 ⟨azb,acF,aIK,f103,aOu,aOv,amy,rfl,azc,aIL,aIM,aIN,aIO,aiV,arZ⟩
 have Ie:Hp _ aF1 ((amy++[])):=arZ
 have hP1:=BA.set hL2 ay (azc.go aF0)
 have aF2:azb=true:=hP1.is.2 aqy
 subst aF2
 have Oq:acF.ai.length=2:=hP1.net.np.nv
 have hy2:acF.aX.length=2:=hP1.net.nw.ns.ok.RQ.trans Oq
 have hv1:qK (acF.ai.getD 1 dh) vO:=ali (hP1.low O) (hP1.all O)
 have hy1:acF.aX.getD 1 0&&&3#64=3#64:=ave (x:=vQ acF.ai) hv1 (hP1.why O 1 ay)
 refine mB rfl<|cD O rfl<|aG (v:=Pn _ _) rfl<|mI rfl<|aE O Ie (amw _ aiV Ie (fun x hx=>(dy _ hx))) (aK call23 O O)<|fun amq xL=>V (dD (vs:=[(0,U 1#64)]) O (OV _))<|V (GH Fi O O)<|mB rfl<|mB rfl<|cD O (bT ((by rw[(aR (show(0:Int)<=1/\(1:Int)<_ from⟨J,J⟩))];exact hv1)))<|aG (v:=Pn _ _) rfl<|mI rfl<|aE O xL (ay8 _ aiV xL (fun x hx=>(dy _ hx))) (aK call21 O O)<|fun aOx azd=>V (lY O (b:=3#64) O)<|V (jb O (b:=3#64) O)<|mB rfl<|aB rfl<|aa<|SR<|aG (v:=Pn _ _) rfl<|mI rfl<|mI rfl<|V (dD (vs:=[(0,I 1),(1,I 1)]) O (MO 1 1))<|vP 1 1 azd (kI gE ir O O O (l:=[_]) O ay ay O)<|fun acG ay1 qQ=>have aze:Hp _ ay1 (([a8.blk acG (.cells ([⟨1,1,dh⟩].flatMap jW).toArray 90 (0,0))]++(amy++[]))):=Hp.Iq (Z:=[a8.blk acG (.cells ([⟨1,1,dh⟩].flatMap jW).toArray 90 (0,0))]) (L:=[]) (L':=(amy++[])) qQ;have aiP:n7 (Kz (Kw w) [a8.blk acG (.cells ([⟨1,1,dh⟩].flatMap jW).toArray 90 (0,0))]) (.slice (some ⟨acG,0,none⟩) 1 1) 10 1 ([⟨1,1,dh⟩].flatMap jW):=EL (tN ..) (eV gE _) jL;have aiQ:=Hp.lC (A:=[]) (B:=[a8.blk acG (.cells ([⟨1,1,dh⟩].flatMap jW).toArray 90 (0,0))]) (R:=amy) aze;V (dD (vs:=[(0,I (-1))]) O (BZ (-1)))<|ct O (aal 0 _ [⟨1,1,dh⟩] ⟨-1,dh⟩ 4#64 hP1.net.nw.ns.ok ay J J hT (A:=[]) (X:=([a8.blk acG (.cells ([⟨1,1,dh⟩].flatMap jW).toArray 90 (0,0))]++[])) (aiP.mono (Le.zz (fun x hx=>(dy _ hx)))) aiV aiQ) (q5 call25 O O O O (show _=U 4#64 from O))<| ?_
 rintro _ amn ⟨azf,aF3,aIQ,aIR,aF4,rfl,azg,aIS,aIT,azh,aF5⟩
 have oM:Hp _ amn ((aF4++[])):=aF5
 refine aB rfl<|aa<|SR<|have hX2:Xv acF aF3 ((zH N_ N_ N_).getD 2 iJ) 2 azf:=⟨fun q=>absurd O q,fun _=>azg⟩;?_
 obtain⟨Uf,hL3,aF6,-⟩:=BA.add hP1.net ay ay hal n8 hP1.sk hX2
 subst Uf
 refine aG (v:=Pn _ _) rfl<|ct O (UR hT hL3.nw J J (A:=[]) (R:=[]) azh oM) (aq call15 O)<| ?_
 rintro _ aF7 ⟨aoK,aOz,aIV,f149,aOA,aOB,aF8,rfl,azi,aIW,aIX,aIY,aIZ,azj,aF9⟩
 have aoL:Hp _ aF7 ((aF8++[])):=aF9
 refine aB rfl<|aa<|SR<|have hP2:=BA.set hL3 ay (azi.go aF6);have aGb:aoK=false:=(by cases h:aoK;rfl;exact absurd (hP2.is.1 h) avf);?_
 subst aGb
 refine aG (v:=Pn _ _) rfl<|aE O aoL (amx azj aoL (fun x hx=>(dy _ hx))) (aq call16 O)<|fun aFz aak=> ?_
 refine V (run_move bC) ?_
 refine V (bD O (v:=U _) O)<|V (bD O (v:=B _) O)<|aU rfl<|aB rfl<|aa<|SR<|mB rfl<|mB rfl<|cD O rfl<|mB rfl<|mB rfl<|mB rfl<|cD O rfl<|mB rfl<|mB rfl<|mB rfl<|cD O (bT ((by rw[(aR (show(0:Int)<=1/\(1:Int)<_ from⟨J,J⟩))];exact hy1)))<|mB rfl<|mB rfl<|mB rfl<|cD O rfl<|mB rfl<|V (bK O)<|mB rfl<|mB rfl<|cD O rfl<|mB rfl<|mB rfl<|mB rfl<|cD O (bR (c:=true) (hP2.sk))<|mU rfl<|V (lY O (b:=7#64) O)<|V (jb O (b:=7#64) O)<|mB rfl<|aB rfl<|aa<|aj<|oB O ?_ aak
 exact gq (alj (hP2.no O))
theorem qw(p:mY)(w:World)(hp:ux (Kw w) p):Calls Tryz.prog 10 #[.agg (CY p).toArray] w (Pure (B (lJ p)) w):=by
 have Ht:=hp.cz.small
 unfold maxLen at Ht
 refine eH func10 rfl rfl fun hH=>SR<|gX hH (v:= .agg _) rfl<|fun b3 w1 a7=>va (v:=B false) rfl<|aa<|ah<|SR<|V (fA qU 0 O F7 O)<|V (ix (sub:=yA _) gB O O O (a7.blk (i:=0) O) (ET _))<|aE O a7 (zk _ _ (hp.s.mono a7.kw)) (aq call34 O)<|fun w4 bP=>V (bK O)<|mB rfl<|fW 8 O (fun h8=> ?_) (fun h8=> ?_)
 .refine aG (v:=B true) rfl<|aa<|cr rfl<|SR<|va (v:=B false) rfl<|aa<|aj<|oB O ?_ bP
  (rw[afl (nt ‹(!gy p.s)=true›)];done)
 refine V (fA qU 2 O JX O)<|V (cB (hp.cz.sl.hp bP) qV O O (bP.cell (i:=0) O O))<|V (aD (hp.cz.sl.hp bP) O qV O)<|V (dx O O)<|mB rfl<|aa<|aF O (fun h10=> ?_) (fun h10=> ?_)
 .refine SR<|va (v:=B false) rfl<|aa<|aj<|oB O ?_ bP
  (rw[afm J];done)
 refine ak<|ah<|SR<|va (v:=I 0) rfl<|aa<|aC<|have hsz:¬64<p.cz.length:=J;bj (G:=Int) (fun k s' w'=>(Fr (2::3::(rg 14 16 [])) _ s')/\(Hp w w' _)/\(s' 3=I k)/\(0<=k)/\(k<=p.cz.length)/\(∀j:Int,0<=j->j<k->jQ p.s (p.cz.getD j.toNat iJ)=true)) (fun k=>(p.cz.length-k).toNat) (0) ⟨Fr.refl _ _,bP,rfl,J,J,fun j a b=>absurd b J⟩<| ?_
 rintro k aB6 H9 ⟨ahv,dN,aiW,h0,hk,hg⟩
 have aiX:=ahv.w1 1
 refine ah<|SR<|aG aiW<|V (fA qU 2 O JX aiX)<|V (cB (hp.cz.sl.hp dN) qV O O (dN.cell (i:=0) O O))<|V (aD (hp.cz.sl.hp dN) O qV O)<|V (aL O O)<|aa<|aF O (fun Ua=> ?_) (fun Ua=> ?_)
 .refine ak<|ah<|aC<|ah<|eu aN dN<|fun Na iu=>have Yp:=iu;AQ 0 O Yp (fA qU 0 O F7 aiX)<|AT 1 O Yp (fun w hS=>ix (sub:=yA _) gB O O O (hS.blk (i:=0) O) (ET _))<|AQ 2 O Yp (fA qU 2 O JX aiX)<|AT 3 O Yp (fun w hS=>cB (hp.cz.sl.hp hS) qV O O (hS.cell (i:=0) O O))<|AQ 4 O Yp (run_move aiW)<|AT 5 O Yp (fun w hS=>ag (hp.cz.sl.hp hS) qV sizeOf44 O O J)<|AT 6 O Yp (fun w hS=>fg (dv:=iJ) qb (hp.cz.sl.hp hS) iF O O O J)<|A1 7<|cC O aH O iu sR (zm _ _ _ (hp.s.mono iu.kw) ((hp.at J J).mono iu.kw)) (aK call35 O O)<|fun Ml er=>AQ 8 O er (bK O)<|AD<|bQ O (fun Jm=> ?_) (fun Jm=> ?_)
  .refine SR<|va (v:=B false) rfl<|aa<|aj<|oB O ?_ er
   (rw[afn h0 ‹k<_› (nt ‹(!jQ p.s _)=true›)];done)
  refine ak<|au<|aG aiW<|V (ax O O J)<|aI rfl<|aa<| ?_
  refine⟨k+1,aW,ahv.u4.u4.u4.u4.u1,er,(aJ I aM),J,J,?_⟩
  exact fun j u v=>if e:j=k then e▸nf ‹(!jQ _ _)=false›else hg j u J
 refine aY (id:=0) rfl<|SR<|va (v:=B true) rfl<|aa<|aj<|oB O ?_ dN
 (rw[afo (nf ‹(!gy p.s)=false›) J ‹¬k<_› hg];done)
theorem Aw(x:fU)(w:World)(hx:GO (Kw w) x):Calls Tryz.prog 33 #[.agg (u3 x).toArray] w (Pure (B (vH x)) w):=by
 have Ht:=hx.code.small
 have Lz:=hx.a.fields.small
 have hm3:=hx.b.fields.small
 unfold maxLen at Ht Lz hm3
 refine eH func33 rfl rfl fun hH=>SR<|gX hH (v:= .agg _) rfl<|fun b3 w1 a7=>va (v:=B false) rfl<|aa<|ah<|SR<|V (fA iF 2 O AS O)<|V (cB (hx.code.sl.hp a7) ir O O (a7.cell (i:=0) O O))<|V (aD (hx.code.sl.hp a7) O ir O)<|V (dx O O)<|mB rfl<|bI 9 O (fun h5=> ?_) (fun h5=> ?_)
 .refine aG (v:=B true) rfl<|mB rfl<|cD O rfl<|aG (v:=B true) rfl<|mB rfl<|cD O rfl<|aG (v:=B true) rfl<|aa<|cr rfl<|SR<|va (v:=B true) rfl<|aa<|aj<|oB O ?_ a7
  exact(Co J).symm
 refine V (fA iF 12 O F6 O)<|V (fA oS 0 O tT O)<|V (cB (hx.a.fields.sl.hp a7) lX O O (a7.cell (i:=0) O O))<|V (aD (hx.a.fields.sl.hp a7) O lX O)<|V (dx O O)<|mB rfl<|mB rfl<|bI 16 O (fun h7=> ?_) (fun h7=> ?_)
 .refine aG (v:=B true) rfl<|mB rfl<|cD O rfl<|aG (v:=B true) rfl<|aa<|cr rfl<|SR<|va (v:=B true) rfl<|aa<|aj<|oB O ?_ a7
  exact(Co J).symm
 refine V (fA iF 14 O F6 O)<|V (fA oS 0 O tT O)<|V (cB (hx.b.fields.sl.hp a7) lX O O (a7.cell (i:=0) O O))<|V (aD (hx.b.fields.sl.hp a7) O lX O)<|V (dx O O)<|mB rfl<|mB rfl<|bI 23 O (fun h9=> ?_) (fun h9=> ?_)
 .refine aG (v:=B true) rfl<|aa<|cr rfl<|SR<|va (v:=B true) rfl<|aa<|aj<|oB O ?_ a7
  exact(Co J).symm
 refine V (fA iF 17 O jK O)<|V (az gK O O (a7.cell (i:=0) O (v:= .string _) O))<|V (kG O gK O)<|V (dx O O)<|mB rfl<|aa<|aF O (fun h11=> ?_) (fun h11=> ?_)
 .refine SR<|va (v:=B true) rfl<|aa<|aj<|oB O ?_ a7
  exact(Co J).symm
 refine ak<|ah<|ah<|eu aN a7<|fun Cx bY=>have Yq:=bY;AQ 1 O Yq (fA iF 12 O F6 O)<|AQ 2 O Yq (fA oS 0 O tT O)<|AT 3 O Yq (fun w hS=>cB (hx.a.fields.sl.hp hS) lX O O (hS.cell (i:=0) O O))<|AQ 5 O Yq (fA iF 14 O F6 O)<|AQ 6 O Yq (fA oS 0 O tT O)<|AT 7 O Yq (fun w hS=>cB (hx.b.fields.sl.hp hS) lX O O (hS.cell (i:=0) O O))<|AQ 10 O Yq (mV (I 0) O)<|A1 0<|cN O aH O bY sR (f:=fun b=> .slice (some ⟨b,0,none⟩) 0 0) (EG lX F4)<|fun b16 Na iu=> ?_
 (try simp only[ot]at iu)
 have er:=iu.A9 0 10 O ay
 refine A1 4<|k8 O aH O er (j:=0) O (fun _=>(sQ sR)) (hx.a.fields.sl.hp er) O O lX O O (size:=10) (bytes:=88) O O O ay (Lm _) (by show(0+_)*_<=_;omega) (by show 0+_<=_;simp only[maxLen];omega)<|fun v20 Uc j7=>A1 8<|k8 O aH O j7 (j:=0) O (fun _=>(sQ sR)) (hx.b.fields.sl.hp j7) O O lX O O (size:=10) (bytes:=88) O O O ay (Lm _) (by show(_+_)*_<=_;omega) (by show _+_<=_;simp only[maxLen];omega)<|fun v23 Nr c8=>A1 9<|bW O aH O c8 (sQ sR) (aD (c8.sl (i:=0) O) O lX O)<|AD<|aC<|have hap:(x.a.fields++x.b.fields).length=x.a.fields.length+x.b.fields.length:=cV;?_
 simp only[gA,dZ,<-Dq,<-cV]at c8
 refine bj (G:=Int) (fun k s' w'=>(Fr (2::(4::(rg 39 9 []))) _ s')/\(Hp w w' _)/\(s' 39=I k)/\(0<=k)/\(k<=(x.a.fields++x.b.fields).length)/\(∀j:Int,0<=j->j<k->decide (40<((x.a.fields++x.b.fields).getD j.toNat mw).name.size)=false)) (fun k=>((x.a.fields++x.b.fields).length-k).toNat) (0) ⟨Fr.refl _ _,c8,rfl,J,J,fun j a b=>absurd b J⟩ ?_
 rintro k aCf Uj ⟨ahI,j6,Yr,h0,hk,hg⟩
 obtain⟨asE,asF⟩:=ahI.w2 37 38
 refine SR<|V (aL Yr asF)<|aa<|ah<|aF O (fun h28=> ?_) (fun h28=> ?_)
 .refine ak<|ah<|aC<|SR<|V (ag (j6.sl (i:=0) O) lX F4 asE Yr J)<|V (fg (dv:=mw) ry (j6.sl (i:=0) O) FZ O O O J)<|ou j6 (aZ XA)<|fun b31 w29 iN=>bk iN (i:=0) O (dX (c':=(sO _).toArray) O O O (Lc _) (iN.blk (i:=0) O) O)<|fun w32 jE=>aa<|SR<|V (fA FZ 0 O jK O)<|V (az gK O O (jE.cell (i:=0) O (v:= .string _) O))<|V (kG O gK O)<|V (dx O O)<|aa<|aF O (fun CF=> ?_) (fun CF=> ?_)
  .refine SR<|va (v:=B true) rfl<|aa<|aj<|oB O ?_ jE
   exact(abj O h0 J J).symm
  refine ak<|au<|V (ax Yr O J)<|mI rfl<|aa<| ?_
  refine⟨k+1,aW,ahI.u4.u4.u1.u1,(jE.sub (sQ sR)),(aJ I aM),J,J,?_⟩
  exact fun j u v=>if e:j=k then e▸gm (by omega)else hg j u J
 refine aY (id:=0) rfl<|SR<|va (v:=B false) rfl<|aa<|aj<|oB O ?_ j6
 exact(akj O J J hg).symm
theorem sB(p:mY)(w:World)(hp:ux (Kw w) p):Calls Tryz.prog 9 #[.agg (CY p).toArray] w (Pure (B (Ll p)) w):=by
 have Ht:=hp.cz.small
 unfold maxLen at Ht
 refine eH func9 rfl rfl fun hH=>SR<|gX hH (v:= .agg _) rfl<|fun b3 w1 a7=>va (v:=B false) rfl<|aa<|ah<|SR<|V (fA qU 0 O F7 O)<|V (ix (sub:=yA _) gB O O O (a7.blk (i:=0) O) (ET _))<|aE O a7 (BM _ _ (hp.s.mono a7.kw)) (aq call32 O)<|fun w4 bP=>mB rfl<|fW 8 O (fun h7=> ?_) (fun h7=> ?_)
 .refine aG (v:=B true) rfl<|aa<|cr rfl<|SR<|va (v:=B true) rfl<|aa<|aj<|oB O ?_ bP
  exact(Oo (.inl aQ)).symm
 refine V (fA qU 2 O JX O)<|V (cB (hp.cz.sl.hp bP) qV O O (bP.cell (i:=0) O O))<|V (aD (hp.cz.sl.hp bP) O qV O)<|V (dx O O)<|mB rfl<|aa<|aF O (fun h9=> ?_) (fun h9=> ?_)
 .refine SR<|va (v:=B true) rfl<|aa<|aj<|oB O ?_ bP
  exact(Oo (.inr J)).symm
 refine ak<|ah<|SR<|V (fA qU 2 O JX O)<|V (cB (hp.cz.sl.hp bP) qV O O (bP.cell (i:=0) O O))<|V (aD (hp.cz.sl.hp bP) O qV O)<|aG (v:=I 0) rfl<|aa<|aC<|bj (G:=Int) (fun k s' w'=>(Fr (2::(4::(rg 17 7 []))) _ s')/\(Hp w w' _)/\(s' 17=I k)/\(0<=k)/\(k<=p.cz.length)/\(∀j:Int,0<=j->j<k->vH (p.cz.getD j.toNat iJ)=false)) (fun k=>(p.cz.length-k).toNat) (0) ⟨Fr.refl _ _,bP,rfl,J,J,fun j a b=>absurd b J⟩<| ?_
 rintro k XQ Hi ⟨rJ,bS,Ys,h0,hk,hg⟩
 obtain⟨asG,asH⟩:=rJ.w2 15 16
 refine SR<|V (aL Ys asH)<|aa<|ah<|aF O (fun h12=> ?_) (fun h12=> ?_)
 .refine ak<|ah<|aC<|SR<|V (ag (hp.cz.sl.hp bS) qV sizeOf44 asG Ys J)<|V (fg (dv:=iJ) qb (hp.cz.sl.hp bS) iF O O O J)<|ou bS (aZ ahs)<|fun b15 C8 cw=>bk cw (i:=0) O (dX (c':=(u3 _).toArray) O O O (afe (hp.at J J)) (cw.blk (i:=0) O) O)<|fun Ml er=>aa<|SR<|V (cG (cs:=u3 _) iF O O O (bf (er.blk (i:=0) O)))<|aE O er (Aw _ _ ((hp.at J J).mono er.kw)) (aq call33 O)<|fun Uc j7=>aa<|bQ O (fun Q6=> ?_) (fun Q6=> ?_)
  .refine SR<|va (v:=B true) rfl<|aa<|aj<|oB O ?_ j7
   exact(abk h0 ‹k<_› aQ).symm
  refine ak<|au<|V (ax Ys O J)<|mI rfl<|aa<| ?_
  refine⟨k+1,aW,rJ.u4.u4,(j7.sub (sQ sR)),(aJ I aM),J,J,?_⟩
  exact fun j u v=>if e:j=k then e▸‹vH _=false›else hg j u J
 refine aY (id:=0) rfl<|SR<|va (v:=B false) rfl<|aa<|aj<|oB O ?_ bS
 exact(afw aQ J ‹¬k<_› hg).symm
section
variable{W0 w:World}{n:Nat}{s:NP}{lg:List (Value×lK)}{tm:List Int}{ids:List Nat}{f:Ct}{tl:List (Nat×Rl)}{b c:Nat}{A R Z fr:List a8}
theorem aiY(p:kx)(hrs:gy p=true)(hT:oq W0)(hs:xm (Kw W0) p)(hH:Hp W0 w A):Calls Tryz.prog 12 #[.agg (GM p),.nilFunc] w (jF fun u w'=>∃(n:Nat) (s:NP) (lg:List (Value×lK)) (tm:List Int) (tl:List (Nat×Rl)) (Z:List a8) (c:Nat),u= .tuple #[pt n,B true]/\qh p s/\xA s/\s.qs=[]/\s.sk=false/\s.wr= .nilFunc/\c<=100/\kP [] W0 n s lg tm [] ct0 tl 0 c Z/\Hp W0 w' (A++(Z++[]))):=by
 refine(zw (fr:=A++([]++[])) p .nilFunc hrs (.inl O) D3.zero w hT hs j5.nil (by simpa using hH)).mono fun e w' hr=>jF.mono ?_ hr
 rintro u w' ⟨n,s,lg,tm,tl,Z,c,rfl,h1,h2,h3,h4,h5,h6,h7,h8,h9⟩
 obtain⟨Zo,ho,hh⟩:=kP.out (A:=A) (R:=[]) (fr:=[]) h8 h9
 exact⟨n,s,lg,tm,tl,Zo,c,rfl,h1,h2,h3,h4,h5,h7,ho,hh⟩
end
set_option maxHeartbeats 4000000 in
theorem uU(p:mY)(x:fU)(w:World)(hp:ux (Kw w) p)(hx:GO (Kw w) x)(hT:oq w):Calls Tryz.prog 6 #[.agg (CY p).toArray,.agg (u3 x).toArray] w (Pure (B true) w):=by
 have Ht:=hp.cz.small
 unfold maxLen at Ht
 have Lz:=hp.s.vars.small
 unfold maxLen at Lz
 have hx8:GO (Kw w) ({x with op:=8}:fU):=⟨hx.code,hx.a,hx.b⟩
 refine eH func6 rfl rfl fun hH=>SR<|gX hH (v:= .agg _) rfl<|fun b3 w1 a7=>gX a7 (v:= .agg _) rfl<|fun b6 w4 bP=>va (v:=B false) rfl<|aa<|ah<|SR<|V (cG (cs:=CY _) qU O O O (bf (bP.blk (i:=1) O)))<|aE O bP (sB _ _ (hp.mono bP.kw)) (aq call9 O)<|fun w7 eX=>mB rfl<|fW 13 O (fun h10=> ?_) (fun h10=> ?_)
 .refine aG (v:=B true) rfl<|mB rfl<|cD O rfl<|aG (v:=B true) rfl<|aa<|cr rfl<|SR<|aE O eX (ju _ (hT.hp eX)) (Ca call11)<|fun H9 cQ=>aB rfl<|aa<|aj<|oB O ?_ cQ
  rfl
 refine V (cG (cs:=u3 _) iF O O O (bf (eX.blk (i:=0) O)))<|vP 1 1 eX (kI qb qV O O O (l:=[_]) O ay ay O)<|fun b16 Na iu=>have hp1:ux (Kw Na) (⟨scN,.slice (some ⟨b16,0,none⟩) 1 1,[x]⟩:mY):=⟨avg _,(Hp.mv qb iu (i:=0) (l:=[_]) O jL).slv,fun y hy=>by rw[fG.1 hy];exact hx.mono iu.kw⟩;V (dD (vs:=[(1,.slice (some ⟨b16,0,none⟩) 1 1)]) O (UC [x] O))<|aE O iu (sB _ _ hp1) (aq call9 O)<|fun OY dH=>mB rfl<|mB rfl<|fW 19 O (fun Jm=> ?_) (fun Jm=> ?_)
 .refine aG (v:=B true) rfl<|aa<|cr rfl<|SR<|aE O dH (ju _ (hT.hp dH)) (Ca call11)<|fun Nr c8=>aB rfl<|aa<|aj<|oB O ?_ c8
  rfl
 refine V (cG (cs:=CY _) qU O O O (bf (dH.blk (i:=2) O)))<|aE O dH (qw _ _ (hp.mono dH.kw)) (aq call10 O)<|fun w24 mc=>V (bK O)<|mB rfl<|aa<|bQ O (fun h28=> ?_) (fun h28=> ?_)
 .refine SR<|aE O mc (ju _ (hT.hp mc)) (Ca call11)<|fun w29 iN=>aB rfl<|aa<|aj<|oB O ?_ iN
  rfl
 refine ak<|SR<|have hpo:lJ p=true:=nf ‹(!lJ p)=false›;?_
 obtain⟨hrs,hal⟩:=LV hpo
 have hcs:∀x∈p.cz,x.code.length<=1000:=fun x hx=>((Y5 ‹Ll p=false›).2.2 x hx).c
 have h64:=alh hpo
 have hsz:=(Bz hrs).1
 have hxc:x.code.length<=1000:=((Y5 ‹Ll (⟨scN,_,[x]⟩:mY)=false›).2.2 x aA).c
 refine V (fA qU 0 O F7 O)<|V (ix (sub:=yA _) gB O O O (mc.blk (i:=2) O) (ET _))<|ct O (aiY p.s hrs hT hp.s mc) (aK call12 O (show _=Value.nilFunc from O))<| ?_
 rintro _ w49 ⟨n34,s35,aOD,aOE,aOF,Z39,c40,rfl,azk,aoN,aOG,aGc,aOH,aOI,azl,h48⟩
 have ey:Hp _ w49 (_::_::_::(Z39++[])):=h48
 refine V (run_move bC) ?_
 refine V (bD O (v:=Pn _ _) O)<|V (bD O (v:=B _) O)<|va (v:=Pn _ _) rfl<|aB rfl<|aa<|ah<|SR<|mB rfl<|V (bK O)<|aa<|dm rfl<|ak<|SR<|aG (v:=Pn _ _) rfl<|aE O ey (aiU azl ey (fun x hx=>(mT (mT (mT (dy _ hx)))))) (aq call24 O)<|fun w52 iZ=>aI rfl<|aa<|SR<|V (fA qU 0 O F7 O)<|V (ix (sub:=yA _) gB O O O (iZ.blk (i:=2) O) (ET _))<|ou iZ (aZ aih)<|fun b56 w54 iB=>bk iB (i:=0) O (dX (c':=GM p.s) O O O (aeY hp.s) (iB.blk (i:=0) O) O)<|fun w57 sW=>aa<|SR<|vP 0 0 sW (EG kW DE)<|fun b61 w59 BW=> ?_
 (try simp only[ot]at BW)
 have pO:=BW.A9 0 3 O ay
 refine V (fA qU 0 O F7 O)<|V (fA gB 1 O qX O)<|V (cB (hp.s.vars.sl.hp pO) kW O O (pO.cell (i:=4) O O))<|jm O pO (i:=0) O (hp.s.vars.sl.hp pO) O O kW O O (size:=3) (bytes:=32) O O O ay (abX _) J jv<|fun v63 w64 uM=>V (fA gB 1 O qX O)<|bk uM (i:=1) O (bM O O (v:=v63) O (a6 (uM.get (i:=0) O)).1 (a6 (uM.get (i:=0) O)).2 (uM.blk (i:=1) O) aA)<|fun w66 MV=> ?_
 simp only[dZ,gA]at MV
 refine aa<|ah<|SR<|V (fA gB 1 O qX O)<|lV kW MV 1 O O rfl<|V (aD (MV.sl (i:=0) O) O kW O)<|aG (v:=I 0) rfl<|aa<|aC<|bj (G:=Int×Value×(List nn)×(List a8)) (fun⟨i,v0,vs,Z1⟩ s' w'=>(Fr (9::(rg 46 9 [])) _ s')/\(Hp w w' (.row v0 63 3 (vs.length) (vs.flatMap Io):: .blk b56 (.cells (#[p.s.lv,v0]) 25 (0,0))::_::_::_::Z1))/\(s' 46=I i)/\(0<=i)/\(i<=p.s.vars.length)/\(vs=C6 p.s.vars i.toNat)/\(Z1=Z39++[])) (fun⟨i,v0,vs,Z1⟩=>(p.s.vars.length-i).toNat) ((0,(v63:Value),p.s.vars,(Z39++[]))) ⟨Fr.refl _ _,MV,rfl,J,J,rfl,rfl⟩<| ?_
 rintro⟨i,v0,vs,Z1⟩ aDp w68 ⟨alY,kD,Yt,i0,hi,hvs,hz1⟩
 obtain⟨US,aoO,FC,Ic,asI⟩:=alY.w5 3 5 7 8 45
 subst hz1
 have hvl:vs.length=p.s.vars.length:=by rw[hvs];exact alo
 refine SR<|V (aL Yt asI)<|aa<|ah<|aF O (fun h70=> ?_) (fun h70=> ?_)
 .refine ak<|ah<|aC<|SR<|aG Yt<|aI rfl<|aa<|au<|V (fA gB 1 O qX Ic)<|lV kW kD 1 O O rfl<|mI rfl<|V (ag (kD.sl (i:=0) O) kW DE O O J)<|V (fA nX 1 O bp O)<|af1 (a:=eY) (b:=Fh (vs.getD i.toNat eY)) uu kD (i:=0) O J O O O O O ay rfl<|fun w71 X4=>aa<|au<|V (ax Yt O J)<|mI rfl<|aa<| ?_
  refine⟨(i+1,v0,(vs.set i.toNat (Fh (vs.getD i.toNat eY))),(Z39++[])),aW,alY.u4.u4.u1.u1,(Hp.conv X4 (by first|rfl|simp)),(aJ I DK),J,J,?_,aM⟩
  (rw[show(i+1).toNat=i.toNat+1 by omega,ahb J,hvs,alq J])
 refine aY (id:=0) rfl<|SR<|V (fA iF 0 O bp US)<|bk kD (i:=3) O (bM O O O O O (kD.blk (i:=3) O) (by show 0<(u3 x).length;rw[qb];decide))<|fun w73 wU=>have CG:Hp _ _ (_::_::_:: .blk b6 (.cells (u3 ({x with op:=8}:fU)).toArray 44 (0,0))::_::(Z39++[])):=wU;aa<|SR<| ?_
 obtain⟨Z76,aGd,azm,-⟩:=CG.UX (Kw w)
 have IQ:Hp _ w73 (_::_::_::_::(Z76++(Z39++[]))):=aGd.Iq (L:=[_,_,_,_]) (L':=(Z39++[]))
 have pM:=Hp.lC (A:=[_,_,_,_]) (B:=Z76) (R:=Z39) IQ
 simp only[fH,dZ]at pM
 rw[hvs,alp J,fx]at azm
 have hs8:xm (Kz (Kw w) Z76) (yT p.s v0):=aqA (hp.s.mono (Le.z _ _)) azm
 refine V (cG (cs:=yA (yT p.s v0)) gB O O Ic (bf (pM.blk (i:=0) O)))<|V (cG (cs:=u3 _) iF O O US (bf (pM.blk (i:=2) O)))<|vP 1 1 pM (kI qb qV O O O (l:=[({x with op:=8}:fU)]) O ay ay O)<|fun b83 w81 pP=>have hp2:ux (Kw w81) (⟨(yT p.s v0),.slice (some ⟨b83,0,none⟩) 1 1,[({x with op:=8}:fU)]⟩:mY):=⟨hs8.mono (pP.kz (Le.refl _) (fun x hx=>(mT (mT (mT (mT (mT (bB _ (dy _ hx))))))))),(Hp.mv qb pP (i:=0) (l:=[_]) O jL).slv,fun y hy=>by rw[fG.1 hy];exact hx8.mono pP.kw⟩;V (dD (vs:=[(0,.agg (GM (yT p.s v0))),(1,.slice (some ⟨b83,0,none⟩) 1 1)]) O (Yc (yT p.s v0) [({x with op:=8}:fU)] O))<|aE O pP (qw _ _ hp2) (aq call10 O)<|fun w84 Fx=>aB rfl<|aa<|ah<|SR<|aG aoO<|V (fA iF 1 O bp US)<|lI bt Fx 3 O O rfl<|V (fA iF 2 O AS US)<|V (cB (hx8.code.sl.hp Fx) ir O O (Fx.cell (i:=3) O O))<|V (fA iF 3 O oX US)<|V (ix (sub:=iS _) mL O O O (Fx.blk (i:=3) O) (YW _))<|ct O (aal x.aS x.cv x.code x.to _ aoN.ns.ok hxc J J hT (A:=[_,_,_,_,_]) (X:=(Z76++[])) (hx.code.mono (Le.z _ _)) azl Fx) (q5 call25 O O O O (show _=U 1#64 from O))<| ?_
 rintro _ w99 ⟨aOL,s90,aOM,aON,Z93,rfl,aGe,aOO,aGf,aGg,h98⟩
 have qN:Hp _ w99 (_::_::_::_::_::(Z93++[])):=h98
 have Z4:=aha hrs azk aoN.ns.ok.hlt v0 (.slice (some ⟨b83,0,none⟩) 1 1) (x:=({x with op:=8}:fU)) O
 have hoe:=gd.2 (aGe.is.trans (show _↔_ from⟨fun h=>Z4.trans h.2,fun h=>⟨aGc,Z4.symm.trans h⟩⟩))
 subst hoe
 have hmk:=alr aGf
 refine mB rfl<|V (adH sI O O)<|aa<|dm (bR (c:=false) ((bne_self_eq_false _)))<|ak<|SR<|aG aoO<|aE O qN (aiU aGg qN (fun x hx=>(mT (mT (mT (mT (mT (dy _ hx)))))))) (aq call24 O)<|fun ayZ FK=>aG FC<|V (bO O O)<|mB rfl<|V (bK O)<|V (adG sI O O)<|mB rfl<|cD O (bR (c:=true) (hmk))<|aE O FK (ju _ (hT.hp FK)) (Ca call11)<|fun aDv UB=>mB rfl<|aB rfl<|aa<|aj<|oB O ?_ UB
 rfl
end
end Go.Proofs.YtlhjdflgjbkpmaaGreatDoor.W

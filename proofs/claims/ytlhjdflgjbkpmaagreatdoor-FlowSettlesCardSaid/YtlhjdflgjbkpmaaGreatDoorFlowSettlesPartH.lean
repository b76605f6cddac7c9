/- Part 8 of the proof of FlowSettles: its plain laws and the walks of its functions. -/
import Derived.Test.YtlhjdflgjbkpmaaGreatDoorFlowSettlesPartG
set_option linter.all false
namespace Go.Proofs.YtlhjdflgjbkpmaaGreatDoor.W
section
open Go Go.RowKit Go.Proofs.YtlhjdflgjbkpmaaGreatDoor.E Go.Proofs.YtlhjdflgjbkpmaaGreatDoor.M
set_option maxRecDepth 100000
open Go.Proofs.Tryz
variable{fr:List bu}
variable{W0 w:World}{n m:Nat}{cs:List (List Nat)}{wr:Value}{vL:Value}{vt:Value}{vv:Value}{vy:Value}{vu:Value}{vq:Value}{sn:Int}{vW:Value}{vU:Value}{vT:Value}{cn:Int}{sk:Bool}{wy:BitVec 64}{vd:Value}{vm:Value}{cW:Option (Nat×Array Value)}{cU:Option (Nat×Array Value)}{W:List (BitVec 64)}{ul:List (Value×jQ)}{ts:List Int}{aq:List pO}{a8:List Int}{ak:List El}{bq:List (BitVec 64)}{us:List jY}{qs:List dD}{lg:List (Value×my)}{tm:List Int}{L:List bu}
set_option maxHeartbeats 4000000 in
theorem Hq{ids:List Nat}{tl:List (Nat×Rl)}{f:Ct}{nk:Nat}{Zf R:List bu}(Jzz:yU->Prop)(mu:yU->Nat)(hm:m+ak.length<=100000)(T3:bq.length=ak.length)(OQ:us.length=ak.length)(ov:(bB cs).length=ak.length)(Qw:ak.length<=1000)(hlg:lg.length+1000*mu (VZ (sU cs us aq a8 qs sn ak.length ⟨ak,bq,[],List.replicate qs.length false⟩).s sn qs.length)<=400000000000)(yf:∀k:Nat,k<us.length->dQ 3 (us.getD k de)∈R/\(us.getD k de).l.length<=1000/\∀i∈(us.getD k de).l,0<=i/\i<(qs.length:Int))(hf:Fy nk f)(hnk:nk+3*mu (VZ (sU cs us aq a8 qs sn ak.length ⟨ak,bq,[],List.replicate qs.length false⟩).s sn qs.length)<=90000000000)(Xj:0<=sn/\sn<=qs.length)(hqn:qs.length<=1000)(hqo:ZF aq.length ak.length qs)(hlt:a8.length=ak.length)(hlr:∀k:Nat,k<a8.length->0<=a8.getD k 0/\a8.getD k 0<aq.length)(hI0:Jzz (VZ (sU cs us aq a8 qs sn ak.length ⟨ak,bq,[],List.replicate qs.length false⟩).s sn qs.length))(hst:∀dc eK J7 mX x,Jzz ⟨dc,eK,x::J7,mX⟩->∀r,n7 (bB (sU cs us aq a8 qs sn ak.length ⟨ak,bq,[],List.replicate qs.length false⟩).cs) us (aq.getD (qs.getD x.toNat cX).a8.toNat pQ).p.sh (qs.getD x.toNat cX) dc eK J7 (mX.set x.toNat false) wy=r->r.ok=true->Jzz ⟨r.ak,r.bq,r.wl,r.wi⟩/\mu ⟨r.ak,r.bq,r.wl,r.wi⟩<mu ⟨dc,eK,x::J7,mX⟩)(w:World)(hT:o3 W0)(hlv:VV TX (Kz (Kw W0) R) ids tl aq)(hZ:kR (BE fr) ids f tl Zf)(Jh:ZA (Kz (Kw W0) R) qs)(h:xn FX n m cs vW vU cW cU W ul ts cn R)(hH:Hp W0 w (nE n wr vL vt vv vy vu vq sn vW vU vT cn sk wy vd vm cW cU W ul ts aq a8 ak bq us qs lg tm ((Zf++R)))):Calls Tryz.prog 42 #[pt n] w (jW fun u w'=>∃(ok:Bool) (s:yU) (T4:BitVec 64) (a:Nat) (Ox Oy Xo:Value) (QY QZ:Option (Nat×Array Value)) (W':List (BitVec 64)) (zk:List (Value×jQ)) (ts':List Int) (Q0:Int) (vd':Value) (new:List (Value×my)) (Lb Z':List bu) (f':Ct),u=B ok/\SpR (bB (sU cs us aq a8 qs sn ak.length ⟨ak,bq,[],List.replicate qs.length false⟩).cs) us aq qs s ok wy T4/\Jzz s/\a+mu s<=mu (VZ (sU cs us aq a8 qs sn ak.length ⟨ak,bq,[],List.replicate qs.length false⟩).s sn qs.length)+(if ok then 0 else 1)/\xn FX n (m+ak.length) (sU cs us aq a8 qs sn ak.length ⟨ak,bq,[],List.replicate qs.length false⟩).cs Ox Oy QY QZ W' zk ts' Q0 (Lb++R)/\(∀x∈new,nh NX n Lb x/\(ok=false->IW x.2))/\new.length<=1001*ak.length+1000*a+1/\iN new (NP.mk aq a8 ak bq ((qf us)) qs sn cs sk T4 wr) (NP.mk aq a8 (s.ak) (s.bq) ((qf us)) qs ((if ok then(qs.length:Int)else sn)) ((sU cs us aq a8 qs sn ak.length ⟨ak,bq,[],List.replicate qs.length false⟩).cs) sk T4 wr)/\kR (BE fr) ids f' tl Z'/\pT f f' a a (a+(sU cs us aq a8 qs sn ak.length ⟨ak,bq,[],List.replicate qs.length false⟩).j)/\Hp W0 w' (nE n wr vL vt vv vy vu vq ((if ok then(qs.length:Int)else sn)) (Ox) (Oy) (Xo) (Q0) sk T4 (vd') vm (QY) (QZ) (W') (zk) (ts') aq a8 (s.ak) (s.bq) us qs (lg++new) tm ((Z'++(Lb++R))))):=by
 simp only[nE]at hH
 refine en func42 rfl rfl<|SR<|gM hH (v:=Pn _ _) rfl<|fun b3 w1 bp=>va (v:=B false) rfl<|aa<|Zg<|SR<| ?_
 obtain⟨R1,W9⟩:∃R1:List bu,R1=[bu.blk b3 (.cells #[pt n] 31 (0,0))]++R:=⟨_,rfl⟩
 have iw:=Hp.mL (A:=[_,_,_,_,_,_,_,_,_,_,_,_]) (B:=[bu.blk b3 (.cells #[pt n] 31 (0,0))]) (R:=Zf) (bp.pj [1,1,1,1,1,1,1,1,1,1,1,1])
 rw[<-W9]at iw
 simp only[gA,eN]at iw
 have hb5:bu.blk b3 (.cells #[pt n] 31 (0,0))∈R1:=by rw[W9];simp
 have aeY:VV TX (Kz (Kw W0) R1) ids tl aq:=hlv.mono (Le.zz fun x hx=>by rw[W9];exact bH _ hx)
 have aou:ZA (Kz (Kw W0) R1) qs:=Jh.mono (Le.zz fun x hx=>by rw[W9];exact bH _ hx)
 have OD:=h.mono (L':=R1) fun e he=>by rw[W9];exact bH _ he
 have Kn:∀k:Nat,k<us.length->dQ 3 (us.getD k de)∈R1/\(us.getD k de).l.length<=1000/\∀i∈(us.getD k de).l,0<=i/\i<(qs.length:Int):=fun k hk=>⟨by rw[W9];exact bH _ (yf k hk).1,(yf k hk).2⟩
 refine V (aG di O O (iw.pq ((fun x hx=>(mT (mT (mT (mT (mT (mT (mT (mT (mT (mT (mT (mT (bH _ hx)))))))))))))) _ hb5) (v:=Pn _ _) O))<|V (af O)<|V (fA cr 6 O xT O)<|lV oe iw 0 O O rfl<|V (aC (iw.sl (i:=9) O) O oe O)<|tQ (qs.length) (qs.length) iw (Ak (f:=B) (z0:=false) qX O O O O (show _=Value.int .i64 ((qs.length:Nat):Int)from O) (show _=Value.int .i64 ((qs.length:Nat):Int)from O) az J)<|fun b8 w6 eC=>have iE:=eC.J1 (i:=0) (n:=qs.length) (l:=List.replicate (qs.length) false) (f:=B) O aJ J;?_
 simp only[jg]at iE
 refine V (dJ (vs:=[(1,(.slice (some ⟨b8,0,none⟩) (qs.length) (qs.length)))]) O (Pp _ _ _))<|gM iE (v:= .agg _) rfl<|fun b12 EB df=>have bX:=df.eR 3 1;va (v:=Pn _ _) rfl<|aa<|SR<|V (aG di O O (bX.pq ((fun x hx=>(mT (mT (mT (mT (mT (mT (mT (mT (mT (mT (mT (mT (mT (mT (mT (bH _ hx))))))))))))))))) _ hb5) (v:=Pn _ _) O))<|aE (v:=Pn _ _) rfl<|cw O (Ef (cq:=none) (ql:= .slice none 0 0) (wl:=[]) (wi:=List.replicate qs.length false) hm T3 OQ ov Qw J (IY _) (by rw[Re];omega) (fun k hk=>⟨(Kn k hk).1,(Kn k hk).2.1,fun i hi=>by have:=(Kn k hk).2.2 i hi;simp only[Re,nY];omega⟩) hf J Xj hqn hqo.pl hlt hlr _ hT aeY hZ aou OD trivial (bX.pj [3,3,3,3,3,3,3,3,3,3,3,3,1])) (aL call84 O O)<| ?_
 rintro _ w32 ⟨c16,akU,akV,aov,aow,aox,W39,aoy,aoz,aoA,aG0,q18,aG1,aG2,aAK,Z22,f23,aG3,rfl,acE,aG4,aG5,aG6,aG7,aG8,aG9,ke⟩
 subst aG3
 simp only[nE,wE]at ke
 have mj:=ke.pk [13,12,12]
 refine aa<|ai<|SR<|V (aG di O O (mj.pq ((fun x hx=>(mT (mT (mT (mT (mT (mT (mT (mT (mT (mT (mT (mT (mT (mT (mT (bH _ (bH _ hx)))))))))))))))))) _ hb5) (v:=Pn _ _) O))<|V (af O)<|V (fA cr 7 O aO O)<|lI bx mj 3 O O rfl<|aI rfl<|aa<|aA<|have ok0:=asI (cs:=cs) (us:=us) (aq:=aq) (a8:=a8) (qs:=qs) (sn:=sn) (ak:=ak) (bq:=bq) J (fun k hk=>(Kn k hk).2.2) J;bt (G:=Int×Value×(Option (Nat×Array Value))×(List Int)×(List Bool)) (fun⟨k,yA,BZ,qn,mX⟩ s' w'=>(Fr (4::(rg 21 12 [])) _ s')/\(Hp W0 w' (qE BZ yA 3 (qn.map I):: .blk b12 (.cells #[yA,(.slice (some ⟨b8,0,none⟩) (qs.length) (qs.length))] 156 (0,0))::jU B (.slice (some ⟨b8,0,none⟩) (qs.length) (qs.length)) 4 mX::_))/\(s' 4=I k)/\(sn<=k)/\(k<=qs.length)/\(qO BZ yA (qn.map I))/\((qn,mX)=(rV ((sU cs us aq a8 qs sn ak.length ⟨ak,bq,[],List.replicate qs.length false⟩).s.wl,(sU cs us aq a8 qs sn ak.length ⟨ak,bq,[],List.replicate qs.length false⟩).s.wi) (upI sn (k-sn).toNat)))) (fun⟨k,yA,BZ,qn,mX⟩=>(qs.length-k).toNat) ((sn,q18,aG1,(sU cs us aq a8 qs sn ak.length ⟨ak,bq,[],List.replicate qs.length false⟩).s.wl,(sU cs us aq a8 qs sn ak.length ⟨ak,bq,[],List.replicate qs.length false⟩).s.wi)) ⟨Fr.refl _ _,mj,rfl,J,J,aG9,(by rw[Int.sub_self];rfl)⟩<| ?_
 rintro⟨k,yA,BZ,qn,mX⟩ aP0 w44 ⟨aAL,qm,akW,h0,hk,OS,hp⟩
 obtain⟨aqR,aqS⟩:=aAL.w2 1 3
 have ok1:Qu qs.length ak.length bq.length ⟨(sU cs us aq a8 qs sn ak.length ⟨ak,bq,[],List.replicate qs.length false⟩).s.ak,(sU cs us aq a8 qs sn ak.length ⟨ak,bq,[],List.replicate qs.length false⟩).s.bq,qn,mX⟩:=by have h1:=anq ok0 (l:=upI sn (k-sn).toNat) (fun i hi=>by obtain⟨j,hj,rfl⟩:=fZ.1 hi;have:=qq.1 hj;omega);rw[<-hp]at h1;exact h1
 have wq1:=ok1.wq.len
 have li1:=ok1.li
 simp only at wq1 li1
 refine ai<|SR<|aE akW<|V (aG di O aqR (qm.pq ((fun x hx=>(mT (mT (mT (mT (mT (mT (mT (mT (mT (mT (mT (mT (mT (mT (mT (bH _ (bH _ hx)))))))))))))))))) _ hb5) (v:=Pn _ _) O))<|V (af O)<|V (fA cr 6 O xT O)<|lV oe qm 3 O O rfl<|V (aC (qm.sl (i:=12) O) O oe O)<|V (aN O O)<|aa<|aF O (fun h46=> ?_) (fun h46=> ?_)
 .refine an<|ai<|aA<|au<|aE aqS<|aE akW<|cw O (qo _ J J _ OS (qm.pj [1])) (aL call85 O O)<| ?_
  rintro _ w49 ⟨rfl,v51,c52,aHa,eL⟩
  simp only[wE]at eL
  have gQ:=eL.pk [1]
  refine aa<|au<|aE akW<|V (ax O O J)<|aI rfl<|aa<| ?_
  refine⟨(k+1,v51,c52,(py (qn,mX) k).1,(py (qn,mX) k).2),aW,aAL.u4.u4.u4.u1,(Hp.conv gQ aM),(aK I aM),J,J,?_,?_⟩
  .exact aHa
  (rw[aiP h0,aeh,<-hp])
 refine a7 (id:=0) rfl<|ai<|Zh<|ai<|aA<|have ek:k=qs.length:=J;?_
 rw[ek]at hp
 have e0:(⟨(sU cs us aq a8 qs sn ak.length ⟨ak,bq,[],List.replicate qs.length false⟩).s.ak,(sU cs us aq a8 qs sn ak.length ⟨ak,bq,[],List.replicate qs.length false⟩).s.bq,qn,mX⟩:yU)=(VZ (sU cs us aq a8 qs sn ak.length ⟨ak,bq,[],List.replicate qs.length false⟩).s sn qs.length):=by unfold VZ;rw[<-hp]
 have ana:(bB (sU cs us aq a8 qs sn ak.length ⟨ak,bq,[],List.replicate qs.length false⟩).cs).length=ak.length:=by rw[anr];omega
 have aHb:=axr (cs:=cs) (us:=us) (aq:=aq) (a8:=a8) (qs:=qs) (sn:=sn) (n:=ak.length) (s:=⟨ak,bq,[],List.replicate qs.length false⟩)
 have aP2:(sU cs us aq a8 qs sn ak.length ⟨ak,bq,[],List.replicate qs.length false⟩).j<=1000*1000:=kX aHb (xQ J J)
 refine bt (G:=Value×Value×(Option (Nat×Array Value))×(List El)×(List (BitVec 64))×(List Int)×(List Bool)×(List (Value×my))×(List bu)×(List bu)×Ct×Nat×(List bu)) (fun⟨W5,yA,BZ,dc,eK,qn,mX,new,Lb,FV,f1,a,Z1⟩ s' w'=>(Fr (2::(rg 33 17 [])) _ s')/\(Hp W0 w' (qE BZ yA 3 (qn.map I):: .blk b12 (.cells #[yA,(.slice (some ⟨b8,0,none⟩) (qs.length) (qs.length))] 156 (0,0))::jU B (.slice (some ⟨b8,0,none⟩) (qs.length) (qs.length)) 4 mX:: .blk n (.cells #[wr,vL,vt,vv,vy,vu,vq,I sn,akU,akV,aov,I aoA,B sk,U wy,W5,vm] 111 (0,0))::cE aow akU 35 (W39.map U)::cE aox akV 1 (aoy.map Prod.fst)::jU I aov 3 aoz::we Xk 13 vL 119 aq::jU I vt 3 a8::we pH 8 vv 37 dc::jU U vy 35 eK::jU jY.v vu 99 us::we qh 13 vq 128 qs::jU Prod.fst W5 1 (lg++new)::jU I vm 3 tm::Z1))/\(Jzz ⟨dc,eK,qn,mX⟩)/\(Qu qs.length ak.length bq.length ⟨dc,eK,qn,mX⟩)/\(Z1=FV++(Lb++R1))/\(kR (BE fr) ids f1 tl FV)/\(pT f f1 a a (a+(sU cs us aq a8 qs sn ak.length ⟨ak,bq,[],List.replicate qs.length false⟩).j))/\(a+mu ⟨dc,eK,qn,mX⟩<=mu (VZ (sU cs us aq a8 qs sn ak.length ⟨ak,bq,[],List.replicate qs.length false⟩).s sn qs.length))/\(qO BZ yA (qn.map I))/\(xn FX n (m+ak.length) (sU cs us aq a8 qs sn ak.length ⟨ak,bq,[],List.replicate qs.length false⟩).cs akU akV aow aox W39 aoy aoz aoA (Lb++R1))/\(∀x∈new,nh NX n Lb x/\IW x.2)/\(new.length<=1001*ak.length+1000*a)/\(iN new (NP.mk aq a8 ak bq ((qf us)) qs sn cs sk wy wr) (NP.mk aq a8 dc eK ((qf us)) qs sn ((sU cs us aq a8 qs sn ak.length ⟨ak,bq,[],List.replicate qs.length false⟩).cs) sk wy wr))) (fun⟨W5,yA,BZ,dc,eK,qn,mX,new,Lb,FV,f1,a,Z1⟩=>mu ⟨dc,eK,qn,mX⟩) ((aG0,yA,BZ,(sU cs us aq a8 qs sn ak.length ⟨ak,bq,[],List.replicate qs.length false⟩).s.ak,(sU cs us aq a8 qs sn ak.length ⟨ak,bq,[],List.replicate qs.length false⟩).s.bq,qn,mX,aG2,aAK,Z22,f23,0,(Z22++(aAK++R1)))) ⟨Fr.refl _ _,qm,(by rw[e0];exact hI0),ok1,rfl,aG7,(aG8.more (nM _) (nM _) J),(by rw[e0];omega),OS,acE,aG4,(by have:=aG5;omega),aG6⟩ ?_
 rintro⟨W5,yA,BZ,dc,eK,qn,mX,new,Lb,FV,f1,a,Z1⟩ ayh w55 ⟨Od,jz,hI,aaI,hz,K4,hcj,ham,OS,aoB,Xp,hnl,hbk⟩
 obtain⟨Ho,Oe⟩:=Od.t2 1 aqR 3 aqS
 subst hz
 have lv1:dc.length=ak.length:=aaI.lv
 have ly1:eK.length=bq.length:=aaI.ly
 have li1:mX.length=qs.length:=aaI.li
 have wq1:=aaI.wq.len
 simp only at wq1
 refine ai<|SR<|aE Oe<|V (af O)<|V (fA zC 0 O dH O)<|lV bD jz 1 O O rfl<|V (aC (jz.slQ (i:=0) O OS) O bD O)<|V (dN O O)<|aa<|aF O (fun Pm=> ?_) (fun Pm=> ?_)
 .refine an<|aA<|ai<|ai<| ?_
  obtain⟨x,J7,hxw⟩:=List.exists_cons_of_length_pos (show 0<qn.length by have h9:=‹(0:Int)<_›;simpa using h9)
  subst hxw
  have htk:=aaI.take
  have TK:=hqo.at htk.1.1 htk.1.2
  have wq2:=htk.2.wq.len
  simp only[nY]at wq2
  have hqx:D2 (Kz (Kw W0) (Lb++R1)) (qs.getD x.toNat cX):=(aou.at htk.1.1 htk.1.2).mono (Le.zz fun y hy=>bH _ hy)
  have aHc:VV TX (Kz (Kw W0) (Lb++R1)) ids tl aq:=aeY.mono (Le.zz fun y hy=>bH _ hy)
  refine fW (z:=⟨some _,_,_,_,_,none⟩) aP O aP jz (sQ (sQ (sQ sR)))<|fun w58 BR=>have aaJ:=BR.sub (sQ (sQ (sQ sR)));AT 0 O aaJ (fun w hS=>aG di O Ho (hS.pq ((fun x hx=>(mT (mT (mT (mT (mT (mT (mT (mT (mT (mT (mT (mT (bH _ (bH _ hx))))))))))))))) _ hb5) (v:=Pn _ _) O))<|AQ 1 O aaJ (run_move Oe)<|AT 2 O aaJ (fun w hS=>aG di O Ho (hS.pq ((fun x hx=>(mT (mT (mT (mT (mT (mT (mT (mT (mT (mT (mT (mT (bH _ (bH _ hx))))))))))))))) _ hb5) (v:=Pn _ _) O))<|AQ 3 O aaJ (af O)<|AQ 4 O aaJ (fA cr 6 O xT O)<|tV 5 O aaJ oe 0 O O rfl<|AQ 6 O aaJ (run_move Oe)<|A1 7<|yc O aD O (Ee (wi:=mX) x (by have:=htk.1;omega) _ OS (BR.pj [1])) (ay call87 O) (fun u w' ⟨_,T8,T9,_,h⟩=>((show Hp _ w' (wE _ _ _ _ _ _ (_::_::_::_::_::_::_::_::_::_::_::_::(FV++(Lb++R1))))from h).pj [1]).sub (sQ (sQ (sQ sR))))<| ?_
  rintro _ w62 ⟨rfl,v64,c65,aHd,oV⟩
  simp only[wE]at oV
  have TL:=oV.pk [1]
  refine AT 8 O (TL.sub (sQ (sQ (sQ sR)))) (fun w hS=>ah (hS.sl (i:=9) O) oe Lw O O J)<|AT 9 O (TL.sub (sQ (sQ (sQ sR)))) (fun w hS=>dY (dv:=cX) pP (hS.sl (i:=9) O) jj O O O J)<|AD<|cw O (Kl (qs.getD x.toNat cX) J J J J J E9 J (fun k hk=>⟨bH _ (Kn k hk).1,(Kn k hk).2.1,fun i hi=>by have:=(Kn k hk).2.2 i hi;simp only[Re,nY];omega⟩) (hcj.ok hf) J TK.a8 TK.code (by have:=TK.to;omega) (fun hp=>by have:=TK.pl hp;omega) (fun v hv=>by have:=TK.vars v hv;omega) _ hT aHc K4 hqx aoB aHd (TL.pj [3,3,3,3,3,3,3,3,3,3,3,3,1])) (bz call86 O O O)<| ?_
  rintro _ w83 ⟨r70,aAM,q72,aHe,aAN,aeR,Z76,Ps,rfl,aoC,aAO,auL,aAP,aHg,lj⟩
  simp only[nE,wE]at lj
  have WH:=lj.pk [13,12,12]
  refine aa<|bW O (fun h87=> ?_) (fun h87=> ?_)
  .refine a7 (id:=3) rfl<|have hok:r70.ok=true:=lz;have hwy:r70.wy=wy:=(by rw[<-Ps];exact asF (by rw[Ps];exact hok));?_
   rw[hwy]at auL
   have hlo:=aiQ (cl:=(bB (sU cs us aq a8 qs sn ak.length ⟨ak,bq,[],List.replicate qs.length false⟩).cs)) (us:=us) (sh:=(aq.getD (qs.getD x.toNat cX).a8.toNat pQ).p.sh) (q:=(qs.getD x.toNat cX)) (wy:=wy) (fun k hk=>(Kn k hk).2.2) J htk.2
   rw[Ps]at hlo
   have auM:=hst dc eK J7 mX x hI r70 Ps hok
   have WY:=VX (aeY.at TK.a8.1 TK.a8.2).dep (bB (sU cs us aq a8 qs sn ak.length ⟨ak,bq,[],List.replicate qs.length false⟩).cs) us (aq.getD (qs.getD x.toNat cX).a8.toNat pQ).p.sh (qs.getD x.toNat cX) dc eK J7 (mX.set x.toNat false) wy f1
   rw[Ps]at WY
   refine⟨(aAM,q72,aHe,r70.ak,r70.bq,r70.wl,r70.wi,new++aAN,aeR++Lb,Z76,VW (aq.getD (qs.getD x.toNat cX).a8.toNat pQ).d r70.ks f1,a+1,(Z76++(aeR++(Lb++R1)))),?_,Od.u4.u4.u4.u4.u1,(Hp.conv WH (by simp only[dG,hwy];done)),?_,?_,?_,?_,?_,?_,?_,?_,?_,?_,?_⟩
   .exact auM.2
   .exact auM.1
   .exact hlo
   ·(simp only[dG])
   .exact aAP
   .exact(hcj.trans WY).more J J J
   ·(have:=auM.2;omega)
   .exact aHg
   .exact aoB.mono fun e he=>(by rw[dG];exact bH _ he)
   .exact(fun x hx=>by rcases fg.1 hx with q|q;exact⟨(Xp x q).1.mono (fun e he=>bH _ he),(Xp x q).2⟩;exact⟨(aoC x q).1.mono (fun e he=>dL _ he),(aoC x q).2⟩)
   ·(have:=aAO;have:=wk (cl:=(bB (sU cs us aq a8 qs sn ak.length ⟨ak,bq,[],List.replicate qs.length false⟩).cs)) (i:=(qs.getD x.toNat cX).to.var);rw[dZ];omega)
   exact hbk.trans auL
  refine an<|SR<|va (v:=B false) rfl<|aa<|aj<|have hrf:r70.ok=false:=lz;have hno:=asG (cl:=(bB (sU cs us aq a8 qs sn ak.length ⟨ak,bq,[],List.replicate qs.length false⟩).cs)) (us:=us) (sh:=(aq.getD (qs.getD x.toNat cX).a8.toNat pQ).p.sh) (q:=(qs.getD x.toNat cX)) (ak:=dc) (bq:=eK) (wl:=J7) (wi:=mX.set x.toNat false) (wy:=wy) (by rw[Ps];exact hrf);?_
  rw[Ps]at hno
  have WY:=VX (aeY.at TK.a8.1 TK.a8.2).dep (bB (sU cs us aq a8 qs sn ak.length ⟨ak,bq,[],List.replicate qs.length false⟩).cs) us (aq.getD (qs.getD x.toNat cX).a8.toNat pQ).p.sh (qs.getD x.toNat cX) dc eK J7 (mX.set x.toNat false) wy f1
  rw[Ps]at WY
  have hbw:=(hbk.wy (fun x hx=>(Xp x hx).2) r70.wy).trans auL
  have ze:=(WH.sub (sQ (sQ (sQ sR))))
  rw[hno.1,hno.2]at ze hbw
  subst W9
  refine jy (v:=B false) O O ⟨false,⟨dc,eK,x::J7,mX⟩,r70.wy,a+1,akU,akV,aov,aow,aox,W39,aoy,aoz,aoA,aAM,new++aAN,((aeR++Lb)++[bu.blk b3 (.cells #[pt n] 31 (0,0))]),Z76,_,rfl,.inr ⟨rfl,x,J7,rfl,by rw[Ps];exact hrf,by rw[Ps]⟩,hI,iX,aoB.mono fun e he=> ?_,fun y hy=> ?_,?_,hbw,aAP,(hcj.trans WY).more J J J,Hp.conv (by rw[<-dG]at ze;exact ze) (by simp only[dG,gA,eN,uu,xU,uE];done)⟩
  .simp only[fg]at he⊢;rcases he with q|q|q;exact .inl (.inl (.inr q));exact .inl (.inr q);exact .inr q
  .rcases fg.1 hy with q|q;exact⟨(Xp y q).1.mono (fun e he=>dL _ (bH _ he)),fun _=>(Xp y q).2⟩;exact⟨(aoC y q).1.mono (fun e he=>dL _ (dL _ he)),fun _=>(aoC y q).2⟩
  (have:=aAO;have:=wk (cl:=(bB (sU cs us aq a8 qs sn ak.length ⟨ak,bq,[],List.replicate qs.length false⟩).cs)) (i:=(qs.getD x.toNat cX).to.var);rw[dZ];omega)
 refine a7 (id:=2) rfl<|SR<|V (aG di O Ho (jz.pq ((fun x hx=>(mT (mT (mT (mT (mT (mT (mT (mT (mT (mT (mT (mT (mT (mT (mT (bH _ (bH _ hx)))))))))))))))))) _ hb5) (v:=Pn _ _) O))<|V (af O)<|V (fA cr 7 O aO O)<|lI bx jz 3 O O rfl<|lJ jz (aS Tryz.zeroValue3)<|fun b91 w89 oH=>bg oH (i:=0) O (bL O O (v:=I _) O O O (oH.blk (i:=0) O) az)<|fun w94 Kk=>aa<|ai<|fW (z:=⟨none,_,_,_,_,none⟩) aP O aP Kk sR<|fun w96 Km=>have Xa:=Km;AT 0 O Xa (fun w hS=>aG di O Ho (hS.pq ((fun x hx=>(mT (mT (mT (mT (mT (mT (mT (mT (mT (mT (mT (mT (mT (mT (mT (mT (bH _ (bH _ hx))))))))))))))))))) _ hb5) (v:=Pn _ _) O))<|AT 1 O Xa (fun w hS=>aG di O Ho (hS.pq ((fun x hx=>(mT (mT (mT (mT (mT (mT (mT (mT (mT (mT (mT (mT (mT (mT (mT (mT (bH _ (bH _ hx))))))))))))))))))) _ hb5) (v:=Pn _ _) O))<|AQ 2 O Xa (af O)<|AQ 3 O Xa (fA cr 6 O xT O)<|tV 4 O Xa oe 4 O O rfl<|AT 5 O Xa (fun w hS=>aC (hS.sl (i:=13) O) O oe O)<|AQ 6 O Xa (af O)<|AQ 7 O Xa (fA cr 7 O aO O)<|AD<|bg Km (i:=4) O (bL O O (v:=I _) O O O (Km.blk (i:=4) O) aJ)<|fun w98 Po=> ?_
 simp only[jg,kW,nW,gN,Nat.reduceAdd]at Po
 refine aa<|SR<|V (aG di O Ho (Po.pq ((fun x hx=>(mT (mT (mT (mT (mT (mT (mT (mT (mT (mT (mT (mT (mT (mT (mT (mT (bH _ (bH _ hx))))))))))))))))))) _ hb5) (v:=Pn _ _) O))<| ?_
 refine V (s5 bA Ho) ?_
 refine cw O (iL _ _ (.seen sn) E9 _ (Po.pj [4,4,4,4,4,4,4,4,4,4,4,4])) (aL zI O O) ?_
 rintro _ aAD ⟨rfl,aHh,OE⟩
 simp only[nE]at OE
 have EP:=OE.pk [12,12,12,12]
 refine aa<|SR<|va (v:=B true) rfl<|aa<|aj<|have hnil:qn=[]:=List.length_eq_zero_iff.1 (by have h9:=‹¬(0:Int)<_›;simpa using h9);have nj:=Hp.mL (A:=[_,_,_,_,_,_,_,_,_,_,_,_]) (B:=[_]) (R:=FV) ((EP.sub (sP (sQ (sQ (sQ sR))))).pj [1,1,1,1,1,1,1,1,1,1,1,1]);?_
 subst W9
 refine jy (v:=B true) O O ⟨true,⟨dc,eK,qn,mX⟩,wy,a,akU,akV,aov,aow,aox,W39,aoy,aoz,aoA,aHh,new++[((jL 88 #[pt b91,pt b3]),.seen sn)],(([bu.blk b91 (.cells #[I sn] 3 (0,0))]++Lb)++[bu.blk b3 (.cells #[pt n] 31 (0,0))]),FV,f1,rfl,.inl ⟨rfl,hnil,rfl⟩,hI,iX,aoB.mono fun e he=> ?_,fun y hy=> ?_,?_,hbk.trans (aei (s:=(NP.mk aq a8 dc eK ((qf us)) qs sn ((sU cs us aq a8 qs sn ak.length ⟨ak,bq,[],List.replicate qs.length false⟩).cs) sk wy wr)) (k:=(qs.length:Int))),K4,hcj,Hp.conv nj (by simp only[dG,gA,eN,uu,xU,uE];rfl)⟩
 .simp only[fg]at he⊢;rcases he with q|q|q;exact .inl (.inl (.inr q));exact .inl (.inr q);exact .inr q
 .rcases fg.1 hy with q|q;exact⟨(Xp y q).1.mono (fun e he=>dL _ (bH _ he)),fun _=>(Xp y q).2⟩;rw[gG.1 q];exact⟨⟨_,_,rfl,aJ,aJ⟩,fun q=>by cases q⟩
 (rw[dZ,ez];omega)
theorem Jm{s:NP}{R L0 Z:List bu}(o:Int)(ho:0<=o/\o<=lg.length)(hlg:lg.length<=600000000000)(hb:okB (CP lg o.toNat) s)(hu:∀s1:NP,∀k:Int,o<=k->k<lg.length->okN (lg.getD k.toNat ZG).2 s1->aoo W0 n m R L0 (lg.getD k.toNat ZG) s1)(w:World)(hZ:wC n m s lg tm R L0 Z)(hH:Hp W0 w Z):Calls Tryz.prog 43 #[pt n,I o] w (jW fun u w'=>u= .tuple #[]/\∃Z',wC n m (D3 (CP lg o.toNat) s) (lg.take o.toNat) tm R L0 Z'/\Hp W0 w' Z'):=by
 refine enter func43 rfl ntmps43 rfl ?_
 obtain⟨F1,L2,Bu,OF,rfl⟩:=hZ
 have bY:=hH
 simp only[NZ,nE]at bY
 refine ai<|SR<|aE (v:=Pn _ _) rfl<|V (af O)<|V (fA cr 14 O kg O)<|lV hG bY 0 O O rfl<|V (aC (bY.sl (i:=10) O) O hG O)<|V (eO O O J)<|aI rfl<|aa<|aA<| ?_
 obtain⟨Zc,hZc,hHc⟩:∃Z,wC n m s lg tm R L0 Z/\Hp W0 _ Z:=⟨_,⟨F1,L2,Bu,OF,rfl⟩,bY⟩
 refine bt (G:=Int×(List bu)) (fun⟨k,Z1⟩ s' w'=>(Fr (4::(rg 11 13 [])) _ s')/\(Hp W0 w' (Z1))/\(s' 4=I (k-1))/\(o<=k)/\(k<=lg.length)/\(wC n m (D3 (CP lg k.toNat) s) lg tm R L0 Z1)) (fun⟨k,Z1⟩=>(k-o).toNat) ((lg.length,Zc)) ⟨Fr.refl _ _,hHc,rfl,J,J,(by rw[aiR J];exact hZc)⟩ ?_
 rintro⟨k,Z1⟩ sg7 w7 ⟨D7,eC,I8,h0,hk,K4⟩
 obtain⟨FQ,aeH⟩:=D7.w2 0 1
 refine ai<|SR<|aE I8<|aE aeH<|V (dF O O)<|aa<|aF O (fun h9=> ?_) (fun h9=> ?_)
 .refine an<|ai<|aA<|au<| ?_
  obtain⟨F10,L11,aHk,aHl,rfl⟩:=K4
  have cG:=eC
  simp only[NZ,nE]at cG
  refine aE FQ<|V (af O)<|V (fA cr 14 O kg O)<|lV hG cG 0 O O rfl<|aE I8<|V (ah (cG.sl (i:=10) O) hG sizeOf1 O O J)<|V (aG underlying1 O O ((cG.sl (i:=10) O).cell _ _ (lK (dv:=ZG) J)))<|have hkk:(k-1).toNat<lg.length:=J;have ek:(k-1).toNat+1=k.toNat:=J;have hok:=ans (o:=o.toNat) J hkk hb;?_
  rw[ek]at hok
  obtain⟨aQa,aHm,aHn,aAQ,aAR⟩:=hu _ (k-1) J J hok lg tm _ _ ⟨F10,L11,aHk,aHl,rfl⟩ cG
  refine cw O aAR (Mg aAQ (cs:=aHm) aHn) ?_
  rintro _ ZZ ⟨rfl,Z21,aHo,eM⟩
  have hzk:=aHo
  rw[<-ek,<-aej hkk]at hzk
  refine aa<|au<|aE I8<|V (eO O O J)<|aI rfl<|aa<| ?_
  refine⟨(k-1,Z21),aW,D7.u4.u4.u4.u1.u1,(Hp.conv eM aM),(aK I aM),J,J,?_⟩
  exact hzk
 refine a7 (id:=0) rfl<|au<|have ek:k=o:=J;?_
 rw[ek]at K4
 obtain⟨F24,L25,aAS,aHq,rfl⟩:=K4
 have iJ:=eC
 simp only[NZ,nE]at iJ
 refine aE FQ<|aE FQ<|V (af O)<|V (fA cr 14 O kg O)<|lV hG iJ 0 O O rfl<|aE aeH<|V (rh (iJ.sl (i:=10) O) hG sizeOf1 O O J)<|V (af O)<|V (fA cr 14 O kg O)<|have gT:=Hp.aDX iJ (i:=10) O (m:=o.toNat) J;bg gT (i:=0) O (bL O O (v:=(zT F24.vd (o.toNat))) O (aZ (gT.get (i:=10) O)).1 (aZ (gT.get (i:=10) O)).2 (gT.blk (i:=0) O) aJ)<|fun w29 iV=> ?_
 simp only[jg,kW,nW,gN,Nat.reduceAdd]at iV
 refine aa<|rf O ⟨rfl,_,⟨{F24 with vd:=(zT F24.vd (o.toNat))},L25,⟨aAS.fo,aAS.us⟩,aHq,rfl⟩,(iV)⟩
theorem OG(v:Int)(w:World)(hb:w.heap[n]?=some (.cells #[wr,vL,vt,vv,vy,vu,vq,I sn,vW,vU,vT,I cn,B sk,U wy,vd,vm] 111 (0,0)))(hy:Sl w vy 1 bq.length (bq.map U)):Calls Tryz.prog 21 #[pt n,I v] w (Pure (U (if 0<=v/\v<bq.length then bq.getD v.toNat 0 else 0)) w):=by
 refine eH func21 rfl rfl fun hH=>SR<|va (v:=U 0#64) rfl<|aa<|ai<|SR<|aE (v:=Pn _ _) rfl<|V (kU di O O)<|mB rfl<|cC O rfl<|mI rfl<|V (aN O O)<|mB rfl<|mB rfl<|bM 11 O (fun h2=> ?_) (fun h2=> ?_)
 .refine aE (v:=B true) rfl<|aa<|cA rfl<|SR<|va (v:=U 0#64) rfl<|aa<|aj<|oU O ?_ hH
  (rw[aT J]<;>rfl)
 refine mI rfl<|aE (v:=Pn _ _) rfl<|V (af O)<|V (fA cr 4 O jB O)<|V (aG dh O O (hH.eP hb O))<|V (aC (hy.hp hH) O dh O)<|V (dF O O)<|mB rfl<|aa<|aF O (fun h4=> ?_) (fun h4=> ?_)
 .refine SR<|va (v:=U 0#64) rfl<|aa<|aj<|oU O ?_ hH
  (rw[aT J]<;>rfl)
 refine an<|SR<|aE (v:=Pn _ _) rfl<|V (af O)<|V (fA cr 4 O jB O)<|V (aG dh O O (hH.eP hb O))<|mI rfl<|V (ah (hy.hp hH) dh cP O O J)<|V (aG dM O O ((hy.hp hH).cell _ _ (lK (dv:=0#64) J)))<|aU rfl<|aa<|aj<|oU O ?_ hH
 (rw[aX ⟨J,J⟩]<;>rfl)
theorem Jn(w:World)(hb:w.heap[n]?=some (.cells #[wr,vL,vt,vv,vy,vu,vq,I sn,vW,vU,vT,I cn,B sk,U wy,vd,vm] 111 (0,0))):Calls Tryz.prog 16 #[pt n] w (Pure (.tuple #[U wy,B sk]) w):=by
 refine eH func16 rfl rfl fun hH=>SR<|va (v:=U 0#64) rfl<|va (v:=B false) rfl<|aa<|ai<|SR<|aE (v:=Pn _ _) rfl<|V (kU di O O)<|aa<|cQ rfl<|an<|ai<|ec aP hH<|fun w1 bp=>have kS:=bp;AQ 0 O kS (mV (Pn _ _) O)<|AQ 1 O kS (af O)<|AQ 2 O kS (fA cr 13 O cP O)<|AT 3 O kS (fun w hS=>aG dM O O (hS.eP hb (v:=U _) O))<|AQ 4 O kS (mV (Pn _ _) O)<|AQ 5 O kS (af O)<|AQ 6 O kS (fA cr 12 O oh O)<|AT 7 O kS (fun w hS=>aG uk O O (hS.eP hb (v:=B _) O))<|AQ 8 O kS (aV (U _) O)<|AQ 9 O kS (aV (B _) O)<|AD<|aj<|kr O O O bp.below
theorem Jo(v:Int)(w:World)(hb:w.heap[n]?=some (.cells #[wr,vL,vt,vv,vy,vu,vq,I sn,vW,vU,vT,I cn,B sk,U wy,vd,vm] 111 (0,0)))(hv:Sl w vv 8 ak.length (ak.flatMap pH)):Calls Tryz.prog 23 #[pt n,I v] w (Pure (.agg (iM (if 0<=v/\v<ak.length then ak.getD v.toNat dg else dg))) w):=by
 refine eH func23 rfl rfl fun hH=>SR<|lJ hH (aS e8)<|fun b3 w1 bp=>aa<|ai<|SR<|aE (v:=Pn _ _) rfl<|V (kU di O O)<|mB rfl<|cC O rfl<|mI rfl<|V (aN O O)<|mB rfl<|mB rfl<|bM 11 O (fun h5=> ?_) (fun h5=> ?_)
 .refine aE (v:=B true) rfl<|aa<|cA rfl<|SR<|V (dJ (vs:=[]) O (oP))<|bg bp (i:=0) O (cR O O O (bp.blk (i:=0) O))<|fun w8 iE=>aa<|aj<|rz O O iE (i:=0) O bI O jI ⟨?_,iE.below⟩
  (rw[aT J]<;>rfl)
 refine mI rfl<|aE (v:=Pn _ _) rfl<|V (af O)<|V (fA cr 3 O jm O)<|V (aG bV O O (bp.eP hb O))<|V (aC (hv.hp bp) O bV O)<|V (dF O O)<|mB rfl<|aa<|aF O (fun h11=> ?_) (fun h11=> ?_)
 .refine SR<|V (dJ (vs:=[]) O (oP))<|bg bp (i:=0) O (cR O O O (bp.blk (i:=0) O))<|fun QH gS=>aa<|aj<|rz O O gS (i:=0) O bI O jI ⟨?_,gS.below⟩
  (rw[aT J]<;>rfl)
 refine an<|SR<|aE (v:=Pn _ _) rfl<|V (af O)<|V (fA cr 3 O jm O)<|V (aG bV O O (bp.eP hb O))<|mI rfl<|V (ah (hv.hp bp) bV fh O O J)<|V (gy (hv.hp bp) bI O O O J)<|bg bp (i:=0) O (cR O O O (bp.blk (i:=0) O))<|fun K0 iD=>aa<|aj<|rz O O iD (i:=0) O bI O jI ⟨?_,iD.below⟩
 (rw[aX ⟨J,J⟩]<;>rfl)
section
theorem aaK{R L0:List bu}{s:NP}{x:Value}{v:Int}{was:El}{had:BitVec 64}(hx:nh NX n L0 (x,.raise v was had))(hok:okN (.raise v was had) s):aoo W0 n m R L0 (x,.raise v was had) s:=by
 rintro lg tm Z w ⟨F,L,hI,hL,rfl⟩ hH
 obtain⟨b1,b2,b3,b4,hf,hb1,Xm,hb3,hb4⟩:=hx
 subst hf
 refine⟨_,[pt b1,pt b2,pt b3,pt b4],rfl,call193,?_⟩
 refine(FT hok _ (bH _ (bH _ (hL _ _ hb1))) (bH _ (bH _ (hL _ _ Xm))) (bH _ (bH _ (hL _ _ hb3))) (bH _ (bH _ (hL _ _ hb4))) hH).mono fun e w' hr=>jW.mono ?_ hr
 rintro u w' ⟨rfl,hh⟩
 exact⟨rfl,_,⟨F,L,⟨hI.fo,hI.us⟩,hL,rfl⟩,hh⟩
theorem aaL{R L0:List bu}{s:NP}{x:Value}{k:Int}(hm:m<=100000)(hx:nh NX n L0 (x,.merge k)):aoo W0 n m R L0 (x,.merge k) s:=by
 rintro lg tm Z w ⟨F,L,hI,hL,rfl⟩ hH
 obtain⟨b1,b2,hf,hb1,Xm⟩:=hx
 subst hf
 refine⟨_,[pt b1,pt b2],rfl,call157,?_⟩
 refine(FU (R:=F.us.map (dQ 3)++R) hm _ (by rw[dG];exact bH _ (bH _ (hL _ _ hb1))) (by rw[dG];exact bH _ (bH _ (hL _ _ Xm))) hI.fo (by rw[dG];exact hH)).mono fun e w' hr=>jW.mono ?_ hr
 rintro u w' ⟨rfl,zvW,zvU,zvT,zcW,zcU,zW,zul,zts,zcn,Lb,hfo,hh⟩
 exact⟨rfl,_,⟨{F with vW:=zvW,vU:=zvU,vT:=zvT,cW:=zcW,cU:=zcU,W:=zW,ul:=zul,ts:=zts,cn:=zcn},Lb++L,⟨hfo,hI.us⟩,fun b o h=>bH _ (hL b o h),rfl⟩,by rw[dG]at hh;exact hh⟩
theorem aoD{R L0:List bu}{s:NP}{x:Value×my}(hm:m<=100000)(hx:nh NX n L0 x)(hr:IW x.2)(hok:okN x.2 s):aoo W0 n m R L0 x s:=by
 obtain⟨v,c⟩:=x
 cases c with
 |raise v was had=>exact aaK hx hok
 |merge k=>exact aaL hm hx
 |_=>exact hr.elim
end
theorem Hr{s:NP}{L0 Z:List bu}{ids:List Nat}{tl:List (Nat×Rl)}{f:Ct}{nk:Nat}{Zf:List bu}(Jzz:yU->Prop)(mu:yU->Nat)(M:Nat)(hm:m+s.ak.length<=100000)(hok:D4 s)(hwy:s.sk=false->s.wy=0)(hlg:lg.length+1000*M<=400000000000)(htm:tm.length<=100000000)(hf:Fy nk f)(hnk:nk+3*M<=90000000000)(hJ:∀us:List jY,qf us=s.us->Jzz (VZ (sU s.cs us s.aq s.a8 s.qs s.sn s.ak.length ⟨s.ak,s.bq,[],List.replicate s.qs.length false⟩).s s.sn s.qs.length)/\mu (VZ (sU s.cs us s.aq s.a8 s.qs s.sn s.ak.length ⟨s.ak,s.bq,[],List.replicate s.qs.length false⟩).s s.sn s.qs.length)<=M/\∀dc eK J7 mX x,Jzz ⟨dc,eK,x::J7,mX⟩->∀r,n7 (bB (sU s.cs us s.aq s.a8 s.qs s.sn s.ak.length ⟨s.ak,s.bq,[],List.replicate s.qs.length false⟩).cs) us (s.aq.getD (s.qs.getD x.toNat cX).a8.toNat pQ).p.sh (s.qs.getD x.toNat cX) dc eK J7 (mX.set x.toNat false) s.wy=r->r.ok=true->Jzz ⟨r.ak,r.bq,r.wl,r.wi⟩/\mu ⟨r.ak,r.bq,r.wl,r.wi⟩<mu ⟨dc,eK,x::J7,mX⟩)(w:World)(hT:o3 W0)(hlv:VV TX (Kz (Kw W0) L0) ids tl s.aq)(hZ:kR (BE fr) ids f tl Zf)(Jh:ZA (Kz (Kw W0) L0) s.qs)(hZn:wC n m s lg tm Zf L0 Z)(hH:Hp W0 w Z):Calls Tryz.prog 15 #[pt n] w (jW fun u w'=>(s.sk=true/\u=B false/\∃Z',wC n m s lg tm Zf L0 Z'/\Hp W0 w' Z')\/(s.sk=false/\∃(us:List jY) (ok:Bool) (c:yU) (T4:BitVec 64) (a:Nat) (s':NP) (new:List (Value×my)) (L1 Z' Zf':List bu) (f':Ct),qf us=s.us/\u=B ok/\SpR (bB (sU s.cs us s.aq s.a8 s.qs s.sn s.ak.length ⟨s.ak,s.bq,[],List.replicate s.qs.length false⟩).cs) us s.aq s.qs c ok s.wy T4/\Jzz c/\a+mu c<=mu (VZ (sU s.cs us s.aq s.a8 s.qs s.sn s.ak.length ⟨s.ak,s.bq,[],List.replicate s.qs.length false⟩).s s.sn s.qs.length)+(if ok then 0 else 1)/\s'=(if ok then(NP.mk s.aq s.a8 c.ak c.bq s.us s.qs s.qs.length (sU s.cs us s.aq s.a8 s.qs s.sn s.ak.length ⟨s.ak,s.bq,[],List.replicate s.qs.length false⟩).cs s.sk s.wy s.wr)else{s with sk:=true,wy:=T4})/\(∀x∈new,nh NX n L1 x)/\new.length<=1001*s.ak.length+1000*a+1/\iN new s s'/\(∀b o,bu.blk b o∈L0->bu.blk b o∈L1)/\kR (BE fr) ids f' tl Zf'/\pT f f' a a (a+(sU s.cs us s.aq s.a8 s.qs s.sn s.ak.length ⟨s.ak,s.bq,[],List.replicate s.qs.length false⟩).j)/\wC n (m+s.ak.length) s' (lg++new) (tm++[(lg.length:Int)]) Zf' L1 Z'/\Hp W0 w' Z')):=by
 refine enter func15 rfl ntmps15 rfl ?_
 obtain⟨F1,L2,Bu,OF,rfl⟩:=hZn
 have bY:=hH
 simp only[NZ,nE]at bY
 have jN:=Hp.mL (A:=[_,_,_,_,_,_,_,_,_,_,_,_]) (B:=F1.us.map (dQ 3)) (R:=Zf) bY
 simp only[gA,eN]at jN
 refine SR<|gM jN (v:=Pn _ _) rfl<|fun b9 w7 eX=>va (v:=B false) rfl<|aa<|ai<|SR<| ?_
 obtain⟨R1,W9⟩:∃R1:List bu,R1=[bu.blk b9 (.cells #[pt n] 31 (0,0))]++(F1.us.map (dQ 3)++L2):=⟨_,rfl⟩
 have cg:=Hp.mL (A:=[_,_,_,_,_,_,_,_,_,_,_,_]) (B:=[bu.blk b9 (.cells #[pt n] 31 (0,0))]) (R:=Zf) (eX.pj [1,1,1,1,1,1,1,1,1,1,1,1])
 rw[<-W9]at cg
 simp only[gA,eN]at cg
 have aeZ:bu.blk b9 (.cells #[pt n] 31 (0,0))∈R1:=by rw[W9];simp
 have hle:Le (Kz (Kw W0) L0) (Kz (Kw W0) R1):=Le.zb fun b o h=>by rw[W9];exact bH _ (bH _ (OF b o h))
 have aeY:=hlv.mono hle
 have aou:=Jh.mono hle
 have OD:=Bu.fo.mono (L':=R1) fun e he=>by rw[W9];exact bH _ (bH _ he)
 refine V (aG di O O (cg.pq ((fun x hx=>(mT (mT (mT (mT (mT (mT (mT (mT (mT (mT (mT (mT (bH _ hx)))))))))))))) _ aeZ) (v:=Pn _ _) O))<|aH O cg (oW _ (cg.blk (i:=0) O)) (ay call40 O)<|fun y8 bX=>V (bJ O)<|aa<|bW O (fun yj=> ?_) (fun yj=> ?_)
 .refine SR<|va (v:=B false) rfl<|aa<|aj<|have ep:=(bX);?_
  subst W9
  exact jy (v:=B false) O O (.inl ⟨kp,rfl,_,⟨F1,[]++([bu.blk b9 (.cells #[pt n] 31 (0,0))]++L2),⟨Bu.fo.mono fun e he=>bH _ (bH _ he),Bu.us⟩,fun b o h=>bH _ (bH _ (OF b o h)),rfl⟩,Hp.ZH (A:=[_,_,_,_,_,_,_,_,_,_,_,_]) (Lb:=[]) (E:=[bu.blk b9 (.cells #[pt n] 31 (0,0))]) ep⟩)
 refine an<|SR<|V (aG di O O (bX.pq ((fun x hx=>(mT (mT (mT (mT (mT (mT (mT (mT (mT (mT (mT (mT (bH _ hx)))))))))))))) _ aeZ) (v:=Pn _ _) O))<|cw O (p6 J _ bX) (ay call41 O)<| ?_
 rintro _ ZZ ⟨rfl,v22,fI⟩
 simp only[nE]at fI
 refine aa<|SR<|V (aG di O O (fI.pq ((fun x hx=>(mT (mT (mT (mT (mT (mT (mT (mT (mT (mT (mT (mT (bH _ hx)))))))))))))) _ aeZ) (v:=Pn _ _) O))<|V (af O)<|V (fA cr 14 O kg O)<|lV hG fI 0 O O rfl<|V (aC (fI.sl (i:=10) O) O hG O)<|aI rfl<|aa<|ai<|SR<|V (aG di O O (fI.pq ((fun x hx=>(mT (mT (mT (mT (mT (mT (mT (mT (mT (mT (mT (mT (bH _ hx)))))))))))))) _ aeZ) (v:=Pn _ _) O))<|have Kn:∀k:Nat,k<F1.us.length->dQ 3 (F1.us.getD k de)∈R1/\(F1.us.getD k de).l.length<=1000/\∀i∈(F1.us.getD k de).l,0<=i/\i<(s.qs.length:Int):=(fun k hk=>by rw[W9];exact⟨bH _ (V1 hok Bu.us (L:=[]) k hk|>.1|>fun q=>by rw[mY]at q;exact dL _ q),(V1 hok Bu.us (t:=0) (L:=[]) k hk).2⟩);have aoj:F1.us.length=s.ak.length:=(by rw[<-gz,Bu.us];exact hok.OQ);?_
 obtain⟨hJ0,hJ1,hJ2⟩:=hJ _ Bu.us
 refine cw O (Hq Jzz mu hm hok.T3 aoj hok.ov hok.Qw J Kn hf J hok.Xj hok.hqn hok.hqo hok.hlt hok.hlr hJ0 hJ2 _ hT aeY hZ aou OD fI) (ay call42 O) ?_
 rintro _ w43 ⟨aAT,ae0,aoF,a28,aAU,aAV,aAW,aAX,aAY,W50,aAZ,aA0,aA1,aA2,aA3,TM,Z32,f33,rfl,aoG,aA4,aA5,aqT,auN,aHs,Xb,aA6,aA7,qm⟩
 simp only[nE]at qm
 refine aa<|bW O (fun h55=> ?_) (fun h55=> ?_)
 .refine SR<|va (v:=B true) rfl<|aa<|aj<|have OV:s.sk=false:=kp;have hof:aAT=true:=lz;have ni:=(qm);?_
  subst hof
  subst W9
  simp only[uu]at ni Xb
  rw[Bu.us]at Xb
  have aHt:aoF=s.wy:=by rcases aoG with⟨_,_,q⟩|⟨q,_⟩;exact q;cases q
  rw[aHt]at ni Xb aoG
  refine jy (v:=B true) O O (.inr ⟨OV,F1.us,true,ae0,s.wy,a28,_,aA3,(TM++([bu.blk b9 (.cells #[pt n] 31 (0,0))]++L2)),_,Z32,f33,Bu.us,rfl,aoG,aA4,aA5,rfl,(fun x hx=>(auN x hx).1.mono fun e he=>dL _ he),aHs,Xb,(fun b o h=>bH _ (bH _ (OF b o h))),aA6,aA7,⟨{F1 with vW:=aAU,vU:=aAV,vT:=aAW,cW:=aAX,cU:=aAY,W:=W50,ul:=aAZ,ts:=aA0,cn:=aA1,vd:=aA2,vm:=v22},(TM++([bu.blk b9 (.cells #[pt n] 31 (0,0))]++L2)),⟨aqT.Ev fun b o h=>V2 h,Bu.us⟩,fun _ _ h=>h,rfl⟩,Hp.ZH (A:=[_,_,_,_,_,_,_,_,_,_,_,_]) ni⟩)
 refine an<|SR<|V (aG di O O (qm.pq ((fun x hx=>(mT (mT (mT (mT (mT (mT (mT (mT (mT (mT (mT (mT (bH _ (bH _ hx))))))))))))))) _ aeZ) (v:=Pn _ _) O))<|V (af O)<|V (fA cr 13 O cP O)<|V (aG dM O O (qm.cell (i:=0) O (v:=U _) O))<|aU rfl<|aa<|SR<|V (aG di O O (qm.pq ((fun x hx=>(mT (mT (mT (mT (mT (mT (mT (mT (mT (mT (mT (mT (bH _ (bH _ hx))))))))))))))) _ aeZ) (v:=Pn _ _) O))<|mI rfl<|have hof:aAT=false:=lz;have aaM:=(qm);?_
 subst hof
 subst W9
 simp only[uE,xU]at aaM Xb aA5
 have Qw:=hok.Qw
 rw[Bu.us]at Xb
 obtain⟨Zc,hZc,hHc⟩:∃Z,wC n (m+s.ak.length) (NP.mk s.aq s.a8 ae0.ak ae0.bq s.us s.qs s.sn (sU s.cs F1.us s.aq s.a8 s.qs s.sn s.ak.length ⟨s.ak,s.bq,[],List.replicate s.qs.length false⟩).cs s.sk aoF s.wr) (lg++aA3) (tm++[(lg.length:Int)]) Z32 (TM++([bu.blk b9 (.cells #[pt n] 31 (0,0))]++L2)) Z/\Hp W0 _ Z:=⟨_,⟨{F1 with vW:=aAU,vU:=aAV,vT:=aAW,cW:=aAX,cU:=aAY,W:=W50,ul:=aAZ,ts:=aA0,cn:=aA1,vd:=aA2,vm:=v22},(TM++([bu.blk b9 (.cells #[pt n] 31 (0,0))]++L2)),⟨aqT.Ev fun b o h=>V2 h,Bu.us⟩,fun _ _ h=>h,rfl⟩,Hp.ZH (A:=[_,_,_,_,_,_,_,_,_,_,_,_]) aaM⟩
 refine cw O (Jm (s:=(NP.mk s.aq s.a8 ae0.ak ae0.bq s.us s.qs s.sn (sU s.cs F1.us s.aq s.a8 s.qs s.sn s.ak.length ⟨s.ak,s.bq,[],List.replicate s.qs.length false⟩).cs s.sk aoF s.wr)) (R:=Z32) (L0:=(TM++([bu.blk b9 (.cells #[pt n] 31 (0,0))]++L2))) (Z:=Zc) (lg.length:Int) E9 E9 (by rw[eA,V0];exact Xb.ok) (fun s1 k h1 h2 hok=>aoD hm ((auN _ (abV h1 h2)).1.mono fun e he=>dL _ he) ((auN _ (abV h1 h2)).2 O) hok) _ hZc hHc) (aL call43 O O) ?_
 rintro _ w60 ⟨rfl,Z61,aA8,oV⟩
 rw[eA,V0,ve,Xb.und]at aA8
 obtain⟨F64,L65,aA9,aoH,rfl⟩:=aA8
 have kE:=oV
 simp only[NZ,nE]at kE
 refine aa<|ai<|fW (z:=⟨none,_,_,_,_,none⟩) aP O aP kE (sQ sR)<|fun w69 wA=>have Oq:=wA.sub (sQ sR);AT 0 O Oq (fun w hS=>aG di O O (hS.pq ((fun x hx=>(mT (mT (mT (mT (mT (mT (mT (mT (mT (mT (mT (bH _ (bH _ hx)))))))))))))) _ (aoH _ _ (show bu.blk b9 (.cells #[pt n] 31 (0,0))∈(TM++([bu.blk b9 (.cells #[pt n] 31 (0,0))]++L2))by simp))) (v:=Pn _ _) O))<|AT 1 O Oq (fun w hS=>aG di O O (hS.pq ((fun x hx=>(mT (mT (mT (mT (mT (mT (mT (mT (mT (mT (mT (bH _ (bH _ hx)))))))))))))) _ (aoH _ _ (show bu.blk b9 (.cells #[pt n] 31 (0,0))∈(TM++([bu.blk b9 (.cells #[pt n] 31 (0,0))]++L2))by simp))) (v:=Pn _ _) O))<|AQ 2 O Oq (mV (U _) O)<|AQ 3 O Oq (af O)<|AQ 4 O Oq (fA cr 12 O oh O)<|A1 5<|ed O aD wA (j:=0) O (sQ sR) (bL O O (v:=B true) O O O (wA.blk (i:=0) O) aJ)<|fun w73 wS=> ?_
 simp only[jg,kW,nW,gN,Nat.reduceAdd]at wS
 refine AQ 6 O (wS.sub (sQ sR)) (af O)<|AQ 7 O (wS.sub (sQ sR)) (fA cr 13 O cP O)<|AD<|bg wS (i:=0) O (bL O O (v:=U _) O O O (wS.blk (i:=0) O) aJ)<|fun w75 oG=> ?_
 simp only[jg,kW,nW,gN,Nat.reduceAdd]at oG
 refine aa<|SR<|V (aG di O O (oG.pq ((fun x hx=>(mT (mT (mT (mT (mT (mT (mT (mT (mT (mT (mT (mT (bH _ (bH _ hx))))))))))))))) _ (aoH _ _ (show bu.blk b9 (.cells #[pt n] 31 (0,0))∈(TM++([bu.blk b9 (.cells #[pt n] 31 (0,0))]++L2))by simp))) (v:=Pn _ _) O))<| ?_
 refine V (Cu bA) ?_
 refine cw O (iL _ _ .stuck J _ oG) (aL zI O O) ?_
 rintro _ w79 ⟨rfl,v81,pA⟩
 simp only[nE]at pA
 refine aa<|SR<|va (v:=B false) rfl<|aa<|aj<|have OV:s.sk=false:=kp;have oT:=(pA);jy (v:=B false) O O (.inr ⟨OV,F1.us,false,ae0,aoF,a28,_,[((jL 45 #[pt b9]),.stuck)],(TM++([bu.blk b9 (.cells #[pt n] 31 (0,0))]++L2)),_,Z32,f33,Bu.us,rfl,aoG,aA4,iX,rfl,(fun x hx=>by rw[gG.1 hx];exact⟨_,rfl,aJ⟩),(by rw[ez];omega),ZI OV (hwy OV),(fun b o h=>bH _ (bH _ (OF b o h))),aA6,aA7,⟨{F64 with vd:=v81,vm:=F64.vm},L65,⟨aA9.fo,aA9.us⟩,aoH,rfl⟩,oT⟩)
theorem OH(x:Value)(hx:x.cells=#[x])(w:World):Calls Tryz.prog 36 #[x] w (jW fun u w'=>∃(n:Nat) (Z:List bu),u=pt n/\Hp w w' Z/\wC n 0 (NP.mk [] [] [] [] [] [] 0 [[]] false 0 x) [] [] [] [] Z):=by
 refine eH func36 rfl rfl fun hH=>SR<|va (v:= .pointer none) rfl<|aa<|SR<|V (run_move (show _=x from O))<|V (dJ (vs:=[(0,x)]) O (aeT hx))<|gM hH (v:= .agg _) rfl<|fun b3 w1 bp=>va (v:=Pn _ _) rfl<|aa<|aj<|have hN:=(((((((((((bp.eR 3 1).eR 1 1).eR 128 13).eR 99 1).eR 35 1).eR 37 8).eR 3 1).eR 119 13).eR 3 1).eR 1 1).eR 35 1);jy O (v:=pt b3) O ⟨b3,_,rfl,hN.perm (tZ (l₁:=[_,_,_,_,_,_,_,_,_,_,_]) (l₂:=[_])),⟨.slice none 0 0,.slice none 0 0,.slice none 0 0,.slice none 0 0,.slice none 0 0,.slice none 0 0,.slice none 0 0,.slice none 0 0,.slice none 0 0,0,.slice none 0 0,.slice none 0 0,none,none,[],[],[],[]⟩,[],⟨⟨⟨[],rfl,trivial,trivial,⟨rfl,rfl,rfl⟩,trivial,(fun x hx=>by cases hx),eU _,eU _⟩,rfl⟩,rfl⟩,(fun b o h=>mJ),rfl⟩
theorem OI{s:NP}{L0 Z:List bu}{ids:List Nat}{tl:List (Nat×Rl)}{f:Ct}{Zf:List bu}(p:kP)(hfn:p.aY.length<=1000)(hnn:∀f∈p.aY,f.names.length<=1000)(hll:s.aq.length<=1000)(hlg:lg.length<=550000000000)(htm:tm.length<=100000000)(hwr:WrF s.wr ids)(w:World)(hT:o3 W0)(hsh:k7 (Kz (Kw W0) L0) p)(hZ:kR (BE fr) ids f tl Zf)(hZn:wC n m s lg tm Zf L0 Z)(hH:Hp W0 w Z):Calls Tryz.prog 19 #[pt n,.agg (qJ p)] w (jW fun u w'=>((s.sk=true\/mC p.sh=false)/\u=I (-1)/\∃Z',wC n m s lg tm Zf L0 Z'/\Hp W0 w' Z')\/(s.sk=false/\∃(x:pO) (fv:Value) (QB:List (Nat×Rl)) (L1 Z' Zf':List bu),mC p.sh=true/\u=I s.aq.length/\x.p.sh=p.sh/\x.low=gI p.sh ew/\WrD s.wr x.d/\(∀b o,bu.blk b o∈L0->bu.blk b o∈L1)/\Xl TX (Kz (Kw W0) L1) ids (tl++QB) x/\nh NX n L1 (fv,.a8 s.aq.length)/\kR (BE fr) ids f (tl++QB) Zf'/\iN [(fv,.a8 s.aq.length)] s {s with aq:=s.aq++[x]}/\wC n m {s with aq:=s.aq++[x]} (lg++[(fv,.a8 s.aq.length)]) (tm++[(lg.length:Int)]) Zf' L1 Z'/\Hp W0 w' Z')):=by
 refine enter func19 rfl ntmps19 rfl ?_
 obtain⟨F1,L2,Bu,OF,rfl⟩:=hZn
 have bY:=hH
 simp only[NZ,nE]at bY
 have jN:=Hp.mL (A:=[_,_,_,_,_,_,_,_,_,_,_,_]) (B:=F1.us.map (dQ 3)) (R:=Zf) bY
 simp only[gA,eN]at jN
 have aBa:=hsh.mono (Le.zb (K:=Kw W0) OF)
 refine SR<|gM jN (v:=Pn _ _) rfl<|fun b9 w7 eX=>gM eX (v:= .agg _) rfl<|fun b12 EB df=>va (v:=I 0) rfl<|aa<|ai<|SR<|lP di df 1 O O rfl<|aH O df (oW _ (df.blk (i:=2) O)) (ay call40 O)<|fun C0 cG=>V (bJ O)<|mB rfl<|eF 11 O (fun G5=> ?_) (fun G5=> ?_)
 .refine aE (v:=B true) rfl<|aa<|cA rfl<|SR<|va (v:=I (-1)) rfl<|aa<|aj<|jy (v:=I (-1)) O O (.inl ⟨kp,rfl,_,⟨F1,L2,Bu,OF,rfl⟩,Hp.mL (A:=[_,_,_,_,_,_,_,_,_,_,_,_]) (cG.sub (sQ (sQ sR)))⟩)
 refine V (cF (cs:=[B _,_]) dm O O O (bj (cG.blk (i:=0) O)))<|aH O cG (yt p _ (aBa.mono (cG.kz (Le.refl _) (fun x hx=>(mT (mT (mT (mT (mT (mT (mT (mT (mT (mT (mT (mT (mT (mT (bH _ (bH _ hx))))))))))))))))))) (hT.hp cG)) (ay call50 O)<|fun K0 iD=>V (bJ O)<|mB rfl<|aa<|bW O (fun h22=> ?_) (fun h22=> ?_)
 .refine SR<|va (v:=I (-1)) rfl<|aa<|aj<|jy (v:=I (-1)) O O (.inl ⟨kp,rfl,_,⟨F1,L2,Bu,OF,rfl⟩,Hp.mL (A:=[_,_,_,_,_,_,_,_,_,_,_,_]) (iD.sub (sQ (sQ sR)))⟩)
 refine an<|SR<|lP di iD 1 O O rfl<|cw O (p6 J _ (iD.pj [2,2,2,2,2,2,2,2,2,2,2,2])) (ay call41 O)<| ?_
 rintro _ w25 ⟨rfl,v27,jf⟩
 simp only[nE]at jf
 have iJ:=jf.pk [12,12]
 refine aa<|SR<|V (cF (cs:=[B _,_]) dm O O O (bj (iJ.blk (i:=0) O)))<|tQ 1 1 iJ (ME Ru O O O (l:=[p]) O az az O)<|fun b31 w29 iV=>IA O iV (Bq (Kz (Kw W0) (F1.us.map (dQ 3)++L2)) (.slice (some ⟨b31,0,none⟩) 1 1) [p] (show 1<=1000 by decide) (by simpa using hfn) (by simpa using hnn) _ (iV.kz (Le.refl _) (fun x hx=>(mT (mT (mT (mT (mT (mT (mT (mT (mT (mT (mT (mT (mT (mT (mT (bH _ hx)))))))))))))))))) (Hp.iu MC iV (i:=0) (l:=[p]) O (show 1<=maxLen by decide)) ⟨fun x hx=>by rw[gG.1 hx];exact aBa.mono (Le.zz fun y hy=>bH _ hy)⟩) (ay call51 O)<|fun v34 w35 JT j4 aHu=>have kD:Hp _ w35 (_::_::_::_::_::_::_::_::_::_::_::_::_::_::_::(JT++(Zf++(F1.us.map (dQ 3)++L2)))):=j4.Iz (L:=[_,_,_,_,_,_,_,_,_,_,_,_,_,_,_]) (L':=(Zf++(F1.us.map (dQ 3)++L2)));have jS:Hp _ w35 (_::_::_::_::_::_::_::_::_::_::_::_::_::_::_::(Zf++(JT++(F1.us.map (dQ 3)++L2)))):=Hp.swz (A:=[_,_,_,_,_,_,_,_,_,_,_,_,_,_,_]) kD;?_
 obtain⟨sr,rfl,aqU,auO⟩:=aHu
 refine lJ jS (aS Tryz.zeroValue56)<|fun b47 w45 oa=>bg oa (i:=0) O (DI auO O O O (oa.blk (i:=0) O) O)<|fun w50 rY=> ?_
 simp only[z2,dx,pull]at rY
 refine aa<|SR<|V (fA dm 0 O oh O)<|V (aG uk O O (rY.cell (i:=2) O (v:=B _) O))<|V (fA dm 0 O oh O)<|bg (c':=#[B p.tuple,sr.fv]) rY (i:=0) O (bL (off:=0+0) O O (v:=B p.tuple) O O O (rY.blk (i:=0) O) aJ)<|fun w53 gQ=> ?_
 simp only[z2,dx,pull]at gQ
 have Xn:k7 (Kz (Kw W0) (JT++(F1.us.map (dQ 3)++L2))) (⟨p.tuple,sr.fv,sr.aY⟩:kP):=(show k7 _ (⟨p.tuple,sr.fv,sr.aY⟩:kP)from⟨auO.aY,auO.each⟩).mono Le.kk
 have hps:(⟨p.tuple,sr.fv,sr.aY⟩:kP).sh=p.sh:=by show(⟨p.tuple,sr.aY.map qw.fc⟩:Sh)=p.sh;rw[Qx aqU];rfl
 obtain⟨pf1,pf2⟩:=ant aqU hfn hnn
 refine aa<|Fq (G:=(Nat)×(List bu)×(List bu)×(pO)×(List (Nat×Rl))) gQ (6::(rg 24 6 [])) (fun(L:List bu) (⟨q6,Z1,Zq,x1,QB⟩:(Nat)×(List bu)×(List bu)×(pO)×(List (Nat×Rl)))=> .blk q6 (.cells (Xk x1).toArray 119 (0,0))::(L.take 16++(Z1++(Zq++(JT++(F1.us.map (dQ 3)++L2)))))) (fun(⟨q6,Z1,Zq,x1,QB⟩:(Nat)×(List bu)×(List bu)×(pO)×(List (Nat×Rl))) s'=>(s' 6= .pointer (some ⟨q6,0,none⟩))/\(kR (BE fr) ids f (tl++QB) Z1)/\((Xl TX (Kz (Kw W0) (Zq++(JT++(F1.us.map (dQ 3)++L2)))) ids (tl++QB) x1))/\(x1.p=(⟨p.tuple,sr.fv,sr.aY⟩:kP))/\(x1.d.dep=0)/\(x1.low=gI x1.p.sh ew)) ?_ ?_
 .refine fW (z:=⟨none,_,_,_,_,none⟩) aP O aP gQ (sP (sP (sP (sP (sP (sP (sP (sP (sP (sP (sP (sP (sP (sP (sP (sP (sA sR)))))))))))))))))<|fun w55 ni=>have auP:=ni.sub (sP (sP (sP (sP (sP (sP (sP (sP (sP (sP (sP (sP (sP (sP (sP (sP (sA sR)))))))))))))))));AT 0 O auP (fun w hS=>cF (cs:=[B _,_]) dm O O O (bj (hS.blk (i:=0) O)))<|AT 1 O auP (fun w hS=>cF (cs:=[B _,_]) dm O O O (bj (hS.blk (i:=0) O)))<|AT 3 O auP (fun w hS=>cF (cs:=[B _,_]) dm O O O (bj (hS.blk (i:=0) O)))<|gp 2 6 aP ?_ ?_
  .refine yc O aD O (Oo (Kz (Kw W0) (JT++(F1.us.map (dQ 3)++L2))) (⟨p.tuple,sr.fv,sr.aY⟩:kP) pf1 pf2 _ (ni.kz (Le.refl _) (fun x hx=>(mT (mT (mT (mT (mT (mT (mT (mT (mT (mT (mT (mT (mT (mT (mT (mT (bH _ hx))))))))))))))))))) Xn) (ay call52 O) (fun u w' ⟨_,_,_,_,_,_,_,_,_,_,_,_,_,_,_,_,_,h⟩=>(ni.call h.below).sub (sP (sP (sP (sP (sP (sP (sP (sP (sP (sP (sP (sP (sP (sP (sP (sP (sA sR)))))))))))))))))) ?_
   rintro _ w59 ⟨f1,f2,f3,a1,a2,a3,p60,ae1,akY,aQo,akZ,rfl,aBb,aBc,aqV,aqW,aBd,h70⟩
   obtain⟨Z71,aoI,uY⟩:∃Z,kR (BE fr) ids f (tl++akY) Z/\Hp _ _ (_::_::_::_::_::_::_::_::_::_::_::_::_::_::_::_::(Z++(akZ++(JT++(F1.us.map (dQ 3)++L2))))):=⟨_,hZ.app aBd,Hp.apv (A:=[_,_,_,_,_,_,_,_,_,_,_,_,_,_,_,_]) (Hp.Gm ni h70)⟩
   refine gp 4 6 aP ?_ ?_
   .refine ct O aD O uY (sP (sP (sP (sP (sP (sP (sP (sP (sP (sP (sP (sP (sP (sP (sP (sP (sA (sA sR)))))))))))))))))) (wx (⟨p.tuple,sr.fv,sr.aY⟩:kP) _ (Xn.mono (uY.kz (Le.refl _) (fun x hx=>(mT (mT (mT (mT (mT (mT (mT (mT (mT (mT (mT (mT (mT (mT (mT (mT (bH _ (bH _ hx))))))))))))))))))))) (hT.hp uY)) (ay call53 O)<|fun w74 uZ=>AQ 5 O (uZ.sub (sP (sP (sP (sP (sP (sP (sP (sP (sP (sP (sP (sP (sP (sP (sP (sP (sA (sA sR))))))))))))))))))) (dJ (vs:=[(0,.agg (qJ (⟨p.tuple,sr.fv,sr.aY⟩:kP))),(1,.agg #[jL f1 a1,jL f2 a2,jL f3 a3]),(2,.agg (iM (gI (⟨p.tuple,sr.fv,sr.aY⟩:kP).sh ew)))]) O (yw _ _ _ _ (.base p60 ae1) _))<|A1 6<|cH O aD O uZ (sP (sP (sP (sP (sP (sP (sP (sP (sP (sP (sP (sP (sP (sP (sP (sP (sA (sA sR)))))))))))))))))) (f:=fun b=> .pointer (some ⟨b,0,none⟩)) (aS Tryz.zeroValue119)<|fun b78 w76 TN=>AD<|have hlx:Xl TX (Kz (Kw W0) (akZ++(JT++(F1.us.map (dQ 3)++L2)))) ids (tl++akY) ⟨(⟨p.tuple,sr.fv,sr.aY⟩:kP),_,_,_,.base p60 ae1,gI (⟨p.tuple,sr.fv,sr.aY⟩:kP).sh ew⟩:=⟨aBb.mono Le.kk,⟨aqV,fun i hi q hq=>bH _ (aqW i hi q hq)⟩,aBc,Xn.mono (Le.zz fun x hx=>bH _ hx),nM _⟩;bg TN (i:=0) O (dO O O O (GR hlx) (TN.blk (i:=0) O) O)<|fun w79 pA=> ?_
    simp only[z2,dx,pull]at pA
    refine aa ?_
    refine⟨((Fr.refl _ _)).u4.u1.u1.u1,(b78,Z71,akZ,⟨(⟨p.tuple,sr.fv,sr.aY⟩:kP),_,_,_,.base p60 ae1,gI (⟨p.tuple,sr.fv,sr.aY⟩:kP).sh ew⟩,akY),(Hp.conv pA aM),rfl,?_,?_,aM,aM,aM⟩
    .exact aoI
    exact hlx
   refine cH O aD O uY (sP (sP (sP (sP (sP (sP (sP (sP (sP (sP (sP (sP (sP (sP (sP (sP (sA (sA sR)))))))))))))))))) (f:=fun b=> .pointer (some ⟨b,0,none⟩)) (aS Tryz.zeroValue119)<|fun b83 w81 oT=>A1 4<|ct O aD O oT (sQ (sP (sP (sP (sP (sP (sP (sP (sP (sP (sP (sP (sP (sP (sP (sP (sP (sA (sA sR))))))))))))))))))) (wx (⟨p.tuple,sr.fv,sr.aY⟩:kP) _ (Xn.mono (oT.kz (Le.refl _) (fun x hx=>(mT (mT (mT (mT (mT (mT (mT (mT (mT (mT (mT (mT (mT (mT (mT (mT (mT (bH _ (bH _ hx)))))))))))))))))))))) (hT.hp oT)) (ay call53 O)<|fun w84 WH=>AQ 5 O (WH.sub (sQ (sP (sP (sP (sP (sP (sP (sP (sP (sP (sP (sP (sP (sP (sP (sP (sP (sA (sA sR)))))))))))))))))))) (dJ (vs:=[(0,.agg (qJ (⟨p.tuple,sr.fv,sr.aY⟩:kP))),(1,.agg #[jL f1 a1,jL f2 a2,jL f3 a3]),(2,.agg (iM (gI (⟨p.tuple,sr.fv,sr.aY⟩:kP).sh ew)))]) O (yw _ _ _ _ (.base p60 ae1) _))<|AD<|have hlx:Xl TX (Kz (Kw W0) (akZ++(JT++(F1.us.map (dQ 3)++L2)))) ids (tl++akY) ⟨(⟨p.tuple,sr.fv,sr.aY⟩:kP),_,_,_,.base p60 ae1,gI (⟨p.tuple,sr.fv,sr.aY⟩:kP).sh ew⟩:=⟨aBb.mono Le.kk,⟨aqV,fun i hi q hq=>bH _ (aqW i hi q hq)⟩,aBc,Xn.mono (Le.zz fun x hx=>bH _ hx),nM _⟩;bg WH (i:=0) O (dO O O O (GR hlx) (WH.blk (i:=0) O) O)<|fun w86 WI=> ?_
   simp only[z2,dx,pull]at WI
   refine aa ?_
   refine⟨((Fr.refl _ _)).u4.u1.u1.u1,(b83,Z71,akZ,⟨(⟨p.tuple,sr.fv,sr.aY⟩:kP),_,_,_,.base p60 ae1,gI (⟨p.tuple,sr.fv,sr.aY⟩:kP).sh ew⟩,akY),(Hp.conv WI aM),rfl,?_,?_,aM,aM,aM⟩
   .exact aoI
   exact hlx
  refine cH O aD O ni (sP (sP (sP (sP (sP (sP (sP (sP (sP (sP (sP (sP (sP (sP (sP (sP (sA sR))))))))))))))))) (f:=fun b=> .pointer (some ⟨b,0,none⟩)) (aS Tryz.zeroValue119)<|fun b90 w88 Jc=>A1 2<|yc O aD O (Oo (Kz (Kw W0) (JT++(F1.us.map (dQ 3)++L2))) (⟨p.tuple,sr.fv,sr.aY⟩:kP) pf1 pf2 _ (Jc.kz (Le.refl _) (fun x hx=>(mT (mT (mT (mT (mT (mT (mT (mT (mT (mT (mT (mT (mT (mT (mT (mT (mT (bH _ hx)))))))))))))))))))) Xn) (ay call52 O) (fun u w' ⟨_,_,_,_,_,_,_,_,_,_,_,_,_,_,_,_,_,h⟩=>(Jc.call h.below).sub (sQ (sP (sP (sP (sP (sP (sP (sP (sP (sP (sP (sP (sP (sP (sP (sP (sP (sA sR)))))))))))))))))))<| ?_
  rintro _ w93 ⟨f1,f2,f3,a1,a2,a3,p94,auQ,auR,aQr,auS,rfl,aHw,aBe,auT,auU,auV,aHx⟩
  obtain⟨aHy,aBf,QX⟩:∃Z,kR (BE fr) ids f (tl++auR) Z/\Hp _ _ (_::_::_::_::_::_::_::_::_::_::_::_::_::_::_::_::_::(Z++(auS++(JT++(F1.us.map (dQ 3)++L2))))):=⟨_,hZ.app auV,Hp.apv (A:=[_,_,_,_,_,_,_,_,_,_,_,_,_,_,_,_,_]) (Hp.Gm Jc aHx)⟩
  refine A1 4<|ct O aD O QX (sQ (sP (sP (sP (sP (sP (sP (sP (sP (sP (sP (sP (sP (sP (sP (sP (sP (sA (sA sR))))))))))))))))))) (wx (⟨p.tuple,sr.fv,sr.aY⟩:kP) _ (Xn.mono (QX.kz (Le.refl _) (fun x hx=>(mT (mT (mT (mT (mT (mT (mT (mT (mT (mT (mT (mT (mT (mT (mT (mT (mT (bH _ (bH _ hx)))))))))))))))))))))) (hT.hp QX)) (ay call53 O)<|fun atD xB=>AQ 5 O (xB.sub (sQ (sP (sP (sP (sP (sP (sP (sP (sP (sP (sP (sP (sP (sP (sP (sP (sP (sA (sA sR)))))))))))))))))))) (dJ (vs:=[(0,.agg (qJ (⟨p.tuple,sr.fv,sr.aY⟩:kP))),(1,.agg #[jL f1 a1,jL f2 a2,jL f3 a3]),(2,.agg (iM (gI (⟨p.tuple,sr.fv,sr.aY⟩:kP).sh ew)))]) O (yw _ _ _ _ (.base p94 auQ) _))<|AD<|have hlx:Xl TX (Kz (Kw W0) (auS++(JT++(F1.us.map (dQ 3)++L2)))) ids (tl++auR) ⟨(⟨p.tuple,sr.fv,sr.aY⟩:kP),_,_,_,.base p94 auQ,gI (⟨p.tuple,sr.fv,sr.aY⟩:kP).sh ew⟩:=⟨aHw.mono Le.kk,⟨auT,fun i hi q hq=>bH _ (auU i hi q hq)⟩,aBe,Xn.mono (Le.zz fun x hx=>bH _ hx),nM _⟩;bg xB (i:=0) O (dO O O O (GR hlx) (xB.blk (i:=0) O) O)<|fun aE5 He=> ?_
  simp only[z2,dx,pull]at He
  refine aa ?_
  refine⟨((Fr.refl _ _)).u4.u1.u1.u1,(b90,aHy,auS,⟨(⟨p.tuple,sr.fv,sr.aY⟩:kP),_,_,_,.base p94 auQ,gI (⟨p.tuple,sr.fv,sr.aY⟩:kP).sh ew⟩,auR),(Hp.conv He aM),rfl,?_,?_,aM,aM,aM⟩
  .exact aBf
  exact hlx
 rintro⟨q6,Z1,Zq,x1,QB⟩ aLi aAd aBg wG ⟨TO,K4,hx1,hxp,hxd,UW⟩
 simp only[Hy,xK,gA,eN]at wG
 have uC:=aBg.w1 2
 refine ai<|SR<|V (aG di O uC (wG.cell (i:=4) O (v:=Pn _ _) O))<|V (af O)<|V (fA cr 0 O sizeOf74 O)<|lV underlying74 wG 5 O O rfl<|V (ael hwr.fn underlying74 O O)<|aa<|bW O (fun aue=> ?_) (fun aue=> ?_)
 .obtain⟨mwf,fwf,cwf,hwf,aHz,aHA,aHB⟩:=hwr.yes aQ
  refine fW (z:=⟨none,_,_,_,_,none⟩) aP O aP wG (sP (sP (sP (sP (sP (sP (sP (sP (sP (sP (sP (sP (sP (sP (sP (sP (sP (sA sR))))))))))))))))))<|fun auJ zi=>have Q4:=zi.sub (sP (sP (sP (sP (sP (sP (sP (sP (sP (sP (sP (sP (sP (sP (sP (sP (sP (sA sR))))))))))))))))));AT 0 O Q4 (fun w hS=>aG di O uC (hS.cell (i:=4) O (v:=Pn _ _) O))<|AQ 1 O Q4 (af O)<|AQ 2 O Q4 (fA cr 0 O sizeOf74 O)<|tV 3 O Q4 underlying74 5 O O rfl<|AQ 4 O Q4 (fA B9 2 O sizeOf117 TO)<|AT 5 O Q4 (fun w hS=>ja (sub:=[_,_,_]) qW O O O (hS.blk (i:=0) O) O)<|A1 6<|yc O aD O (aHB (Kz (Kw W0) (Zq++(JT++(F1.us.map (dQ 3)++L2)))) x1.d x1.e x1.l x1.j _ (zi.kz (Le.refl _) (fun x hx=>(mT (mT (mT (mT (mT (mT (mT (mT (mT (mT (mT (mT (mT (mT (mT (mT (mT (bH _ hx)))))))))))))))))))) hx1.ops) (lB aHA (cs:=cwf) (rfl.trans hwf) O) (fun u w' ⟨_,h,_⟩=>(zi.call h.below).sub (sP (sP (sP (sP (sP (sP (sP (sP (sP (sP (sP (sP (sP (sP (sP (sP (sP (sA sR)))))))))))))))))))<| ?_
  rintro _ aE7 ⟨OJ,akO,g1,g2,g3,c1,c2,c3,rfl,aBh⟩
  have EQ:Hp _ _ (_::_::_::_::_::_::_::_::_::_::_::_::_::_::_::_::_::(Z1++(OJ++(Zq++(JT++(F1.us.map (dQ 3)++L2)))))):=Hp.swz (A:=[_,_,_,_,_,_,_,_,_,_,_,_,_,_,_,_,_]) (Hp.Iz (L:=[_,_,_,_,_,_,_,_,_,_,_,_,_,_,_,_,_]) (L':=(Z1++(Zq++(JT++(F1.us.map (dQ 3)++L2))))) (Hp.Gm zi akO))
  have hx2:Xl TX (Kz (Kw W0) (OJ++(Zq++(JT++(F1.us.map (dQ 3)++L2))))) ids (tl++QB) ⟨x1.p,jL g1 c1,jL g2 c2,jL g3 c3,.wrap mwf x1.d,x1.low⟩:=⟨aBh.mono Le.kk,⟨aHz,hx1.Fg⟩,hx1.sh,hx1.yK.mono (Le.zz fun x hx=>bH _ hx),by show x1.d.dep+1<=1;omega⟩
  refine AQ 7 O (EQ.sub (sP (sP (sP (sP (sP (sP (sP (sP (sP (sP (sP (sP (sP (sP (sP (sP (sP (sA (sA sR)))))))))))))))))))) (fA B9 2 O sizeOf117 TO)<|AD<|bg EQ (i:=0) O (PW (sub:=[jL g1 c1,jL g2 c2,jL g3 c3]) (c':=Xk ⟨x1.p,jL g1 c1,jL g2 c2,jL g3 c3,.wrap mwf x1.d,x1.low⟩) O O O (by simp[Value.oneCell',jL]) (EQ.blk (i:=0) O) (by simp[rF]) O)<|fun aQu Xc=> ?_
  simp only[z2,dx,pull]at Xc
  refine aa<|SR<|V (aG di O uC (Xc.cell (i:=4) O (v:=Pn _ _) O))<|V (af O)<|V (fA cr 1 O ur O)<|lV oY Xc 5 O O rfl<|V (aC (Xc.sl (i:=9) O) O oY O)<|lJ Xc (aS Tryz.zeroValue3)<|fun aj3 aE8 QS=>bg QS (i:=0) O (bL O O (v:=I _) O O O (QS.blk (i:=0) O) az)<|fun auA Bs=> ?_
  simp only[z2,dx,pull]at Bs
  refine aa<|ai<|fW (z:=⟨none,_,_,_,_,none⟩) aP O aP Bs (sP (sP (sP (sP (sP (sP (sP (sP (sP (sP (sQ (sP (sP (sP (sP (sP (sP (sP (sA sR)))))))))))))))))))<|fun atO Df=>have zm:=Df.sub (sP (sP (sP (sP (sP (sP (sP (sP (sP (sP (sQ (sP (sP (sP (sP (sP (sP (sP (sA sR)))))))))))))))))));AT 0 O zm (fun w hS=>aG di O uC (hS.cell (i:=5) O (v:=Pn _ _) O))<|AT 1 O zm (fun w hS=>aG di O uC (hS.cell (i:=5) O (v:=Pn _ _) O))<|AQ 2 O zm (af O)<|AQ 3 O zm (fA cr 1 O ur O)<|tV 4 O zm oY 6 O O rfl<|AT 5 O zm (fun w hS=>cF (cs:=Xk _) B9 O O TO (bj (hS.blk (i:=1) O)))<|A1 6<|cH O aD O Df (sP (sP (sP (sP (sP (sP (sP (sP (sP (sP (sQ (sP (sP (sP (sP (sP (sP (sP (sA sR))))))))))))))))))) (f:=fun b=> .slice (some ⟨b,0,none⟩) 1 1) (ou rF oY O O O (l:=[⟨x1.p,jL g1 c1,jL g2 c2,jL g3 c3,.wrap mwf x1.d,x1.low⟩]) O az az O)<|fun aHC aHD Hj=>A1 7<|SS (a:=⟨x1.p,jL g1 c1,jL g2 c2,jL g3 c3,.wrap mwf x1.d,x1.low⟩) O aD rF az O Hj (i:=11) O (fun _=>(sQ (sP (sP (sP (sP (sP (sP (sP (sP (sP (sP (sQ (sP (sP (sP (sP (sP (sP (sP (sA sR))))))))))))))))))))) (Hp.iu rF Hj (i:=0) (l:=[⟨x1.p,jL g1 c1,jL g2 c2,jL g3 c3,.wrap mwf x1.d,x1.low⟩]) O gd) O O oY O O (bytes:=120) O O O (fun u hu=>GR hx2 u qZ) J az<|fun ak0 ae2 mq=> ?_
  simp only[z2,dx,pull]at mq
  refine AQ 8 O (mq.sub (sQ (sP (sP (sP (sP (sP (sP (sP (sP (sP (sP (sQ (sP (sP (sP (sP (sP (sP (sP (sA sR))))))))))))))))))))) (af O)<|AQ 9 O (mq.sub (sQ (sP (sP (sP (sP (sP (sP (sP (sP (sP (sP (sQ (sP (sP (sP (sP (sP (sP (sP (sA sR))))))))))))))))))))) (fA cr 1 O ur O)<|AD<|bg mq (i:=7) O (bL O O (v:=ak0) O (aZ (mq.get (i:=11) O)).1 (aZ (mq.get (i:=11) O)).2 (mq.blk (i:=7) O) aJ)<|fun atP xD=> ?_
  simp only[jg,kW,nW,gN,Nat.reduceAdd]at xD
  refine aa<|SR<|V (aG di O uC (xD.cell (i:=6) O (v:=Pn _ _) O))<| ?_
  refine V (s5 uC bA) ?_
  refine cw O (iL _ _ (.a8 s.aq.length) J _ (xD.pj [7,7,7,7,7,7,7,7,7,7,7,7])) (aL zI O O) ?_
  rintro _ aHE ⟨rfl,aHF,acI⟩
  simp only[nE]at acI
  have aqY:=acI.pk [12,12,12,12,12,12,12]
  refine aa<|SR<|lI bx aqY 1 O O rfl<|aI rfl<|aa<|aj<|have Hf:=Hp.mL (A:=[_,_,_,_,_,_,_,_,_,_,_,_]) (B:=[_,_]) (R:=Z1) ((aqY.sub (sQ (sP (sQ (sQ (sQ (sQ sR))))))).pj [2,2,2,2,2,2,2,2,2,2,2,2,1]);have hmv:∀b o,bu.blk b o∈(OJ++(Zq++(JT++(F1.us.map (dQ 3)++L2))))->bu.blk b o∈([bu.blk b9 (.cells #[pt n] 31 (0,0)),bu.blk aj3 (.cells #[I s.aq.length] 3 (0,0))]++(OJ++(Zq++(JT++L2)))):=(fun b o hb=>by have h2:=S2 (A:=OJ++Zq++JT) (gs:=F1.us) (t:=3) (B:=L2) (by simpa only[dG]using hb);simp only[dG]at h2;exact bH _ h2);jy (v:=I s.aq.length) O O (.inr ⟨kp,⟨x1.p,jL g1 c1,jL g2 c2,jL g3 c3,.wrap mwf x1.d,x1.low⟩,(jL 54 #[pt b9,pt aj3]),QB,([bu.blk b9 (.cells #[pt n] 31 (0,0)),bu.blk aj3 (.cells #[I s.aq.length] 3 (0,0))]++(OJ++(Zq++(JT++L2)))),_,Z1,kp,rfl,?_,?_,⟨fun q=>absurd (q.symm.trans ‹aiT s.wr=true›) K7,by show x1.d.dep+1<=1;omega⟩,(fun b o hb=>(fun e he=>bH _ (bH _ (bH _ (bH _ (he))))) _ (OF b o hb)),hx2.mono (Le.zb hmv),?_,K4,V3,⟨{F1 with vL:=ak0,vm:=v27,vd:=aHF},([bu.blk b9 (.cells #[pt n] 31 (0,0)),bu.blk aj3 (.cells #[I s.aq.length] 3 (0,0))]++(OJ++(Zq++(JT++L2)))),⟨Bu.fo.mono (fun e he=>bH _ (bH _ (bH _ (bH _ (he))))),Bu.us⟩,fun _ _ q=>q,rfl⟩,Hp.us4 (A:=[_,_,_,_,_,_,_,_,_,_,_,_]) Hf⟩)
  .show x1.p.sh=p.sh;rw[hxp];exact hps
  .show x1.low=_;rw[UW,hxp];exact aK (fun q=>gI q ew) hps
  exact⟨_,_,rfl,aJ,aJ⟩
 refine an<|SR<|V (aG di O uC (wG.cell (i:=4) O (v:=Pn _ _) O))<|V (af O)<|V (fA cr 1 O ur O)<|lV oY wG 5 O O rfl<|V (aC (wG.sl (i:=9) O) O oY O)<|lJ wG (aS Tryz.zeroValue3)<|fun aoJ aGF JP=>bg JP (i:=0) O (bL O O (v:=I _) O O O (JP.blk (i:=0) O) az)<|fun aFb JM=> ?_
 simp only[z2,dx,pull]at JM
 refine aa<|ai<|fW (z:=⟨none,_,_,_,_,none⟩) aP O aP JM (sP (sP (sP (sP (sP (sP (sP (sP (sP (sP (sQ (sP (sP (sP (sP (sP (sP (sP (sA sR)))))))))))))))))))<|fun aQv aqZ=>have Q5:=aqZ.sub (sP (sP (sP (sP (sP (sP (sP (sP (sP (sP (sQ (sP (sP (sP (sP (sP (sP (sP (sA sR)))))))))))))))))));AT 0 O Q5 (fun w hS=>aG di O uC (hS.cell (i:=5) O (v:=Pn _ _) O))<|AT 1 O Q5 (fun w hS=>aG di O uC (hS.cell (i:=5) O (v:=Pn _ _) O))<|AQ 2 O Q5 (af O)<|AQ 3 O Q5 (fA cr 1 O ur O)<|tV 4 O Q5 oY 6 O O rfl<|AT 5 O Q5 (fun w hS=>cF (cs:=Xk _) B9 O O TO (bj (hS.blk (i:=1) O)))<|A1 6<|cH O aD O aqZ (sP (sP (sP (sP (sP (sP (sP (sP (sP (sP (sQ (sP (sP (sP (sP (sP (sP (sP (sA sR))))))))))))))))))) (f:=fun b=> .slice (some ⟨b,0,none⟩) 1 1) (ou rF oY O O O (l:=[x1]) O az az O)<|fun aQw aQx aq0=>A1 7<|SS (a:=x1) O aD rF az O aq0 (i:=11) O (fun _=>(sQ (sP (sP (sP (sP (sP (sP (sP (sP (sP (sP (sQ (sP (sP (sP (sP (sP (sP (sP (sA sR))))))))))))))))))))) (Hp.iu rF aq0 (i:=0) (l:=[x1]) O gd) O O oY O O (bytes:=120) O O O (fun u hu=>GR hx1 u qZ) J az<|fun aBi aQy Ht=> ?_
 simp only[z2,dx,pull]at Ht
 refine AQ 8 O (Ht.sub (sQ (sP (sP (sP (sP (sP (sP (sP (sP (sP (sP (sQ (sP (sP (sP (sP (sP (sP (sP (sA sR))))))))))))))))))))) (af O)<|AQ 9 O (Ht.sub (sQ (sP (sP (sP (sP (sP (sP (sP (sP (sP (sP (sQ (sP (sP (sP (sP (sP (sP (sP (sA sR))))))))))))))))))))) (fA cr 1 O ur O)<|AD<|bg Ht (i:=7) O (bL O O (v:=aBi) O (aZ (Ht.get (i:=11) O)).1 (aZ (Ht.get (i:=11) O)).2 (Ht.blk (i:=7) O) aJ)<|fun aFd Ol=> ?_
 simp only[jg,kW,nW,gN,Nat.reduceAdd]at Ol
 refine aa<|SR<|V (aG di O uC (Ol.cell (i:=6) O (v:=Pn _ _) O))<| ?_
 refine V (s5 uC bA) ?_
 refine cw O (iL _ _ (.a8 s.aq.length) J _ (Ol.pj [7,7,7,7,7,7,7,7,7,7,7,7])) (aL zI O O) ?_
 rintro _ aQz ⟨rfl,v175,aq1⟩
 simp only[nE]at aq1
 have WX:=aq1.pk [12,12,12,12,12,12,12]
 refine aa<|SR<|lI bx WX 1 O O rfl<|aI rfl<|aa<|aj<|have aBj:=Hp.mL (A:=[_,_,_,_,_,_,_,_,_,_,_,_]) (B:=[_,_]) (R:=Z1) ((WX.sub (sQ (sP (sQ (sQ (sQ (sQ sR))))))).pj [2,2,2,2,2,2,2,2,2,2,2,2,1]);have hmv:∀b o,bu.blk b o∈(Zq++(JT++(F1.us.map (dQ 3)++L2)))->bu.blk b o∈([bu.blk b9 (.cells #[pt n] 31 (0,0)),bu.blk aoJ (.cells #[I s.aq.length] 3 (0,0))]++(Zq++(JT++L2))):=(fun b o hb=>by have h2:=S2 (A:=Zq++JT) (gs:=F1.us) (t:=3) (B:=L2) (by simpa only[dG]using hb);simp only[dG]at h2;exact bH _ h2);jy (v:=I s.aq.length) O O (.inr ⟨kp,x1,(jL 54 #[pt b9,pt aoJ]),QB,([bu.blk b9 (.cells #[pt n] 31 (0,0)),bu.blk aoJ (.cells #[I s.aq.length] 3 (0,0))]++(Zq++(JT++L2))),_,Z1,kp,rfl,?_,?_,⟨fun _=>hxd,J⟩,(fun b o hb=>(fun e he=>bH _ (bH _ (bH _ (he)))) _ (OF b o hb)),hx1.mono (Le.zb hmv),?_,K4,V3,⟨{F1 with vL:=aBi,vm:=v27,vd:=v175},([bu.blk b9 (.cells #[pt n] 31 (0,0)),bu.blk aoJ (.cells #[I s.aq.length] 3 (0,0))]++(Zq++(JT++L2))),⟨Bu.fo.mono (fun e he=>bH _ (bH _ (bH _ (he)))),Bu.us⟩,fun _ _ q=>q,rfl⟩,Hp.us3 (A:=[_,_,_,_,_,_,_,_,_,_,_,_]) aBj⟩)
 .show x1.p.sh=p.sh;rw[hxp];exact hps
 .show x1.low=_;rw[UW,hxp];exact aK (fun q=>gI q ew) hps
 exact⟨_,_,rfl,aJ,aJ⟩
theorem Ko(k:Int)(v:Value)(l:List dU)(t:iR)(w:World)(hb:w.heap[n]?=some (.cells #[wr,vL,vt,vv,vy,vu,vq,I sn,vW,vU,vT,I cn,B sk,U wy,vd,vm] 111 (0,0)))(hL:Sl w vL 13 aq.length (aq.flatMap Xk))(ht:Sl w vt 1 a8.length (a8.map I))(hc:Sl w v 10 l.length (l.flatMap j9))(hls:∀x∈aq,k7 (Kw w) x.p)(hT:o3 w):Calls Tryz.prog 56 #[pt n,I k,v,.agg (jG t).toArray] w (Pure (B (wO aq a8 k l t)) w):=by
 have hm3:=hc.small
 unfold maxLen at hm3
 refine eH func56 rfl rfl fun hH=>SR<|gM hH (v:= .agg _) rfl<|fun b3 w1 bp=>va (v:=B false) rfl<|aa<|ai<|SR<|mI rfl<|V (aN O O)<|mB rfl<|bM 14 O (fun h5=> ?_) (fun h5=> ?_)
 .refine aE (v:=B true) rfl<|mB rfl<|cC O rfl<|aE (v:=B true) rfl<|aa<|cA rfl<|SR<|va (v:=B false) rfl<|aa<|aj<|oB O ?_ bp
  exact(Np J).symm
 refine mI rfl<|aE (v:=Pn _ _) rfl<|V (af O)<|V (fA cr 1 O ur O)<|V (aG oY O O (bp.eP hb O))<|V (aC (hL.hp bp) O oY O)<|V (dF O O)<|mB rfl<|mB rfl<|bM 23 O (fun h7=> ?_) (fun h7=> ?_)
 .refine aE (v:=B true) rfl<|aa<|cA rfl<|SR<|va (v:=B false) rfl<|aa<|aj<|oB O ?_ bp
  exact(Np J).symm
 refine V (run_move bA) ?_
 refine aH O bp (G7 _ _ _ (hc.hp bp)) (ay call103 O)<|fun w8 iE=>V (bJ O)<|mB rfl<|aa<|bW O (fun h12=> ?_) (fun h12=> ?_)
 .refine SR<|va (v:=B false) rfl<|aa<|aj<|oB O ?_ iE
  exact(aiV (nt ‹(!fU _)=true›)).symm
 refine an<|SR<|aE (v:=Pn _ _) rfl<|V (af O)<|V (fA cr 1 O ur O)<|V (aG oY O O (iE.eP hb O))<|mI rfl<|V (ah (hL.hp iE) oY sizeOf119 O O J)<|V (fA B9 0 O uo O)<|V (kZ (dv:=pQ) (off:=0) (cs:=wK _) rF (hL.hp iE) dm O O O J (ahf O))<|lJ iE (aS Tryz.zeroValue56)<|fun b15 C0 cG=>have Ju:0<=k/\k<aq.length:=J;bg cG (i:=0) O (dO O O O (aiU (hls _ (dw Ju.1 Ju.2))) (cG.blk (i:=0) O) O)<|fun I4 ep=>aa<|ai<|SR<| ?_
 refine V (run_move bA) ?_
 refine V (aC (hc.hp ep) O ia O)<|aE (v:=I 0) rfl<|aa<|aA<|bt (G:=Int) (fun q s' w'=>(Fr (8::(11::(rg 38 28 []))) _ s')/\(Hp w w' _)/\(s' 38=I q)/\(0<=q)/\(q<=l.length)/\(∀j:Int,0<=j->j<q->FE aq a8 k (l.getD j.toNat bG)=true)) (fun q=>(l.length-q).toNat) (0) ⟨Fr.refl _ _,ep,rfl,J,J,fun j a b=>absurd b J⟩<| ?_
 rintro q an5 K0 ⟨rW,dP,Jp,h0,hq,hg⟩
 obtain⟨aq2,JK,ak1,ak2,auW,auX⟩:=rW.w6 0 1 7 9 36 37
 refine SR<|V (aN Jp auX)<|aa<|ai<|aF O (fun OT=> ?_) (fun OT=> ?_)
 .refine an<|ai<|aA<|SR<|V (ah (hc.hp dP) ia pg auW Jp J)<|V (dY (dv:=bG) gO (hc.hp dP) dX O O O J)<|lJ dP (aS yX)<|fun b23 NL cD=>bg cD (i:=0) O (dO (c':=(j9 _).toArray) O O O (vR _) (cD.blk (i:=0) O) O)<|fun Wv dK=>aa<|SR<|V (fA dX 0 O aO O)<|lI bx dK 0 O O rfl<|V (bU O O)<|mB rfl<|bM 45 O (fun rK=> ?_) (fun rK=> ?_)
  .refine aE aq2<|V (fA dX 1 O aO O)<|lI bx dK 0 O O rfl<|aE JK<|aH O dK (EN _ _ _ (dK.ext hb) (ht.hp dK)) (bz call104 O O O)<|fun w30 gT=>V (vx O)<|mB rfl<|mB rfl<|bM 53 O (fun BI=> ?_) (fun BI=> ?_)
   .refine gm O O rfl<|gm O O rfl<|gm O O rfl<|gm O O rfl<|gm O O rfl<|zO<|aE (v:=B true) rfl<|aa<|cA rfl<|SR<|va (v:=B false) rfl<|aa<|aj<|oB O ?_ gT
    exact(V4 h0 ‹q<_› (aiW ‹(List.getD l _ _).op=1› lz)).symm
   refine V (fA dX 0 O aO O)<|lI bx gT 0 O O rfl<|V (bU O O)<|mB rfl<|bM 57 O (fun h37=> ?_) (fun h37=> ?_)
   .refine V (cF (cs:=[B _,_]) dm O O ak2 (bj (gT.blk (i:=1) O)))<|V (fA dX 2 O fh O)<|V (nr bI O O O (gT.blk (i:=0) O) (DM _))<|aH O gT (AL _ _ _ ((hls _ (dw Ju.1 Ju.2)).mono gT.kw) (hT.hp gT)) (aL call105 O O)<|fun w38 kD=>V (bJ O)<|mB rfl<|mB rfl<|aa<|bW O (fun h42=> ?_) (fun h42=> ?_)
    .refine SR<|va (v:=B false) rfl<|aa<|aj<|oB O ?_ kD
     exact(Np J).symm
    refine an<|au<|V (ax Jp O J)<|mI rfl<|aa<| ?_
    refine⟨q+1,aW,rW.u4.u4.u4.u4.u4.u4.u4.u1,(kD.sub (sQ sR)),(aK I aM),J,J,?_⟩
    exact fun j a b=>if e:j=q then e▸CR aaW (by exact .inr (nf ‹(!cJ _ _)=false›))else hg j a J
   refine aE (v:=B false) rfl<|mB rfl<|aa<|cQ rfl<|an<|au<|V (ax Jp O J)<|mI rfl<|aa<| ?_
   refine⟨q+1,aW,rW.u4.u4.u4.u4.u4.u4.u4.u1,(gT.sub (sQ sR)),(aK I aM),J,J,?_⟩
   exact fun j a b=>if e:j=q then e▸CR aaW (by exact .inl ‹¬(List.getD l _ _).op=2›)else hg j a J
  refine aE (v:=B false) rfl<|mB rfl<|cC O rfl<|V (fA dX 0 O aO O)<|lI bx dK 0 O O rfl<|V (bU O O)<|mB rfl<|bM 57 O (fun h44=> ?_) (fun h44=> ?_)
  .refine V (cF (cs:=[B _,_]) dm O O ak2 (bj (dK.blk (i:=1) O)))<|V (fA dX 2 O fh O)<|V (nr bI O O O (dK.blk (i:=0) O) (DM _))<|aH O dK (AL _ _ _ ((hls _ (dw Ju.1 Ju.2)).mono dK.kw) (hT.hp dK)) (aL call105 O O)<|fun w45 oa=>V (bJ O)<|mB rfl<|mB rfl<|aa<|bW O (fun h49=> ?_) (fun h49=> ?_)
   .refine SR<|va (v:=B false) rfl<|aa<|aj<|oB O ?_ oa
    exact(V4 h0 ‹q<_› (aiX ‹(List.getD l _ _).op=2› (nt ‹(!cJ _ _)=true›))).symm
   refine an<|au<|V (ax Jp O J)<|mI rfl<|aa<| ?_
   refine⟨q+1,aW,rW.u4.u4.u4.u4.u4.u4.u4.u1,(oa.sub (sQ sR)),(aK I aM),J,J,?_⟩
   exact fun j a b=>if e:j=q then e▸CR aaU (by exact .inr (nf ‹(!cJ _ _)=false›))else hg j a J
  refine aE (v:=B false) rfl<|mB rfl<|aa<|cQ rfl<|an<|au<|V (ax Jp O J)<|mI rfl<|aa<| ?_
  refine⟨q+1,aW,rW.u4.u4.u4.u4.u4.u4.u4.u1,(dK.sub (sQ sR)),(aK I aM),J,J,?_⟩
  exact fun j a b=>if e:j=q then e▸CR aaU (by exact .inl ‹¬(List.getD l _ _).op=2›)else hg j a J
 refine a7 (id:=0) rfl<|ai<|SR<|V (fA kK 0 O aO ak1)<|lI bx dP 1 O O rfl<|V (aN O O)<|aa<|aF O (fun h51=> ?_) (fun h51=> ?_)
 .refine SR<|V (cF (cs:=[B _,_]) dm O O ak2 (bj (dP.blk (i:=0) O)))<|V (fA kK 1 O fh ak1)<|V (nr bI O O O (dP.blk (i:=1) O) (U9 _))<|aH O dP (AL _ _ _ ((hls _ (dw Ju.1 Ju.2)).mono dP.kw) (hT.hp dP)) (aL call105 O O)<|fun w52 jA=>aB rfl<|aa<|aj<|oB O ?_ jA
  (rw[Nq Ju (nf ‹(!fU _)=false›) ‹¬q<_› hg];((rw[anu ‹t.var<0›];rfl)))
 refine an<|SR<|aE aq2<|V (fA kK 0 O aO ak1)<|lI bx dP 1 O O rfl<|aE JK<|aH O dP (EN _ _ _ (dP.ext hb) (ht.hp dP)) (bz call104 O O O)<|fun w55 ni=>aB rfl<|aa<|aj<|oB O ?_ ni
 (rw[Nq Ju (nf ‹(!fU _)=false›) ‹¬q<_› hg];(rw[anv ‹¬t.var<0›]))
theorem OK{s:NP}{R L0 Z:List bu}(l:Int)(hm:m<=90000)(hok:D4 s)(hlg:lg.length<=550000000000)(htm:tm.length<=100000000)(w:World)(hZ:wC n m s lg tm R L0 Z)(hH:Hp W0 w Z):Calls Tryz.prog 18 #[pt n,I l] w (jW fun u w'=>(¬(s.sk=false/\0<=l/\l<s.aq.length)/\u=I (-1)/\∃Z',wC n m s lg tm R L0 Z'/\Hp W0 w' Z')\/(s.sk=false/\(0<=l/\l<s.aq.length)/\u=I s.ak.length/\∃(fv:Value) (L1 Z':List bu),(∀b o,bu.blk b o∈L0->bu.blk b o∈L1)/\nh NX n L1 (fv,.var s.ak.length ((s.cs.length:Int)-1))/\iN [(fv,.var s.ak.length ((s.cs.length:Int)-1))] s (qM s l (s.aq.getD l.toNat pQ).low)/\wC n (m+1) (qM s l (s.aq.getD l.toNat pQ).low) (lg++[(fv,.var s.ak.length ((s.cs.length:Int)-1))]) (tm++[(lg.length:Int)]) R L1 Z'/\Hp W0 w' Z')):=by
 have Qw:=hok.Qw
 have hlt:=hok.hlt
 have T3:=hok.T3
 have OQ:=hok.OQ
 have hgu:∀F:NF,qf F.us=s.us->F.us.length=s.us.length:=fun F e=>by rw[<-e,gz]
 refine enter func18 rfl ntmps18 rfl ?_
 obtain⟨F1,L2,Bu,OF,rfl⟩:=hZ
 have bY:=hH
 simp only[NZ,nE]at bY
 have jN:=bY
 rw[<-dG]at jN
 refine SR<|gM jN (v:=Pn _ _) rfl<|fun b9 w7 eX=>va (v:=I 0) rfl<|aa<|ai<|SR<|lP di eX 0 O O rfl<|aH O eX (oW _ (eX.blk (i:=1) O)) (ay call40 O)<|fun EB df=>V (bJ O)<|mB rfl<|eF 10 O (fun F4=> ?_) (fun F4=> ?_)
 .refine aE (v:=B true) rfl<|mB rfl<|cC O rfl<|aE (v:=B true) rfl<|aa<|cA rfl<|SR<|va (v:=I (-1)) rfl<|aa<|aj<|jy (v:=I (-1)) O O (.inl ⟨by simp_all;try omega,rfl,_,⟨F1,L2,Bu,OF,rfl⟩,by rw[dG]at*;exact(df.sub (sQ sR))⟩)
 refine mI rfl<|V (aN O O)<|mB rfl<|mB rfl<|bM 14 O (fun yj=> ?_) (fun yj=> ?_)
 .refine aE (v:=B true) rfl<|aa<|cA rfl<|SR<|va (v:=I (-1)) rfl<|aa<|aj<|jy (v:=I (-1)) O O (.inl ⟨by simp_all;try omega,rfl,_,⟨F1,L2,Bu,OF,rfl⟩,by rw[dG]at*;exact(df.sub (sQ sR))⟩)
 refine mI rfl<|lP di df 0 O O rfl<|V (af O)<|V (fA cr 1 O ur O)<|lV oY df 1 O O rfl<|V (aC (df.sl (i:=5) O) O oY O)<|V (dF O O)<|mB rfl<|aa<|aF O (fun qk=> ?_) (fun qk=> ?_)
 .refine SR<|va (v:=I (-1)) rfl<|aa<|aj<|jy (v:=I (-1)) O O (.inl ⟨by simp_all;try omega,rfl,_,⟨F1,L2,Bu,OF,rfl⟩,by rw[dG]at*;exact(df.sub (sQ sR))⟩)
 refine an<|SR<|lP di df 0 O O rfl<|cw O (p6 J _ (df.pj [1,1,1,1,1,1,1,1,1,1,1,1])) (ay call41 O)<| ?_
 rintro _ NL ⟨rfl,v23,cD⟩
 simp only[nE]at cD
 have gY:=cD.pk [12]
 refine aa<|SR<|lP di gY 0 O O rfl<|V (af O)<|V (fA cr 3 O jm O)<|lV bV gY 1 O O rfl<|V (aC (gY.sl (i:=7) O) O bV O)<|lJ gY (aS Tryz.zeroValue3)<|fun b27 w25 jf=>bg jf (i:=0) O (bL O O (v:=I _) O O O (jf.blk (i:=0) O) az)<|fun w30 gT=>aa<|ai<|fW (z:=⟨none,_,_,_,_,none⟩) aP O aP gT (sP (sP (sP (sP (sP (sP (sP (sQ sR))))))))<|fun w32 ke=>have OA:=ke.sub (sP (sP (sP (sP (sP (sP (sP (sQ sR))))))));tP 0 O OA di 1 O O rfl<|tP 1 O OA di 1 O O rfl<|AQ 2 O OA (af O)<|AQ 3 O OA (fA cr 2 O dH O)<|tV 4 O OA bD 2 O O rfl<|AQ 5 O OA (mV (I _) O)<|A1 6<|cH O aD O ke (sP (sP (sP (sP (sP (sP (sP (sQ sR)))))))) (f:=fun b=> .slice (some ⟨b,0,none⟩) 1 1) (cB bD O O (sz:=1) (vs:=[I _]) O O az az O O)<|fun b36 w34 uX=> ?_
 (try simp only[lf]at uX)
 refine A1 7<|SQ O aD O uX (i:=8) O (fun _=>(sQ (sP (sP (sP (sP (sP (sP (sP (sQ sR)))))))))) (uX.dR (i:=0) (n:=1) (sz:=1) O O az) O O bD O O (bytes:=8) O O O O J az<|fun v39 w40 jS=>AQ 8 O (jS.sub (sQ (sP (sP (sP (sP (sP (sP (sP (sQ sR)))))))))) (af O)<|AQ 9 O (jS.sub (sQ (sP (sP (sP (sP (sP (sP (sP (sQ sR)))))))))) (fA cr 2 O dH O)<|AD<|bg jS (i:=3) O (bL O O (v:=v39) O (aZ (jS.get (i:=8) O)).1 (aZ (jS.get (i:=8) O)).2 (jS.blk (i:=3) O) aJ)<|fun w42 mj=> ?_
 simp only[jg,kW,nW,gN,Nat.reduceAdd]at mj
 refine aa<|ai<|fW (z:=⟨none,_,_,_,_,none⟩) aP O aP mj (sP (sP (sP (sP (sP (sP (sP (sP (sP (sQ sR))))))))))<|fun w44 rZ=>have Jq:=rZ.sub (sP (sP (sP (sP (sP (sP (sP (sP (sP (sQ sR))))))))));tP 0 O Jq di 2 O O rfl<|tP 1 O Jq di 2 O O rfl<|AQ 2 O Jq (af O)<|AQ 3 O Jq (fA cr 3 O jm O)<|tV 4 O Jq bV 3 O O rfl<|tP 5 O Jq di 2 O O rfl<|AQ 6 O Jq (af O)<|AQ 7 O Jq (fA cr 1 O ur O)<|tV 8 O Jq oY 3 O O rfl<|AQ 9 O Jq (mV (I _) O)<|AT 10 O Jq (fun w hS=>ah (hS.sl (i:=7) O) oY sizeOf119 O O J)<|AQ 11 O Jq (fA B9 5 O fh O)<|AT 12 O Jq (fun w hS=>adM (dv:=pQ) (off:=5) rF (hS.sl (i:=7) O) bI O O O J (asJ _))<|A1 13<|cH O aD O rZ (sP (sP (sP (sP (sP (sP (sP (sP (sP (sQ sR)))))))))) (f:=fun b=> .slice (some ⟨b,0,none⟩) 1 1) (fY bV O O O O)<|fun b48 w46 oS=> ?_
 (try simp only[lf]at oS)
 refine A1 14<|SS (a:=(s.aq.getD l.toNat pQ).low) O aD cY az O oS (i:=10) O (fun _=>(sQ (sP (sP (sP (sP (sP (sP (sP (sP (sP (sQ sR)))))))))))) (Hp.iu cY oS (i:=0) (l:=[_]) O gd) O O bV O O (bytes:=64) O O O (fun u hu=>uS _ u qZ) J az<|fun v51 w52 jA=>AQ 15 O (jA.sub (sQ (sP (sP (sP (sP (sP (sP (sP (sP (sP (sQ sR)))))))))))) (af O)<|AQ 16 O (jA.sub (sQ (sP (sP (sP (sP (sP (sP (sP (sP (sP (sQ sR)))))))))))) (fA cr 3 O jm O)<|AD<|bg jA (i:=4) O (bL O O (v:=v51) O (aZ (jA.get (i:=10) O)).1 (aZ (jA.get (i:=10) O)).2 (jA.blk (i:=4) O) aJ)<|fun w54 jz=> ?_
 simp only[jg,kW,nW,gN,Nat.reduceAdd]at jz
 refine aa<|ai<|fW (z:=⟨none,_,_,_,_,none⟩) aP O aP jz (sP (sP (sP (sP (sP (sP (sP (sP (sP (sP (sP (sQ sR))))))))))))<|fun w56 aaM=>have ak3:=aaM.sub (sP (sP (sP (sP (sP (sP (sP (sP (sP (sP (sP (sQ sR))))))))))));tP 0 O ak3 di 3 O O rfl<|tP 1 O ak3 di 3 O O rfl<|AQ 2 O ak3 (af O)<|AQ 3 O ak3 (fA cr 4 O jB O)<|tV 4 O ak3 dh 4 O O rfl<|A1 5<|cH O aD O aaM (sP (sP (sP (sP (sP (sP (sP (sP (sP (sP (sP (sQ sR)))))))))))) (f:=fun b=> .slice (some ⟨b,0,none⟩) 1 1) (cB dh O O (sz:=1) (vs:=[U 0#64]) O O az az O O)<|fun b60 w58 BR=> ?_
 (try simp only[lf]at BR)
 refine A1 6<|SQ O aD O BR (i:=12) O (fun _=>(sQ (sP (sP (sP (sP (sP (sP (sP (sP (sP (sP (sP (sQ sR)))))))))))))) (BR.dR (i:=0) (n:=1) (sz:=1) O O az) O O dh O O (bytes:=8) O O O O J az<|fun v63 w64 wP=>AQ 7 O (wP.sub (sQ (sP (sP (sP (sP (sP (sP (sP (sP (sP (sP (sP (sQ sR)))))))))))))) (af O)<|AQ 8 O (wP.sub (sQ (sP (sP (sP (sP (sP (sP (sP (sP (sP (sP (sP (sQ sR)))))))))))))) (fA cr 4 O jB O)<|AD<|bg wP (i:=5) O (bL O O (v:=v63) O (aZ (wP.get (i:=12) O)).1 (aZ (wP.get (i:=12) O)).2 (wP.blk (i:=5) O) aJ)<|fun w66 TL=> ?_
 simp only[jg,kW,nW,gN,Nat.reduceAdd]at TL
 refine aa<|ai<|fW (z:=⟨none,_,_,_,_,none⟩) aP O aP TL (sP (sP (sP (sP (sP (sP (sP (sP (sP (sP (sP (sP (sP (sQ sR))))))))))))))<|fun w68 Hi=>have ak4:=Hi.sub (sP (sP (sP (sP (sP (sP (sP (sP (sP (sP (sP (sP (sP (sQ sR))))))))))))));tP 0 O ak4 di 4 O O rfl<|tP 1 O ak4 di 4 O O rfl<|AQ 2 O ak4 (af O)<|AQ 3 O ak4 (fA cr 5 O zG O)<|tV 4 O ak4 pD 5 O O rfl<|A1 5<|cH O aD O Hi (sP (sP (sP (sP (sP (sP (sP (sP (sP (sP (sP (sP (sP (sQ sR)))))))))))))) (f:=fun b=> .slice (some ⟨b,0,none⟩) 1 1) (cB pD O O (sz:=1) (vs:=[.slice none 0 0]) O O az az O O)<|fun b72 w70 aaw=> ?_
 (try simp only[lf]at aaw)
 refine A1 6<|SQ (a:=de) O aD O aaw (i:=14) O (fun _=>(sQ (sP (sP (sP (sP (sP (sP (sP (sP (sP (sP (sP (sP (sP (sQ sR)))))))))))))))) (aaw.dR (i:=0) (n:=1) (sz:=1) O O az) O O pD O O (bytes:=24) O O O O (by have:=hgu _ ‹azo _ _ _ _ _›.us;omega) az<|fun v75 w76 TN=>AQ 7 O (TN.sub (sQ (sP (sP (sP (sP (sP (sP (sP (sP (sP (sP (sP (sP (sP (sQ sR)))))))))))))))) (af O)<|AQ 8 O (TN.sub (sQ (sP (sP (sP (sP (sP (sP (sP (sP (sP (sP (sP (sP (sP (sQ sR)))))))))))))))) (fA cr 5 O zG O)<|AD<|bg TN (i:=6) O (bL O O (v:=v75) O (aZ (TN.get (i:=14) O)).1 (aZ (TN.get (i:=14) O)).2 (TN.blk (i:=6) O) aJ)<|fun w78 Jr=> ?_
 simp only[jg,kW,nW,gN,Nat.reduceAdd]at Jr
 refine aa<|SR<|lP di Jr 5 O O rfl<|V (af O)<|V (fA cr 8 O pc O)<|aH O Jr (akz Bu.fo J (Jr.blk (i:=6) O) (Jr.yQ (i:=7) O Bu.fo.hW) (Jr.sl (i:=9) O)) (ay call46 O)<|fun w80 aoK=>lJ aoK (aS Tryz.zeroValue3)<|fun b84 w82 ak5=>bg ak5 (i:=0) O (bL O O (v:=I _) O O O (ak5.blk (i:=0) O) az)<|fun w87 ze=>aa<|SR<|lP di ze 6 O O rfl<|V (af O)<|V (fA cr 8 O pc O)<|cw O (azn Bu.fo J (R:=([_,_,_,_,_,_,_,_,_,_,_,_,_,_,_]++(F1.us.map (dQ 3)++R))) (ze.pj [7,7,7,7])) (ay call47 O)<| ?_
 rintro _ aAD ⟨rfl,aHH,aHI,aHJ,aHK,aHL,W96,aHM,aHN,aHO,akw,auY,OE⟩
 have EP:=Hp.mL (A:=[_,_,_,_]) (R:=([_,_,_,_,_,_,_,_,_,_,_,_,_,_,_]++(F1.us.map (dQ 3)++R))) OE
 simp only[gA,eN]at EP
 have nj:=EP.pk [4,4,4,4,4,4,4]
 refine aa<|SR<|lP di nj 6 O O rfl<| ?_
 refine V (LS bA bA bA) ?_
 refine cw O (iL _ _ (.var s.ak.length ((s.cs.length:Int)-1)) J _ (nj.pj [7,7,7,7,7,7,7,7,7,7,7,7])) (aL zI O O) ?_
 rintro _ aF3 ⟨rfl,aHP,QV⟩
 simp only[nE]at QV
 have wG:=QV.pk [12,12,12,12,12,12,12]
 refine aa<|SR<|lI bx wG 5 O O rfl<|aI rfl<|aa<|aj<|have aBk:=(((wG.sub (sP (sQ (sQ (sQ (sQ sR)))))).pj [3,3,3,3,3,3,3,3,3,3,3,3,2,1])).eR 3 1;have xC:=Hp.aEb (A:=[_,_,_,_,_,_,_,_,_,_,_,_]) (B:=[bu.blk b9 (.cells #[pt n] 31 (0,0)),bu.blk b27 (.cells #[I s.ak.length] 3 (0,0)),bu.blk b84 (.cells #[I ((s.cs.length:Int)-1)] 3 (0,0))]) (U:=(F1.us.map (dQ 3))) (R:=R) aBk;jy (v:=I s.ak.length) O O (.inr ⟨kp,J,rfl,(jL 48 #[pt b9,pt b27,pt b84]),([bu.blk b9 (.cells #[pt n] 31 (0,0)),bu.blk b27 (.cells #[I s.ak.length] 3 (0,0)),bu.blk b84 (.cells #[I ((s.cs.length:Int)-1)] 3 (0,0))]++(akw++L2)),_,(fun b o hb=>bH _ (bH _ (OF b o hb))),⟨_,_,_,rfl,aJ,aJ,aJ⟩,aiZ hok.hlt hok.T3 hok.OQ Bu.fo.ne,⟨{F1 with vW:=aHH,vU:=aHI,vT:=aHJ,cW:=aHK,cU:=aHL,W:=W96,ul:=aHM,ts:=aHN,cn:=aHO,vt:=v39,vv:=v51,vy:=v63,vu:=v75,vd:=aHP,vm:=v23,us:=F1.us++[de]},([bu.blk b9 (.cells #[pt n] 31 (0,0)),bu.blk b27 (.cells #[I s.ak.length] 3 (0,0)),bu.blk b84 (.cells #[I ((s.cs.length:Int)-1)] 3 (0,0))]++(akw++L2)),⟨auY.mono fun e he=>bH _ he,ai0 Bu.us⟩,fun _ _ q=>q,rfl⟩,?_⟩)
 simp only[NZ,nE,qM,gU,lR,Ca];exact xC
theorem xI(v:Value)(l:List dU)(hl:l.length<=1000)(w:World)(hs:Sl w v 10 l.length (l.flatMap j9)):Calls Tryz.prog 57 #[v] w (sY 3 1 (dB l).length ((dB l).map I) w):=by
 have hm:=hs.small
 unfold maxLen at hm
 refine eH func57 rfl rfl fun hH=>SR<|va (v:= .slice none 0 0) rfl<|aa<|SR<|va (v:= .slice none 0 0) rfl<|have je:=hH.eR 3 1;aa<|ai<|SR<| ?_
 refine V (run_move bA) ?_
 refine V (aC (hs.hp je) O ia O)<|aE (v:=I 0) rfl<|aa<|aA<|bt (G:=Int×(List Int)×Value) (fun⟨k,m,v3⟩ s' w'=>(Fr (3::(5::6::(rg 9 57 []))) _ s')/\(Hp w w' (.row v3 3 1 (m.length) (m.map I)::_))/\(s' 3=v3)/\(s' 9=I k)/\(0<=k)/\(k<=l.length)/\(m=dB (l.take k.toNat))/\((m.length:Int)<=k)) (fun⟨k,m,v3⟩=>(l.length-k).toNat) ((0,[],(.slice none 0 0:Value))) ⟨Fr.refl _ _,je,rfl,rfl,J,J,rfl,aJ⟩<| ?_
 rintro⟨k,m,v3⟩ sg2 w2 ⟨U1,bp,Wm,ak6,h0,hk,hm,hml⟩
 obtain⟨aQG,aHQ,aHR⟩:=U1.w3 2 7 8
 refine SR<|V (aN ak6 aHR)<|aa<|ai<|aF O (fun h4=> ?_) (fun h4=> ?_)
 .refine an<|ai<|aA<|SR<|V (ah (hs.hp bp) ia pg aHQ ak6 J)<|V (dY (dv:=bG) gO (hs.hp bp) dX O O O J)<|lJ bp (aS yX)<|fun b7 w5 jN=>bg jN (i:=0) O (dO (c':=(j9 _).toArray) O O O (vR _) (jN.blk (i:=0) O) O)<|fun w8 iE=>aa<|ai<|SR<|V (fA dX 0 O aO O)<|lI bx iE 0 O O rfl<|V (kG O O)<|mB rfl<|bM 16 O (fun h11=> ?_) (fun h11=> ?_)
  .refine aE (v:=B true) rfl<|aa<|cA rfl<|a7 (id:=1) rfl<|au<|V (ax ak6 O J)<|mI rfl<|aa<| ?_
   refine⟨(k+1,m,v3),aW,U1.u4.u4.u4.u1.u1,(Hp.conv (iE.sub (sQ sR)) aM),Wm,(aK I aM),J,J,?_,J⟩
   rw[jM h0 ‹k<_›,<-hm];((rw[aT J];done))
  refine V (fA dX 1 O aO O)<|lI bx iE 0 O O rfl<|V (aN O O)<|mB rfl<|aa<|aF O (fun Th=> ?_) (fun Th=> ?_)
  .refine a7 (id:=1) rfl<|au<|V (ax ak6 O J)<|mI rfl<|aa<| ?_
   refine⟨(k+1,m,v3),aW,U1.u4.u4.u4.u1.u1,(Hp.conv (iE.sub (sQ sR)) aM),Wm,(aK I aM),J,J,?_,J⟩
   rw[jM h0 ‹k<_›,<-hm];((rw[aT J];done))
  refine an<|SR<|va (v:=I 0) rfl<|aa<|ai<|aA<|bt (G:=Int) (fun i s' w'=>(Fr (6::(rg 21 15 [])) _ s')/\(Hp w w' _)/\(s' 6=I i)/\(0<=i)/\(i<=m.length)/\(∀j:Nat,j<i.toNat->m.getD j 0<(l.getD k.toNat bG).n)) (fun i=>(m.length-i).toNat) (0) ⟨Fr.refl _ _,iE,rfl,J,J,fun j h=>absurd h J⟩<| ?_
  rintro i ZW QH ⟨mO,cG,mF,i0,hi,hlt⟩
  have xA:=mO.w1 5
  obtain⟨kB,Bj⟩:=mO.t2 3 Wm 9 ak6
  refine ai<|ai<|ec aP cG<|fun Tf cI=>have tW:=cI;AQ 0 O tW (run_move mF)<|AQ 1 O tW (run_move kB)<|AT 2 O tW (fun w hS=>aC (hS.sl (i:=1) O) O bD O)<|AQ 3 O tW (aN O O)<|AQ 4 O tW (mV (B _) O)<|Cs (dj:=25) O (fun qk=> ?_) (fun qk=> ?_)
  .refine BQ 5 O O (bT qk) cI (run_move kB)<|BQ 6 O O (bT qk) cI (run_move mF)<|AG 7 O O (bT qk) cI (fun w hS=>ah (hS.sl (i:=1) O) bD aO O O J)<|AG 8 O O (bT qk) cI (fun w hS=>aG bx O O ((hS.sl (i:=1) O).cell _ _ (eS J)))<|BQ 9 O O (bT qk) cI (fA dX 1 O aO xA)<|AG 10 O O (bT qk) cI (fun w hS=>aG bx O O (hS.cell (i:=0) O (v:=I _) O))<|BQ 11 O O (bT qk) cI (aN O O)<|AQ 12 O tW (gL (bT qk) (v:=B _) O)<|AD<|aF O (fun OT=> ?_) (fun OT=> ?_)
   .refine an<|aA<|au<|aE mF<|V (ax O O J)<|aI rfl<|aa<| ?_
    refine⟨i+1,aW,mO.u4.u4.u4.u4,cI,(aK I aM),J,J,?_⟩
    exact fun j hj=>if e:j=i.toNat then e▸‹_<_›else hlt j J
   refine a7 (id:=2) rfl<|ai<|ai<|ec aP cI<|fun NL cD=>have aaN:=cD;AQ 0 O aaN (run_move mF)<|AQ 1 O aaN (run_move kB)<|AT 2 O aaN (fun w hS=>aC (hS.sl (i:=1) O) O bD O)<|AQ 3 O aaN (aN O O)<|AQ 4 O aaN (mV (B _) O)<|Cs (dj:=40) O (fun xu=> ?_) (fun xu=> ?_)
   .refine BQ 5 O O (bT xu) cD (run_move kB)<|BQ 6 O O (bT xu) cD (run_move mF)<|AG 7 O O (bT xu) cD (fun w hS=>ah (hS.sl (i:=1) O) bD aO O O J)<|AG 8 O O (bT xu) cD (fun w hS=>aG bx O O ((hS.sl (i:=1) O).cell _ _ (eS J)))<|BQ 9 O O (bT xu) cD (fA dX 1 O aO xA)<|AG 10 O O (bT xu) cD (fun w hS=>aG bx O O (hS.cell (i:=0) O (v:=I _) O))<|BQ 11 O O (bT xu) cD (bU O O)<|AQ 12 O aaN (gL (bT xu) (v:=B _) O)<|AD<|aF O (fun Wp=> ?_) (fun Wp=> ?_)
    .refine a7 (id:=1) rfl<|au<|V (ax Bj O J)<|mI rfl<|aa<| ?_
     refine⟨(k+1,m,v3),aW,(((U1.u4.u4.u4.u1).t mO O)).u4.u4.u4.u4.u4.u4.u4,(Hp.conv (cD.sub (sQ sR)) aM),kB,(aK I aM),J,J,?_,J⟩
     rw[jM h0 ‹k<_›,<-hm];((rw[aX ⟨J,J⟩];exact(aiD (i:=i.toNat) J hlt J).symm))
    refine an<|SR<|aE kB<|tQ 1 1 cD (cB bD O O (sz:=1) (vs:=[I 0]) O O az az O O)<|fun b29 w27 iJ=> ?_
    (try simp only[lf]at iJ)
    refine gf O iJ (i:=2) O (iJ.dR (i:=0) (n:=1) (sz:=1) O O az) O O bD O O (size:=1) (bytes:=8) O O O az gX J iz<|fun v30 w31 iC=> ?_
    refine V (run_assign bA) ?_
    refine aa<|ai<|gD aP iC (sP (sP (sQ sR)))<|fun w33 lD=>have ak7:=lD.sub (sP (sP (sQ sR)));?_
    refine AQ 0 O ak7 (run_move bA) ?_
    refine AQ 1 O ak7 (run_move mF)<|AQ 2 O ak7 (ax O O J)<| ?_
    refine AQ 4 O ak7 (run_move bA) ?_
    refine AQ 5 O ak7 (run_move mF)<|gp 3 6 aP ?_ ?_
    .refine cf O aD O lD (sP (sP (sQ sR))) (gC (lD.sl (i:=2) O) bD aO O O J)<|A1 6<|cf O aD O lD (sP (sP (sQ sR))) (gC (lD.sl (i:=2) O) bD aO O O J)<|A1 7<|CE O aD O (qz (c:=m.length-i.toNat) (o:=(i+1).toNat) lD (i:=2) O J bD O O O (Sl.fr (lD.sl (i:=2) O) i.toNat J) Cm J (fun u hu=>tN (sw hu))) (fun w' h=>h.sub (sP (sP (sQ sR))))<|fun w41 qN=>AD<|au<| ?_
     refine V (run_move bA) ?_
     refine aE mF<|V (fA dX 1 O aO xA)<|lI bx qN 1 O O rfl<|V (ah (qN.sl (i:=2) O) bD aO O O J)<|Aa qN (i:=2) O J O (u:=I _) O O O O J<|fun w43 qm=>aa<|au<|V (ax Bj O J)<|mI rfl<|aa<| ?_
     refine⟨(k+1,(m.take i.toNat++(l.getD k.toNat bG).n::m.drop i.toNat),v30),aW,(((U1.u4.u4.u4.u1).t mO O)).u4.u4.u4.u4.u4.u4.u4.u4.u4.u4.u4.u1,(Hp.conv (qm.sub (sQ (sQ sR))) Cj),rfl,(aK I aM),J,J,?_,LI⟩
     rw[jM h0 ‹k<_›,<-hm];((rw[aX ⟨J,J⟩];exact(An (i:=i.toNat) J hlt (fun _=>J)).symm))
    refine cf O aD O lD (sP (sP (sQ sR))) (gC (lD.sl (i:=2) O) bD aO O O J)<|A1 3<|cf O aD O lD (sP (sP (sQ sR))) (gC (lD.sl (i:=2) O) bD aO O O J)<|A1 7<|CE O aD O (qz (c:=m.length-i.toNat) (o:=(i+1).toNat) lD (i:=2) O J bD O O O (Sl.fr (lD.sl (i:=2) O) i.toNat J) Cm J (fun u hu=>tN (sw hu))) (fun w' h=>h.sub (sP (sP (sQ sR))))<|fun w51 BP=>AD<|au<| ?_
    refine V (run_move bA) ?_
    refine aE mF<|V (fA dX 1 O aO xA)<|lI bx BP 1 O O rfl<|V (ah (BP.sl (i:=2) O) bD aO O O J)<|Aa BP (i:=2) O J O (u:=I _) O O O O J<|fun w53 gQ=>aa<|au<|V (ax Bj O J)<|mI rfl<|aa<| ?_
    refine⟨(k+1,(m.take i.toNat++(l.getD k.toNat bG).n::m.drop i.toNat),v30),aW,(((U1.u4.u4.u4.u1).t mO O)).u4.u4.u4.u4.u4.u4.u4.u4.u4.u4.u4.u1,(Hp.conv (gQ.sub (sQ (sQ sR))) Cj),rfl,(aK I aM),J,J,?_,LI⟩
    rw[jM h0 ‹k<_›,<-hm];((rw[aX ⟨J,J⟩];exact(An (i:=i.toNat) J hlt (fun _=>J)).symm))
   refine AK 5 O O (bF xu) cD<|AK 6 O O (bF xu) cD<|AK 7 O O (bF xu) cD<|AK 8 O O (bF xu) cD<|AK 9 O O (bF xu) cD<|AK 10 O O (bF xu) cD<|AK 11 O O (bF xu) cD<|AQ 12 O aaN (eo (bF xu) (v:=B false) O)<|AD<|cQ rfl<|an<|SR<|aE kB<|tQ 1 1 cD (cB bD O O (sz:=1) (vs:=[I 0]) O O az az O O)<|fun b57 w55 ni=> ?_
   (try simp only[lf]at ni)
   refine gf O ni (i:=2) O (ni.dR (i:=0) (n:=1) (sz:=1) O O az) O O bD O O (size:=1) (bytes:=8) O O O az gX J iz<|fun v58 w59 wz=> ?_
   refine V (run_assign bA) ?_
   refine aa<|ai<|gD aP wz (sP (sP (sQ sR)))<|fun w61 r5=>have ak8:=r5.sub (sP (sP (sQ sR)));?_
   refine AQ 0 O ak8 (run_move bA) ?_
   refine AQ 1 O ak8 (run_move mF)<|AQ 2 O ak8 (ax O O J)<| ?_
   refine AQ 4 O ak8 (run_move bA) ?_
   refine AQ 5 O ak8 (run_move mF)<|gp 3 6 aP ?_ ?_
   .refine cf O aD O r5 (sP (sP (sQ sR))) (gC (r5.sl (i:=2) O) bD aO O O J)<|A1 6<|cf O aD O r5 (sP (sP (sQ sR))) (gC (r5.sl (i:=2) O) bD aO O O J)<|A1 7<|CE O aD O (qz (c:=m.length-i.toNat) (o:=(i+1).toNat) r5 (i:=2) O J bD O O O (Sl.fr (r5.sl (i:=2) O) i.toNat J) Cm J (fun u hu=>tN (sw hu))) (fun w' h=>h.sub (sP (sP (sQ sR))))<|fun w69 wA=>AD<|au<| ?_
    refine V (run_move bA) ?_
    refine aE mF<|V (fA dX 1 O aO xA)<|lI bx wA 1 O O rfl<|V (ah (wA.sl (i:=2) O) bD aO O O J)<|Aa wA (i:=2) O J O (u:=I _) O O O O J<|fun w71 Ja=>aa<|au<|V (ax Bj O J)<|mI rfl<|aa<| ?_
    refine⟨(k+1,(m.take i.toNat++(l.getD k.toNat bG).n::m.drop i.toNat),v58),aW,(((U1.u4.u4.u4.u1).t mO O)).u4.u4.u4.u4.u4.u4.u4.u4.u4.u4.u4.u1,(Hp.conv (Ja.sub (sQ (sQ sR))) Cj),rfl,(aK I aM),J,J,?_,J⟩
    rw[jM h0 ‹k<_›,<-hm];((rw[aX ⟨J,J⟩];exact(An (i:=i.toNat) J hlt (fun _=>J)).symm))
   refine cf O aD O r5 (sP (sP (sQ sR))) (gC (r5.sl (i:=2) O) bD aO O O J)<|A1 3<|cf O aD O r5 (sP (sP (sQ sR))) (gC (r5.sl (i:=2) O) bD aO O O J)<|A1 7<|CE O aD O (qz (c:=m.length-i.toNat) (o:=(i+1).toNat) r5 (i:=2) O J bD O O O (Sl.fr (r5.sl (i:=2) O) i.toNat J) Cm J (fun u hu=>tN (sw hu))) (fun w' h=>h.sub (sP (sP (sQ sR))))<|fun w79 pA=>AD<|au<| ?_
   refine V (run_move bA) ?_
   refine aE mF<|V (fA dX 1 O aO xA)<|lI bx pA 1 O O rfl<|V (ah (pA.sl (i:=2) O) bD aO O O J)<|Aa pA (i:=2) O J O (u:=I _) O O O O J<|fun w81 oT=>aa<|au<|V (ax Bj O J)<|mI rfl<|aa<| ?_
   refine⟨(k+1,(m.take i.toNat++(l.getD k.toNat bG).n::m.drop i.toNat),v58),aW,(((U1.u4.u4.u4.u1).t mO O)).u4.u4.u4.u4.u4.u4.u4.u4.u4.u4.u4.u1,(Hp.conv (oT.sub (sQ (sQ sR))) Cj),rfl,(aK I aM),J,J,?_,J⟩
   rw[jM h0 ‹k<_›,<-hm];((rw[aX ⟨J,J⟩];exact(An (i:=i.toNat) J hlt (fun _=>J)).symm))
  refine AK 5 O O (bF qk) cI<|AK 6 O O (bF qk) cI<|AK 7 O O (bF qk) cI<|AK 8 O O (bF qk) cI<|AK 9 O O (bF qk) cI<|AK 10 O O (bF qk) cI<|AK 11 O O (bF qk) cI<|AQ 12 O tW (eo (bF qk) (v:=B false) O)<|AD<|cQ rfl<|a7 (id:=2) rfl<|ai<|ai<|ec aP cI<|fun w83 lj=>have r6:=lj;AQ 0 O r6 (run_move mF)<|AQ 1 O r6 (run_move kB)<|AT 2 O r6 (fun w hS=>aC (hS.sl (i:=1) O) O bD O)<|AQ 3 O r6 (aN O O)<|AQ 4 O r6 (mV (B _) O)<|Cs (dj:=40) O (fun TP=> ?_) (fun TP=> ?_)
  .refine BQ 5 O O (bT TP) lj (run_move kB)<|BQ 6 O O (bT TP) lj (run_move mF)<|AG 7 O O (bT TP) lj (fun w hS=>ah (hS.sl (i:=1) O) bD aO O O J)<|AG 8 O O (bT TP) lj (fun w hS=>aG bx O O ((hS.sl (i:=1) O).cell _ _ (eS J)))<|BQ 9 O O (bT TP) lj (fA dX 1 O aO xA)<|AG 10 O O (bT TP) lj (fun w hS=>aG bx O O (hS.cell (i:=0) O (v:=I _) O))<|BQ 11 O O (bT TP) lj (bU O O)<|AQ 12 O r6 (gL (bT TP) (v:=B _) O)<|AD<|aF O (fun h88=> ?_) (fun h88=> ?_)
   .refine a7 (id:=1) rfl<|au<|V (ax Bj O J)<|mI rfl<|aa<| ?_
    refine⟨(k+1,m,v3),aW,(((U1.u4.u4.u4.u1).t mO O)).u4.u4.u4.u4.u4.u4.u4,(Hp.conv (lj.sub (sQ sR)) aM),kB,(aK I aM),J,J,?_,J⟩
    rw[jM h0 ‹k<_›,<-hm];((rw[aT J];done))
   refine an<|SR<|aE kB<|tQ 1 1 lj (cB bD O O (sz:=1) (vs:=[I 0]) O O az az O O)<|fun b91 w89 oH=> ?_
   (try simp only[lf]at oH)
   refine gf O oH (i:=2) O (oH.dR (i:=0) (n:=1) (sz:=1) O O az) O O bD O O (size:=1) (bytes:=8) O O O az gX J iz<|fun v92 w93 uB=> ?_
   refine V (run_assign bA) ?_
   refine aa<|ai<|gD aP uB (sP (sP (sQ sR)))<|fun w95 pX=>have ak9:=pX.sub (sP (sP (sQ sR)));?_
   refine AQ 0 O ak9 (run_move bA) ?_
   refine AQ 1 O ak9 (run_move mF)<|AQ 2 O ak9 (ax O O J)<| ?_
   refine AQ 4 O ak9 (run_move bA) ?_
   refine AQ 5 O ak9 (run_move mF)<|gp 3 6 aP ?_ ?_
   .refine cf O aD O pX (sP (sP (sQ sR))) (gC (pX.sl (i:=2) O) bD aO O O J)<|A1 6<|cf O aD O pX (sP (sP (sQ sR))) (gC (pX.sl (i:=2) O) bD aO O O J)<|A1 7<|CE O aD O (qz (c:=m.length-i.toNat) (o:=(i+1).toNat) pX (i:=2) O J bD O O O (Sl.fr (pX.sl (i:=2) O) i.toNat J) Cm J (fun u hu=>tN (sw hu))) (fun w' h=>h.sub (sP (sP (sQ sR))))<|fun aBl Br=>AD<|au<| ?_
    refine V (run_move bA) ?_
    refine aE mF<|V (fA dX 1 O aO xA)<|lI bx Br 1 O O rfl<|V (ah (Br.sl (i:=2) O) bD aO O O J)<|Aa Br (i:=2) O J O (u:=I _) O O O O J<|fun aoc nj=>aa<|au<|V (ax Bj O J)<|mI rfl<|aa<| ?_
    refine⟨(k+1,(m.take i.toNat++(l.getD k.toNat bG).n::m.drop i.toNat),v92),aW,(((U1.u4.u4.u4.u1).t mO O)).u4.u4.u4.u4.u4.u4.u4.u4.u4.u4.u4.u1,(Hp.conv (nj.sub (sQ (sQ sR))) Cj),rfl,(aK I aM),J,J,?_,J⟩
    rw[jM h0 ‹k<_›,<-hm];((rw[aX ⟨J,J⟩];exact(An (i:=i.toNat) J hlt (fun _=>J)).symm))
   refine cf O aD O pX (sP (sP (sQ sR))) (gC (pX.sl (i:=2) O) bD aO O O J)<|A1 3<|cf O aD O pX (sP (sP (sQ sR))) (gC (pX.sl (i:=2) O) bD aO O O J)<|A1 7<|CE O aD O (qz (c:=m.length-i.toNat) (o:=(i+1).toNat) pX (i:=2) O J bD O O O (Sl.fr (pX.sl (i:=2) O) i.toNat J) Cm J (fun u hu=>tN (sw hu))) (fun w' h=>h.sub (sP (sP (sQ sR))))<|fun ayp xC=>AD<|au<| ?_
   refine V (run_move bA) ?_
   refine aE mF<|V (fA dX 1 O aO xA)<|lI bx xC 1 O O rfl<|V (ah (xC.sl (i:=2) O) bD aO O O J)<|Aa xC (i:=2) O J O (u:=I _) O O O O J<|fun auJ zi=>aa<|au<|V (ax Bj O J)<|mI rfl<|aa<| ?_
   refine⟨(k+1,(m.take i.toNat++(l.getD k.toNat bG).n::m.drop i.toNat),v92),aW,(((U1.u4.u4.u4.u1).t mO O)).u4.u4.u4.u4.u4.u4.u4.u4.u4.u4.u4.u1,(Hp.conv (zi.sub (sQ (sQ sR))) Cj),rfl,(aK I aM),J,J,?_,J⟩
   rw[jM h0 ‹k<_›,<-hm];((rw[aX ⟨J,J⟩];exact(An (i:=i.toNat) J hlt (fun _=>J)).symm))
  refine AK 5 O O (bF TP) lj<|AK 6 O O (bF TP) lj<|AK 7 O O (bF TP) lj<|AK 8 O O (bF TP) lj<|AK 9 O O (bF TP) lj<|AK 10 O O (bF TP) lj<|AK 11 O O (bF TP) lj<|AQ 12 O r6 (eo (bF TP) (v:=B false) O)<|AD<|cQ rfl<|an<|SR<|aE kB<|tQ 1 1 lj (cB bD O O (sz:=1) (vs:=[I 0]) O O az az O O)<|fun aQH aoL zl=> ?_
  (try simp only[lf]at zl)
  refine gf O zl (i:=2) O (zl.dR (i:=0) (n:=1) (sz:=1) O O az) O O bD O O (size:=1) (bytes:=8) O O O az gX J iz<|fun aBm aFU Oi=> ?_
  refine V (run_assign bA) ?_
  refine aa<|ai<|gD aP Oi (sP (sP (sQ sR)))<|fun atN pY=>have Xd:=pY.sub (sP (sP (sQ sR)));?_
  refine AQ 0 O Xd (run_move bA) ?_
  refine AQ 1 O Xd (run_move mF)<|AQ 2 O Xd (ax O O J)<| ?_
  refine AQ 4 O Xd (run_move bA) ?_
  refine AQ 5 O Xd (run_move mF)<|gp 3 6 aP ?_ ?_
  .refine cf O aD O pY (sP (sP (sQ sR))) (gC (pY.sl (i:=2) O) bD aO O O J)<|A1 6<|cf O aD O pY (sP (sP (sQ sR))) (gC (pY.sl (i:=2) O) bD aO O O J)<|A1 7<|CE O aD O (qz (c:=m.length-i.toNat) (o:=(i+1).toNat) pY (i:=2) O J bD O O O (Sl.fr (pY.sl (i:=2) O) i.toNat J) Cm J (fun u hu=>tN (sw hu))) (fun w' h=>h.sub (sP (sP (sQ sR))))<|fun auA Bs=>AD<|au<| ?_
   refine V (run_move bA) ?_
   refine aE mF<|V (fA dX 1 O aO xA)<|lI bx Bs 1 O O rfl<|V (ah (Bs.sl (i:=2) O) bD aO O O J)<|Aa Bs (i:=2) O J O (u:=I _) O O O O J<|fun atO Df=>aa<|au<|V (ax Bj O J)<|mI rfl<|aa<| ?_
   refine⟨(k+1,(m.take i.toNat++(l.getD k.toNat bG).n::m.drop i.toNat),aBm),aW,(((U1.u4.u4.u4.u1).t mO O)).u4.u4.u4.u4.u4.u4.u4.u4.u4.u4.u4.u1,(Hp.conv (Df.sub (sQ (sQ sR))) Cj),rfl,(aK I aM),J,J,?_,LI⟩
   rw[jM h0 ‹k<_›,<-hm];((rw[aX ⟨J,J⟩];exact(An (i:=i.toNat) J hlt (fun _=>J)).symm))
  refine cf O aD O pY (sP (sP (sQ sR))) (gC (pY.sl (i:=2) O) bD aO O O J)<|A1 3<|cf O aD O pY (sP (sP (sQ sR))) (gC (pY.sl (i:=2) O) bD aO O O J)<|A1 7<|CE O aD O (qz (c:=m.length-i.toNat) (o:=(i+1).toNat) pY (i:=2) O J bD O O O (Sl.fr (pY.sl (i:=2) O) i.toNat J) Cm J (fun u hu=>tN (sw hu))) (fun w' h=>h.sub (sP (sP (sQ sR))))<|fun ae2 mq=>AD<|au<| ?_
  refine V (run_move bA) ?_
  refine aE mF<|V (fA dX 1 O aO xA)<|lI bx mq 1 O O rfl<|V (ah (mq.sl (i:=2) O) bD aO O O J)<|Aa mq (i:=2) O J O (u:=I _) O O O O J<|fun atP xD=>aa<|au<|V (ax Bj O J)<|mI rfl<|aa<| ?_
  refine⟨(k+1,(m.take i.toNat++(l.getD k.toNat bG).n::m.drop i.toNat),aBm),aW,(((U1.u4.u4.u4.u1).t mO O)).u4.u4.u4.u4.u4.u4.u4.u4.u4.u4.u4.u1,(Hp.conv (xD.sub (sQ (sQ sR))) Cj),rfl,(aK I aM),J,J,?_,LI⟩
  rw[jM h0 ‹k<_›,<-hm];((rw[aX ⟨J,J⟩];exact(An (i:=i.toNat) J hlt (fun _=>J)).symm))
 refine a7 (id:=0) rfl<|SR<|aE Wm<| ?_
 refine V (run_assign bA) ?_
 refine aa<|aj<|OX O O bp (i:=0) O ((by rw[hm,ji J])) ((by rw[hm,ji J]))
theorem OL{s:NP}{R L0 Z:List bu}(k:Int)(v:Value)(l:List dU)(t:iR)(y:BitVec 64)(hok:D4 s)(hll:l.length<=1000)(hlg:lg.length<=550000000000)(htm:tm.length<=100000000)(w:World)(hT:o3 W0)(hls:∀x∈s.aq,k7 (Kz (Kw W0) L0) x.p)(hc:pB (Kz (Kw W0) L0) v 10 l.length (l.flatMap j9))(hZ:wC n m s lg tm R L0 Z)(hH:Hp W0 w Z):Calls Tryz.prog 25 #[pt n,I k,v,.agg (jG t).toArray,U y] w (jW fun u w'=>(¬(s.sk=false/\wO s.aq s.a8 k l t=true)/\u=B false/\∃Z',wC n m s lg tm R L0 Z'/\Hp W0 w' Z')\/(s.sk=false/\wO s.aq s.a8 k l t=true/\u=B true/\∃(fv cv vv:Value) (L1 Z':List bu),(∀b o,bu.blk b o∈L0->bu.blk b o∈L1)/\D2 (Kz (Kw W0) L1) (⟨k,cv,l,t,y,vv,dB l⟩:dD)/\nh NX n L1 (fv,.add s.qs.length (⟨k,cv,l,t,y,vv,dB l⟩:dD))/\iN [(fv,.add s.qs.length (⟨k,cv,l,t,y,vv,dB l⟩:dD))] s (BC s (⟨k,cv,l,t,y,vv,dB l⟩:dD))/\wC n m (BC s (⟨k,cv,l,t,y,vv,dB l⟩:dD)) (lg++[(fv,.add s.qs.length (⟨k,cv,l,t,y,vv,dB l⟩:dD))]) (tm++[(lg.length:Int)]) R L1 Z'/\Hp W0 w' Z')):=by
 have hqn:=hok.hqn
 refine enter func25 rfl ntmps25 rfl ?_
 obtain⟨F1,L2,Bu,OF,rfl⟩:=hZ
 have bY:=hH
 simp only[NZ,nE]at bY
 have Y1:=hc.mono (Le.zb (K:=Kw W0) OF)
 have aHT:∀x∈s.aq,k7 (Kz (Kw W0) L2) x.p:=fun x hx=>(hls x hx).mono (Le.zb OF)
 have Kn:∀k:Nat,(F1.us.getD k de).l.length<=1000:=fun k=>by rw[<-CQ,Bu.us];by_cases c:k<s.us.length;exact(hok.yf k c).1;rw[eT,oc J];simp
 refine SR<|gM bY (v:=Pn _ _) rfl<|fun b8 w6 eC=>gM eC (v:= .agg _) rfl<|fun b11 w9 cg=>va (v:=B false) rfl<|aa<|ai<|SR<|lP di cg 1 O O rfl<|aH O cg (oW _ (cg.blk (i:=2) O)) (ay call40 O)<|fun y8 bX=>V (bJ O)<|mB rfl<|eF 18 O (fun yj=> ?_) (fun yj=> ?_)
 .refine aE (v:=B true) rfl<|aa<|cA rfl<|SR<|va (v:=B false) rfl<|aa<|aj<|jy (v:=B false) O O (.inl ⟨kp,rfl,_,⟨F1,L2,Bu,OF,rfl⟩,(bX.sub (sQ (sQ sR)))⟩)
 refine lP di bX 1 O O rfl<|mI rfl<| ?_
 refine V (run_move bA) ?_
 refine V (cF (cs:=jG _) kK O O O (bj (bX.blk (i:=0) O)))<|aH O bX (Ko _ _ _ _ _ (bX.blk (i:=2) O) (bX.sl (i:=6) O) (bX.sl (i:=7) O) (Y1.mono (bX.kz (Le.refl _) (fun x hx=>(mT (mT (mT (mT (mT (mT (mT (mT (mT (mT (mT (mT (mT (mT (bH _ (bH _ hx))))))))))))))))))).sl (fun x hx=>(aHT x hx).mono (bX.kz (Le.refl _) (fun x hx=>(mT (mT (mT (mT (mT (mT (mT (mT (mT (mT (mT (mT (mT (mT (bH _ (bH _ hx))))))))))))))))))) (hT.hp bX)) (jE call56 O O O O)<|fun Ti dP=>V (bJ O)<|mB rfl<|aa<|bW O (fun N2=> ?_) (fun N2=> ?_)
 .refine SR<|va (v:=B false) rfl<|aa<|aj<|jy (v:=B false) O O (.inl ⟨kp,rfl,_,⟨F1,L2,Bu,OF,rfl⟩,(dP.sub (sQ (sQ sR)))⟩)
 refine an<|SR<|lP di dP 1 O O rfl<|cw O (p6 J _ (dP.pj [2,2,2,2,2,2,2,2,2,2,2,2])) (ay call41 O)<| ?_
 rintro _ w24 ⟨rfl,v26,n9⟩
 simp only[nE]at n9
 have dK:=n9.pk [12,12]
 refine aa<|SR<|lP di dK 1 O O rfl<|V (af O)<|V (fA cr 6 O xT O)<|lV oe dK 2 O O rfl<|V (aC (dK.sl (i:=11) O) O oe O)<|lJ dK (aS Tryz.zeroValue3)<|fun b30 w28 gj=>bg gj (i:=0) O (bL O O (v:=I _) O O O (gj.blk (i:=0) O) az)<|fun w33 lD=> ?_
 simp only[z2,dx,pull]at lD
 refine aa<|Fq (G:=(Nat)×(Value)×(Value)×(List bu)) lD (12::(rg 33 9 [])) (fun(L:List bu) (⟨q12,cv,vv,Zq⟩:(Nat)×(Value)×(Value)×(List bu))=> .blk q12 (.cells (qh (⟨k,cv,l,t,y,vv,dB l⟩:dD)).toArray 128 (0,0))::(L.take 15++((F1.us.map (dQ 3))++(Zq++(R++L2))))) (fun(⟨q12,cv,vv,Zq⟩:(Nat)×(Value)×(Value)×(List bu)) s'=>(s' 12= .pointer (some ⟨q12,0,none⟩))/\(D2 (Kz (Kw W0) Zq) (⟨k,cv,l,t,y,vv,dB l⟩:dD))) ?_ ?_
 .refine fW (z:=⟨none,_,_,_,_,none⟩) aP O aP lD sR<|fun w35 j4=>have sX:=j4.sub sR;AQ 0 O sX (mV (I _) O)<| ?_
  refine AQ 2 O sX (run_move bA) ?_
  refine AT 4 O sX (fun w hS=>cF (cs:=jG _) kK O O O (bj (hS.blk (i:=1) O)))<|AQ 5 O sX (mV (U _) O)<| ?_
  refine AQ 6 O sX (run_move bA) ?_
  refine gp 1 9 aP ?_ ?_
  .refine cH O aD O j4 sR (f:=fun b=> .slice (some ⟨b,0,none⟩) 0 0) (s0 ia pg)<|fun b39 w37 uz=> ?_
   (try simp only[lf]at uz)
   have lE:=uz.sE 0 10 O az
   refine gp 3 9 aP ?_ ?_
   .refine fT O aD O lE (j:=0) O (fun _=>(sQ sR)) (Y1.mono (lE.kz (Le.refl _) (fun x hx=>(mT (mT (mT (mT (mT (mT (mT (mT (mT (mT (mT (mT (mT (mT (mT (mT (bH _ (bH _ hx))))))))))))))))))))).sl O O ia O O (size:=10) (bytes:=80) O O O az (Ns _) J iz<|fun v43 w44 rZ=> ?_
    simp only[z2,dx,pull]at rZ
    refine gp 7 9 aP ?_ ?_
    .refine LQ O aD O rZ (sQ sR) (xI _ _ J _ (Y1.mono (rZ.kz (Le.refl _) (fun x hx=>(mT (mT (mT (mT (mT (mT (mT (mT (mT (mT (mT (mT (mT (mT (mT (mT (bH _ (bH _ hx))))))))))))))))))))).sl) (ay call57 O)<|fun v48 w46 oS=>AQ 8 O (oS.sub (sQ (sQ sR))) (dJ (vs:=[(0,I k),(1,v43),(2,.agg (jG t).toArray),(3,U y),(4,v48)]) O (AY k l t y (dB l) (aZ (oS.get (i:=1) O)).1 (aZ (oS.get (i:=0) O)).1))<|A1 9<|cH O aD O oS (sQ (sQ sR)) (f:=fun b=> .pointer (some ⟨b,0,none⟩)) (aS Tryz.zeroValue128)<|fun b51 w49 eL=>AD<| ?_
     obtain⟨Z52,aHU,aHV,-⟩:=(eL.pj [2]).TY (Kw W0)
     have jz:Hp _ w49 (_::_::_::_::_::_::_::_::_::_::_::_::_::_::_::_::_::(Z52++((F1.us.map (dQ 3))++(R++L2)))):=aHU.Iz (L:=[_,_,_,_,_,_,_,_,_,_,_,_,_,_,_,_,_]) (L':=((F1.us.map (dQ 3))++(R++L2)))
     have ni:=Hp.mL (A:=[_,_,_,_,_,_,_,_,_,_,_,_,_,_,_,_,_]) (B:=Z52) (R:=(F1.us.map (dQ 3))) jz
     simp only[gA,eN]at ni
     obtain⟨Z57,aHW,aHX,-⟩:=(ni.pj [1]).TY (Kw W0)
     have wz:Hp _ w49 (_::_::_::_::_::_::_::_::_::_::_::_::_::_::_::_::(Z57++((F1.us.map (dQ 3))++(Z52++(R++L2))))):=aHW.Iz (L:=[_,_,_,_,_,_,_,_,_,_,_,_,_,_,_,_]) (L':=((F1.us.map (dQ 3))++(Z52++(R++L2))))
     have D9:=Hp.mL (A:=[_,_,_,_,_,_,_,_,_,_,_,_,_,_,_,_]) (B:=Z57) (R:=(F1.us.map (dQ 3))) wz
     simp only[gA,eN]at D9
     have zv:D2 (Kz (Kw W0) (Z57++Z52)) (⟨k,v43,l,t,y,v48,dB l⟩:dD):=⟨pB.mono (by simpa using aHV) (Le.zz fun x hx=>bH _ hx),aHX.mono (Le.zz fun x hx=>dL _ hx)⟩
     refine bg D9 (i:=0) O (dO O O O (tO zv) (D9.blk (i:=0) O) O)<|fun w62 oV=> ?_
     simp only[z2,dx,pull]at oV
     refine aa ?_
     refine⟨((Fr.refl _ _)).u4.u4.u1.u1,(b51,v43,v48,(Z57++Z52)),(Hp.conv oV RM),rfl,?_⟩
     exact zv
    refine cH O aD O rZ (sQ sR) (f:=fun b=> .pointer (some ⟨b,0,none⟩)) (aS Tryz.zeroValue128)<|fun b66 w64 wP=>A1 7<|LQ O aD O wP (sQ (sQ sR)) (xI _ _ J _ (Y1.mono (wP.kz (Le.refl _) (fun x hx=>(mT (mT (mT (mT (mT (mT (mT (mT (mT (mT (mT (mT (mT (mT (mT (mT (mT (bH _ (bH _ hx)))))))))))))))))))))).sl) (ay call57 O)<|fun v69 w67 kE=>AQ 8 O (kE.sub (sQ (sQ (sQ sR)))) (dJ (vs:=[(0,I k),(1,v43),(2,.agg (jG t).toArray),(3,U y),(4,v69)]) O (AY k l t y (dB l) (aZ (kE.get (i:=2) O)).1 (aZ (kE.get (i:=0) O)).1))<|AD<| ?_
    obtain⟨Z70,auZ,au0,-⟩:=(kE.pj [2]).TY (Kw W0)
    have uY:Hp _ w67 (_::_::_::_::_::_::_::_::_::_::_::_::_::_::_::_::_::(Z70++((F1.us.map (dQ 3))++(R++L2)))):=auZ.Iz (L:=[_,_,_,_,_,_,_,_,_,_,_,_,_,_,_,_,_]) (L':=((F1.us.map (dQ 3))++(R++L2)))
    have wS:=Hp.mL (A:=[_,_,_,_,_,_,_,_,_,_,_,_,_,_,_,_,_]) (B:=Z70) (R:=(F1.us.map (dQ 3))) uY
    simp only[gA,eN]at wS
    obtain⟨Z75,aHY,aHZ,-⟩:=wS.TY (Kw W0)
    have zh:Hp _ w67 (_::_::_::_::_::_::_::_::_::_::_::_::_::_::_::_::(Z75++((F1.us.map (dQ 3))++(Z70++(R++L2))))):=aHY.Iz (L:=[_,_,_,_,_,_,_,_,_,_,_,_,_,_,_,_]) (L':=((F1.us.map (dQ 3))++(Z70++(R++L2))))
    have Jr:=Hp.mL (A:=[_,_,_,_,_,_,_,_,_,_,_,_,_,_,_,_]) (B:=Z75) (R:=(F1.us.map (dQ 3))) zh
    simp only[gA,eN]at Jr
    have zv:D2 (Kz (Kw W0) (Z75++Z70)) (⟨k,v43,l,t,y,v69,dB l⟩:dD):=⟨pB.mono (by simpa using au0) (Le.zz fun x hx=>bH _ hx),aHZ.mono (Le.zz fun x hx=>dL _ hx)⟩
    refine bg Jr (i:=0) O (dO O O O (tO zv) (Jr.blk (i:=0) O) O)<|fun w80 aoK=> ?_
    simp only[z2,dx,pull]at aoK
    refine aa ?_
    refine⟨((Fr.refl _ _)).u4.u4.u1.u1,(b66,v43,v69,(Z75++Z70)),(Hp.conv aoK RM),rfl,?_⟩
    exact zv
   refine cH O aD O lE (sQ sR) (f:=fun b=> .pointer (some ⟨b,0,none⟩)) (aS Tryz.zeroValue128)<|fun b84 w82 ak5=>A1 3<|fT O aD O ak5 (j:=1) O (fun _=>(sQ (sQ sR))) (Y1.mono (ak5.kz (Le.refl _) (fun x hx=>(mT (mT (mT (mT (mT (mT (mT (mT (mT (mT (mT (mT (mT (mT (mT (mT (mT (bH _ (bH _ hx)))))))))))))))))))))).sl O O ia O O (size:=10) (bytes:=80) O O O az (Ns _) J iz<|fun v87 w88 Jc=> ?_
   simp only[z2,dx,pull]at Jc
   refine A1 7<|LQ O aD O Jc (sQ (sQ sR)) (xI _ _ J _ (Y1.mono (Jc.kz (Le.refl _) (fun x hx=>(mT (mT (mT (mT (mT (mT (mT (mT (mT (mT (mT (mT (mT (mT (mT (mT (mT (bH _ (bH _ hx)))))))))))))))))))))).sl) (ay call57 O)<|fun v92 w90 Ot=>AQ 8 O (Ot.sub (sQ (sQ (sQ sR)))) (dJ (vs:=[(0,I k),(1,v87),(2,.agg (jG t).toArray),(3,U y),(4,v92)]) O (AY k l t y (dB l) (aZ (Ot.get (i:=2) O)).1 (aZ (Ot.get (i:=0) O)).1))<|AD<| ?_
   obtain⟨Z93,aH0,aH1,-⟩:=(Ot.pj [2]).TY (Kw W0)
   have pX:Hp _ w90 (_::_::_::_::_::_::_::_::_::_::_::_::_::_::_::_::_::(Z93++((F1.us.map (dQ 3))++(R++L2)))):=aH0.Iz (L:=[_,_,_,_,_,_,_,_,_,_,_,_,_,_,_,_,_]) (L':=((F1.us.map (dQ 3))++(R++L2)))
   have Km:=Hp.mL (A:=[_,_,_,_,_,_,_,_,_,_,_,_,_,_,_,_,_]) (B:=Z93) (R:=(F1.us.map (dQ 3))) pX
   simp only[gA,eN]at Km
   obtain⟨Z98,aH2,aBn,-⟩:=Km.TY (Kw W0)
   have EO:Hp _ w90 (_::_::_::_::_::_::_::_::_::_::_::_::_::_::_::_::(Z98++((F1.us.map (dQ 3))++(Z93++(R++L2))))):=aH2.Iz (L:=[_,_,_,_,_,_,_,_,_,_,_,_,_,_,_,_]) (L':=((F1.us.map (dQ 3))++(Z93++(R++L2))))
   have rM:=Hp.mL (A:=[_,_,_,_,_,_,_,_,_,_,_,_,_,_,_,_]) (B:=Z98) (R:=(F1.us.map (dQ 3))) EO
   simp only[gA,eN]at rM
   have zv:D2 (Kz (Kw W0) (Z98++Z93)) (⟨k,v87,l,t,y,v92,dB l⟩:dD):=⟨pB.mono (by simpa using aH1) (Le.zz fun x hx=>bH _ hx),aBn.mono (Le.zz fun x hx=>dL _ hx)⟩
   refine bg rM (i:=0) O (dO O O O (tO zv) (rM.blk (i:=0) O) O)<|fun aBl Br=> ?_
   simp only[z2,dx,pull]at Br
   refine aa ?_
   refine⟨((Fr.refl _ _)).u4.u4.u1.u1,(b84,v87,v92,(Z98++Z93)),(Hp.conv Br RM),rfl,?_⟩
   exact zv
  refine cH O aD O j4 sR (f:=fun b=> .pointer (some ⟨b,0,none⟩)) (aS Tryz.zeroValue128)<|fun ayo aoc nj=>A1 1<|cH O aD O nj (sQ sR) (f:=fun b=> .slice (some ⟨b,0,none⟩) 0 0) (s0 ia pg)<|fun aH3 atD xB=> ?_
  (try simp only[lf]at xB)
  have He:=xB.sE 0 10 O az
  refine A1 3<|fT O aD O He (j:=0) O (fun _=>(sQ (sQ sR))) (Y1.mono (He.kz (Le.refl _) (fun x hx=>(mT (mT (mT (mT (mT (mT (mT (mT (mT (mT (mT (mT (mT (mT (mT (mT (mT (bH _ (bH _ hx)))))))))))))))))))))).sl O O ia O O (size:=10) (bytes:=80) O O O az (Ns _) J iz<|fun au1 auJ zi=> ?_
  simp only[z2,dx,pull]at zi
  refine A1 7<|LQ O aD O zi (sQ (sQ sR)) (xI _ _ J _ (Y1.mono (zi.kz (Le.refl _) (fun x hx=>(mT (mT (mT (mT (mT (mT (mT (mT (mT (mT (mT (mT (mT (mT (mT (mT (mT (bH _ (bH _ hx)))))))))))))))))))))).sl) (ay call57 O)<|fun au2 aoL zl=>AQ 8 O (zl.sub (sQ (sQ (sQ sR)))) (dJ (vs:=[(0,I k),(1,au1),(2,.agg (jG t).toArray),(3,U y),(4,au2)]) O (AY k l t y (dB l) (aZ (zl.get (i:=1) O)).1 (aZ (zl.get (i:=0) O)).1))<|AD<| ?_
  obtain⟨ae3,aBo,aBp,-⟩:=(zl.pj [1]).TY (Kw W0)
  have EQ:Hp _ aoL (_::_::_::_::_::_::_::_::_::_::_::_::_::_::_::_::_::(ae3++((F1.us.map (dQ 3))++(R++L2)))):=aBo.Iz (L:=[_,_,_,_,_,_,_,_,_,_,_,_,_,_,_,_,_]) (L':=((F1.us.map (dQ 3))++(R++L2)))
  have pY:=Hp.mL (A:=[_,_,_,_,_,_,_,_,_,_,_,_,_,_,_,_,_]) (B:=ae3) (R:=(F1.us.map (dQ 3))) EQ
  simp only[gA,eN]at pY
  obtain⟨aoM,aBq,ala,-⟩:=pY.TY (Kw W0)
  have alb:Hp _ aoL (_::_::_::_::_::_::_::_::_::_::_::_::_::_::_::_::(aoM++((F1.us.map (dQ 3))++(ae3++(R++L2))))):=aBq.Iz (L:=[_,_,_,_,_,_,_,_,_,_,_,_,_,_,_,_]) (L':=((F1.us.map (dQ 3))++(ae3++(R++L2))))
  have Ov:=Hp.mL (A:=[_,_,_,_,_,_,_,_,_,_,_,_,_,_,_,_]) (B:=aoM) (R:=(F1.us.map (dQ 3))) alb
  simp only[gA,eN]at Ov
  have zv:D2 (Kz (Kw W0) (aoM++ae3)) (⟨k,au1,l,t,y,au2,dB l⟩:dD):=⟨pB.mono (by simpa using aBp) (Le.zz fun x hx=>bH _ hx),ala.mono (Le.zz fun x hx=>dL _ hx)⟩
  refine bg Ov (i:=0) O (dO O O O (tO zv) (Ov.blk (i:=0) O) O)<|fun aF4 acA=> ?_
  simp only[z2,dx,pull]at acA
  refine aa ?_
  refine⟨((Fr.refl _ _)).u4.u4.u1.u1,(ayo,au1,au2,(aoM++ae3)),(Hp.conv acA RM),rfl,?_⟩
  exact zv
 rintro⟨q12,cv,vv,Zq⟩ aLm aQJ aBr Bs ⟨TQ,ae4⟩
 simp only[Hy,xK,gA,eN]at Bs
 obtain⟨aaO,aCL,aoN⟩:=aBr.w3 5 10 11
 have hfb:wO s.aq s.a8 k l t=true:=nf ‹(!wO _ _ _ _ _)=false›
 have hvs:=aem hfb
 have Qw:=V5 l
 have hvl:∀v∈dB l,0<=v/\v<s.us.length:=fun v hv=>by have:=hvs v hv;have:=hok.hlt;have:=hok.OQ;omega
 have hvc:(dB l).length<=1000:=kX (aed l) hll
 have hvw:(⟨k,cv,l,t,y,vv,dB l⟩:dD).vars.length=(dB l).length:=rfl
 refine ai<|fW (z:=⟨none,_,_,_,_,none⟩) aP O aP Bs (sP (sP (sP (sP (sP (sP (sP (sP (sP (sP (sP (sP (sP (sQ sR))))))))))))))<|fun atO Df=>have zm:=Df.sub (sP (sP (sP (sP (sP (sP (sP (sP (sP (sP (sP (sP (sP (sQ sR))))))))))))));AT 0 O zm (fun w hS=>aG di O aaO (hS.cell (i:=3) O (v:=Pn _ _) O))<|AT 1 O zm (fun w hS=>aG di O aaO (hS.cell (i:=3) O (v:=Pn _ _) O))<|AQ 2 O zm (af O)<|AQ 3 O zm (fA cr 6 O xT O)<|tV 4 O zm oe 4 O O rfl<|AT 5 O zm (fun w hS=>cF (cs:=qh _) jj O O TQ (bj (hS.blk (i:=0) O)))<|A1 6<|cH O aD O Df (sP (sP (sP (sP (sP (sP (sP (sP (sP (sP (sP (sP (sP (sQ sR)))))))))))))) (f:=fun b=> .slice (some ⟨b,0,none⟩) 1 1) (ou pP oe O O O (l:=[(⟨k,cv,l,t,y,vv,dB l⟩:dD)]) O az az O)<|fun aHC aHD Hj=>A1 7<|SS (a:=(⟨k,cv,l,t,y,vv,dB l⟩:dD)) O aD pP az O Hj (i:=14) O (fun _=>(sQ (sP (sP (sP (sP (sP (sP (sP (sP (sP (sP (sP (sP (sP (sQ sR)))))))))))))))) (Hp.iu pP Hj (i:=0) (l:=[(⟨k,cv,l,t,y,vv,dB l⟩:dD)]) O gd) O O oe O O (bytes:=136) O O O (fun u hu=>tO ae4 u qZ) J az<|fun ak0 ae2 mq=> ?_
 simp only[z2,dx,pull]at mq
 refine AQ 8 O (mq.sub (sQ (sP (sP (sP (sP (sP (sP (sP (sP (sP (sP (sP (sP (sP (sQ sR)))))))))))))))) (af O)<|AQ 9 O (mq.sub (sQ (sP (sP (sP (sP (sP (sP (sP (sP (sP (sP (sP (sP (sP (sQ sR)))))))))))))))) (fA cr 6 O xT O)<|AD<|bg mq (i:=5) O (bL O O (v:=ak0) O (aZ (mq.get (i:=14) O)).1 (aZ (mq.get (i:=14) O)).2 (mq.blk (i:=5) O) aJ)<|fun atP xD=> ?_
 simp only[jg,kW,nW,gN,Nat.reduceAdd]at xD
 refine aa<|ai<|SR<|V (fA jj 12 O dH TQ)<|V (bZ (ae4.vars.mono (xD.kz (Le.refl _) (fun x hx=>(mT (mT (mT (mT (mT (mT (mT (mT (mT (mT (mT (mT (mT (mT (mT (mT (mT (bH _ (dL _ hx)))))))))))))))))))))).sl bD O O (xD.cell (i:=1) O O))<|V (aC (ae4.vars.mono (xD.kz (Le.refl _) (fun x hx=>(mT (mT (mT (mT (mT (mT (mT (mT (mT (mT (mT (mT (mT (mT (mT (mT (mT (bH _ (dL _ hx)))))))))))))))))))))).sl O bD O)<|aE (v:=I 0) rfl<|aa<|aA<|bt (G:=Int×(List jY)×(List bu)) (fun⟨j,Xr,Z1⟩ s' w'=>(Fr (14::(rg 55 21 [])) _ s')/\(Hp W0 w' (_::_::_::_::_::_::_::_::_::_::_::_::_::jU jY.v F1.vu 99 Xr::_::_::_::Z1))/\(s' 55=I j)/\(0<=j)/\(j<=(dB l).length)/\(Z1=Xr.map (dQ 3)++(Zq++(R++L2)))/\(qf Xr=((dB l).take j.toNat).foldl (FF s.qs.length) s.us)) (fun⟨j,Xr,Z1⟩=>((dB l).length-j).toNat) ((0,F1.us,((F1.us.map (dQ 3))++(Zq++(R++L2))))) ⟨Fr.refl _ _,xD,rfl,J,J,rfl,Bu.us⟩<| ?_
 rintro⟨j,Xr,Z1⟩ aLn aQK ⟨alc,OM,TR,h0,hj,hz,hgs⟩
 obtain⟨aoO,aoP⟩:=alc.w2 53 54
 obtain⟨TS,acJ,aoQ⟩:=alc.t3 5 aaO 11 aoN 12 TQ
 subst hz
 have hgn:Xr.length=s.us.length:=by have:=aK List.length hgs;rwa[gz,pU]at this
 have hub:∀k:Nat,(Xr.getD k de).l.length<=1001:=fun k=>by rw[<-CQ,hgs];exact anw (Qw.sublist (List.take_sublist _ _)) (fun v hv=>hvl v (u9 hv)) (by rw[<-Bu.us,CQ];exact Kn k)
 refine SR<|V (aN TR aoP)<|aa<|ai<|aF O (fun aH4=> ?_) (fun aH4=> ?_)
 .refine an<|ai<|aA<|SR<|V (ah (ae4.vars.mono (OM.kz (Le.refl _) (fun x hx=>(mT (mT (mT (mT (mT (mT (mT (mT (mT (mT (mT (mT (mT (mT (mT (mT (mT (bH _ (dL _ hx)))))))))))))))))))))).sl bD aO aoO TR J)<|V (aG bx O O ((ae4.vars.mono (OM.kz (Le.refl _) (fun x hx=>(mT (mT (mT (mT (mT (mT (mT (mT (mT (mT (mT (mT (mT (mT (mT (mT (mT (bH _ (dL _ hx)))))))))))))))))))))).sl.cell _ _ (eS J)))<|V (run_assign (show _=I ((dB l).getD j.toNat 0)from O))<|aa<|have hvj:=hvl _ (dw (d:=0) h0 ‹j<_›);?_
  rw[<-hgn]at hvj
  refine fW (z:=⟨none,_,_,_,_,none⟩) aP O aP OM (sP (sP (sP (sP (sP (sP (sP (sP (sP (sP (sP (sP (sP (sP (sP (sP (sP (sA sR))))))))))))))))))<|fun aQM WV=>have zn:=WV.sub (sP (sP (sP (sP (sP (sP (sP (sP (sP (sP (sP (sP (sP (sP (sP (sP (sP (sA sR))))))))))))))))));AT 0 O zn (fun w hS=>aG di O TS (hS.cell (i:=4) O (v:=Pn _ _) O))<|AQ 1 O zn (af O)<|AQ 2 O zn (fA cr 5 O zG O)<|tV 3 O zn pD 5 O O rfl<|AQ 4 O zn (mV (I _) O)<|AT 5 O zn (fun w hS=>aG di O TS (hS.cell (i:=4) O (v:=Pn _ _) O))<|AQ 6 O zn (af O)<|AQ 7 O zn (fA cr 5 O zG O)<|tV 8 O zn pD 5 O O rfl<|AQ 9 O zn (mV (I _) O)<|AT 10 O zn (fun w hS=>ah (hS.sl (i:=13) O) pD dH O (show _=I ((dB l).getD j.toNat 0)from O) J)<|AT 11 O zn (fun w hS=>aG bD O O ((hS.sl (i:=13) O).cell _ _ (lK (dv:=de) J)))<|AT 12 O zn (fun w hS=>aG bx O acJ (hS.cell (i:=2) O (v:=I _) O))<|A1 13<|cH O aD O WV (sP (sP (sP (sP (sP (sP (sP (sP (sP (sP (sP (sP (sP (sP (sP (sP (sP (sA sR)))))))))))))))))) (f:=fun b=> .slice (some ⟨b,0,none⟩) 1 1) (cB bD O O (sz:=1) (vs:=[I _]) O O az az O O)<|fun aQN aFa Hf=> ?_
  (try simp only[lf]at Hf)
  refine A1 14<|aio (A:=[_,_,_,_,_,_,_,_,_,_,_,_,_,_,_,_,_,_]) (gs:=Xr) (q:=((dB l).getD j.toNat 0)) (a:=(s.qs.length:Int)) (R:=(Zq++(R++L2))) O aD O Hf (fun _=>(sQ (sP (sP (sP (sP (sP (sP (sP (sP (sP (sP (sP (sP (sP (sP (sP (sP (sP (sA (sA sR))))))))))))))))))))) hvj (Hf.dR (i:=0) (n:=1) (sz:=1) O O az) O O bD O O (bytes:=8) O O O (by have:=hub (((dB l).getD j.toNat 0)).toNat;omega) az<|fun aj6 aQO acK=> ?_
  simp only[gA,eN]at acK
  refine AT 15 O (acK.sub (sQ (sP (sP (sP (sP (sP (sP (sP (sP (sP (sP (sP (sP (sP (sP (sP (sP (sP (sA sR)))))))))))))))))))) (fun w hS=>ah (hS.sl (i:=13) O) pD dH O (show _=I ((dB l).getD j.toNat 0)from O) J)<|AD<|have aq4:=Hp.axe (A:=[_,_,_,_,_,_,_,_,_,_,_,_,_,_,_,_,_,_]) (gs:=Xr) (q:=((dB l).getD j.toNat 0)) (R:=(Zq++(R++L2))) acK J;rD (f:=jY.v) (a:=⟨aj6,(Xr.getD (((dB l).getD j.toNat 0)).toNat de).l++[(s.qs.length:Int)]⟩) acK (i:=14) O J O O aq4.1 aq4.2 rfl<|fun aQP aq5=> ?_
  simp only[z2,dx,pull]at aq5
  refine aa<|au<|V (ax TR O J)<|mI rfl<|aa<| ?_
  refine⟨(j+1,(Xr.set (((dB l).getD j.toNat 0)).toNat ⟨aj6,(Xr.getD (((dB l).getD j.toNat 0)).toNat de).l++[(s.qs.length:Int)]⟩),(((Xr.set (((dB l).getD j.toNat 0)).toNat ⟨aj6,(Xr.getD (((dB l).getD j.toNat 0)).toNat de).l++[(s.qs.length:Int)]⟩).map (dQ 3))++(Zq++(R++L2)))),aW,alc.u4.u4.u4.u4.u4.u1.u1,(Hp.conv (aq5.sub (sQ sR)) aM),(aK I aM),J,J,aM,?_⟩
  (rw[oO h0 ‹j<_›,<-hgs];unfold FF;rw[abQ,FA])
 refine a7 (id:=0) rfl<|SR<|V (aG di O TS (OM.cell (i:=4) O (v:=Pn _ _) O))<|V (LS TS acJ aoQ)<|cw O (iL _ _ (.add s.qs.length (⟨k,cv,l,t,y,vv,dB l⟩:dD)) J _ (OM.pj [5,5,5,5,5,5,5,5,5,5,5,5])) (aL zI O O)<| ?_
 rintro _ aH5 ⟨rfl,aH6,acL⟩
 simp only[nE]at acL
 have aBs:=acL.pk [12,12,12,12,12]
 refine aa<|SR<|va (v:=B true) rfl<|aa<|aj<|have Oj:=((aBs.sub (sQ (sP (sP (sQ sR))))).pj [3,3,3,3,3,3,3,3,3,3,3,3,2,1]);have Ht:=Hp.aEc (A:=[_,_,_,_,_,_,_,_,_,_,_,_]) (B:=[bu.blk b8 (.cells #[pt n] 31 (0,0)),bu.blk b30 (.cells #[I s.qs.length] 3 (0,0)),bu.blk q12 (.cells (qh (⟨k,cv,l,t,y,vv,dB l⟩:dD)).toArray 128 (0,0))]) (U:=(Xr.map (dQ 3))) (Q:=Zq) (R:=R) Oj;?_
 rw[ji J]at hgs
 refine jy (v:=B true) O O (.inr ⟨kp,hfb,rfl,(jL 58 #[pt b8,pt b30,pt q12]),cv,vv,([bu.blk b8 (.cells #[pt n] 31 (0,0)),bu.blk b30 (.cells #[I s.qs.length] 3 (0,0)),bu.blk q12 (.cells (qh (⟨k,cv,l,t,y,vv,dB l⟩:dD)).toArray 128 (0,0))]++(Zq++L2)),_,(fun b o hb=>bH _ (bH _ (OF b o hb))),ae4.mono (Le.zz fun x hx=>bH _ (dL _ hx)),⟨_,_,_,rfl,aJ,aJ,aJ⟩,ai2 Qw hvl,⟨{F1 with vu:=F1.vu,vq:=ak0,vd:=aH6,vm:=v26,us:=Xr},([bu.blk b8 (.cells #[pt n] 31 (0,0)),bu.blk b30 (.cells #[I s.qs.length] 3 (0,0)),bu.blk q12 (.cells (qh (⟨k,cv,l,t,y,vv,dB l⟩:dD)).toArray 128 (0,0))]++(Zq++L2)),⟨Bu.fo.mono fun e he=>bH _ (bH _ he),hgs⟩,fun _ _ q=>q,rfl⟩,?_⟩)
 simp only[NZ,nE,BC];exact Ht
theorem rQ(K:Vu)(p:pI)(hpo:mK p=true)(hcs:∀x∈p.bf,x.code.length<=1000)(w:World)(hK:Le K (Kw w))(hp:A9 K p):Calls Tryz.prog 14 #[.agg (yO p).toArray] w (Gp K (fun K' u=>∃(sv:Value) (v:List El) (b:Bool),u= .tuple #[sv,B b]/\pB K' sv 8 v.length (v.flatMap pH)/\v.length=p.s.vars.length/\me (iA p.s) (QP p.s p.bf) (yh p.s v)/\(b=true↔wo (iA p.s) (QP p.s p.bf))) w):=by
 have BY:=hp.bf.small
 unfold maxLen at BY
 obtain⟨T7,SE⟩:=Ap hpo
 obtain⟨⟨hs1,hs2⟩,hsl,hsv⟩:=wu T7
 refine eH func14 rfl rfl fun hH=>SR<|gM hH (v:= .agg _) rfl<|fun b3 w1 bp=>va (v:= .slice none 0 0) rfl<|va (v:=B false) rfl<|aa<|SR<|V (fA nZ 0 O zH O)<|V (ja (sub:=DY _) gH O O O (bp.blk (i:=0) O) (Gv _))<|IA O bp (AP K p.s J _ (hK.trans bp.kw) hp.s) (ay call37 O)<|fun v6 w7 Z9 eX au3=>have df:Hp _ w7 (_::Z9):=eX.amt (L:=[_]);?_
 obtain⟨n12,rfl,aH8,aH9⟩:=au3
 refine V (Dw mH O isAgg46 O O) ?_
 refine V (run_assign bA) ?_
 refine aa<|ai<|SR<|va (v:=B true) rfl<|aa<|aA<|bt (G:=Bool×(List El)×Value×(List bu)) (fun⟨ag,v,vs,Z1⟩ s' w'=>(Fr (rg 4 7 (rg 19 64 [])) _ s')/\(Hp w w' (_::Z1))/\(s' 4=vs)/\(s' 5=B ag)/\(O5 p.s p.bf v)/\(ag=false->∀x∈p.bf,x.op=8->0<=x.to.var->cS (ey (iv p.s x.a8) x.code v).1 (v.getD x.to.var.toNat dg)=true)/\(pB (Kz K Z1) vs 8 v.length (v.flatMap pH))) (fun⟨ag,v,vs,Z1⟩=>aep p.s v+(if ag=true then 1 else 0)) ((true,n12.labels,n12.lv,Z9)) ⟨Fr.refl _ _,df,rfl,rfl,(by rw[show n12.labels=(MM p.s.sc).labels from aK As.labels aH8];exact O5.start T7),(fun h=>mJ),aH9.labels⟩<| ?_
 rintro⟨ag,v,vs,Z1⟩ ayl Tf ⟨wT,gS,aq6,aBt,hI,hd,hv⟩
 obtain⟨WT,QO,acq⟩:=wT.w3 1 2 3
 refine ai<|SR<|aE aBt<|aa<|bW O (fun G5=> ?_) (fun G5=> ?_)
 .refine an<|aA<|SR<|va (v:=B false) rfl<|aa<|SR<|va (v:=I 0) rfl<|aa<|aA<|bt (G:=Int×Bool×(List El)×Value×(List bu)) (fun⟨i,ag1,v1,FH,Z2⟩ s' w'=>(Fr (rg 4 7 (rg 20 63 [])) _ s')/\(Hp w w' (_::Z2))/\(s' 4=FH)/\(s' 5=B ag1)/\(s' 6=I i)/\(0<=i)/\(i<=p.bf.length)/\(O5 p.s p.bf v1)/\(aep p.s v1+(if ag1=true then 1 else 0)<=aep p.s v)/\(ag1=false->∀j:Nat,j<i->(p.bf.getD j dV).op=8->0<=(p.bf.getD j dV).to.var->cS (ey (iv p.s (p.bf.getD j dV).a8) (p.bf.getD j dV).code v1).1 (v1.getD (p.bf.getD j dV).to.var.toNat dg)=true)/\(pB (Kz K Z2) FH 8 v1.length (v1.flatMap pH))) (fun⟨i,ag1,v1,FH,Z2⟩=>(p.bf.length-i).toNat) ((0,false,v,vs,Z1)) ⟨Fr.refl _ _,gS,aq6,rfl,rfl,J,J,hI,aJ,(fun h j hj=>J),hv⟩<| ?_
  rintro⟨i,ag1,v1,FH,Z2⟩ an5 K0 ⟨rW,dP,wv,JJ,Bl,h0,hi,hI1,BY,hh,hv1⟩
  have JK:=rW.t1 1 WT
  refine ai<|SR<|aE Bl<|V (fA nZ 2 O xW JK)<|V (bZ ((hp.mono hK).bf.sl.hp dP) oZ O O (dP.cell (i:=0) O O))<|V (aC ((hp.mono hK).bf.sl.hp dP) O oZ O)<|V (aN O O)<|aa<|aF O (fun N2=> ?_) (fun N2=> ?_)
  .refine an<|ai<|aA<|SR<|V (fA nZ 2 O xW JK)<|V (bZ ((hp.mono hK).bf.sl.hp dP) oZ O O (dP.cell (i:=0) O O))<|aE Bl<|V (ah ((hp.mono hK).bf.sl.hp dP) oZ Lx O O J)<|V (dY (dv:=dV) yN ((hp.mono hK).bf.sl.hp dP) fJ O O O J)<|lJ dP (aS GY)<|fun b24 QJ eM=>bg eM (i:=0) O (dO (c':=(vP _).toArray) O O O (Gw ((hp.mono hK).at J J)) (eM.blk (i:=0) O) O)<|fun w27 iJ=>aa<|ai<|SR<|V (fA fJ 0 O aO O)<|lI bx iJ 0 O O rfl<|V (kG O O)<|mB rfl<|bM 35 O (fun Pb=> ?_) (fun Pb=> ?_)
   .refine aE (v:=B true) rfl<|aa<|cA rfl<|a7 (id:=3) rfl<|au<|aE Bl<|V (ax O O J)<|aI rfl<|aa<| ?_
    refine⟨(i+1,ag1,v1,FH,Z2),aW,rW.u4.u4.u4.u4.u4.u1.u1.u1,(iJ.sub (sQ sR)),wv,JJ,(aK I aM),J,J,?_,?_,?_,?_⟩
    .exact hI1
    .exact BY
    ·(intro h j hj ho ht;by_cases e:j=i.toNat;(subst e;(exact absurd ho lz));exact hh h j J ho ht)
    exact hv1
   refine V (fA fJ 3 O kO O)<|V (fA kK 0 O aO O)<|lI bx iJ 0 O O rfl<|V (aN O O)<|mB rfl<|aa<|aF O (fun BO=> ?_) (fun BO=> ?_)
   .refine a7 (id:=3) rfl<|au<|aE Bl<|V (ax O O J)<|aI rfl<|aa<| ?_
    refine⟨(i+1,ag1,v1,FH,Z2),aW,rW.u4.u4.u4.u4.u4.u1.u1.u1,(iJ.sub (sQ sR)),wv,JJ,(aK I aM),J,J,?_,?_,?_,?_⟩
    .exact hI1
    .exact BY
    ·(intro h j hj ho ht;by_cases e:j=i.toNat;(subst e;(exact absurd ht J));exact hh h j J ho ht)
    exact hv1
   refine an<|SR<|have ho8:(p.bf.getD i.toNat dV).op=8:=J;have hxm:=dw (d:=dV) h0 ‹i<_›;have hxa:=SE _ hxm;have UW:=(Ao hxa ho8).1;have hxc:=hcs _ hxm;have hl1:=hI1.len;have ht8:0<=(p.bf.getD i.toNat dV).to.var:=J;have hxt:=(Ta (v:=v1) hxa ho8 ht8).1;V (fA nZ 0 O zH JK)<|V (fA gH 0 O nN O)<|V (bZ ((hp.mono hK).s.aq.sl.hp iJ) iP O O (iJ.cell (i:=1) O O))<|V (fA fJ 1 O aO O)<|lI bx iJ 0 O O rfl<|V (ah ((hp.mono hK).s.aq.sl.hp iJ) iP vi O O J)<|V (fA qY 1 O uo O)<|V (kZ (dv:=lH) (off:=1) (cs:=wK _) m9 ((hp.mono hK).s.aq.sl.hp iJ) dm O O O J (xg _))<|lJ iJ (aS Tryz.zeroValue56)<|fun b35 w33 lD=>bg lD (i:=0) O (DI ((hp.mono hK).s.at J J) O O O (lD.blk (i:=0) O) O)<|fun w38 kD=>aa<|SR<|V (cF (cs:=[B _,_]) dm O O O (bj (kD.blk (i:=0) O)))<|V (fA fJ 2 O xV O)<|V (bZ (((hp.mono hK).at J J).code.sl.hp kD) ia O O (kD.cell (i:=1) O O))<|aE wv<|aH O kD (nV _ _ _ _ _ J _ (((hp.mono hK).at J J).code.sl.hp kD) (hv1.mono (kD.kz hK (fun x hx=>(mT (mT (mT hx)))))).sl (((hp.mono hK).s.at J J).mono kD.kw)) (bz call38 O O O)<|fun w40 jS=> ?_
   refine V (run_move bA) ?_
   refine V (bk O (v:= .agg _) O)<|V (bk O (v:=B _) O)<|lJ jS (aS e8)<|fun b45 w43 qm=>bg qm (i:=0) O (cR O O O (qm.blk (i:=0) O))<|fun w48 FL=>aB rfl<|aa<|ai<|ec aP FL<|fun w50 rY=>have tX:=rY;AT 0 O tX (fun w hS=>cM bI O O O (hS.blk (i:=0) O))<|AQ 1 O tX (run_move wv)<|AQ 2 O tX (fA fJ 3 O kO O)<|AQ 3 O tX (fA kK 0 O aO O)<|tI 4 O tX bx 2 O O rfl<|AT 5 O tX (fun w hS=>ah (hv1.mono (hS.kz hK (fun x hx=>(mT (mT (mT (mT hx))))))).sl bV fh O O J)<|AT 6 O tX (fun w hS=>gy (hv1.mono (hS.kz hK (fun x hx=>(mT (mT (mT (mT hx))))))).sl bI O O O J)<|A1 7<|ct O aD O rY sR (oE _ _ _) (aL call22 O O)<|fun w52 jA=>AQ 8 O jA (bJ O)<|AD<|bW O (fun G8=> ?_) (fun G8=> ?_)
   .refine SR<|have hrz:=hI1.raise hxm hxa ho8 ht8 LA;tQ 0 0 jA (s0 bV fh)<|fun b59 w57 oF=> ?_
    (try simp only[lf]at oF)
    have wz:=oF.sE 0 8 O az
    refine aE wv<|gf O wz (i:=0) O (hv1.mono (wz.kz hK (fun x hx=>(mT (mT (mT (mT (mT hx)))))))).sl O O bV O O (size:=8) (bytes:=64) O O O az (gR _) J iz<|fun v61 w62 oV=> ?_
    simp only[eN,gN]at oV
    refine V (run_assign bA) ?_
    refine aa<|ai<|fW (z:=⟨none,_,_,_,_,none⟩) aP O aP oV sR<|fun w64 wP=>have Kp:=wP;?_
    refine AQ 0 O Kp (run_move bA) ?_
    refine AQ 1 O Kp (fA fJ 3 O kO O)<|AQ 2 O Kp (fA kK 0 O aO O)<|tI 3 O Kp bx 3 O O rfl<|AT 4 O Kp (fun w hS=>cF (cs:=[B _,_]) dm O O O (bj (hS.blk (i:=2) O)))<| ?_
    refine AQ 5 O Kp (run_move bA) ?_
    refine AQ 6 O Kp (fA fJ 3 O kO O)<|AQ 7 O Kp (fA kK 0 O aO O)<|tI 8 O Kp bx 3 O O rfl<|AT 9 O Kp (fun w hS=>ah (hS.sl (i:=0) O) bV fh O O J)<|AT 10 O Kp (fun w hS=>gy (hS.sl (i:=0) O) bI O O O J)<|AT 11 O Kp (fun w hS=>cM bI O O O (hS.blk (i:=1) O))<|A1 12<|ct O aD O wP sR (sq _ _ _ _ (((hp.mono hK).s.at J J).mono wP.kw)) (bz call39 O O O)<|fun w66 TL=>AT 13 O TL (fun w hS=>ah (hS.sl (i:=0) O) bV fh O O J)<|AD<|arP TL (i:=0) O J O (new:=pH (ef (iv p.s (p.bf.getD i.toNat dV).a8) (v1.getD (p.bf.getD i.toNat dV).to.var.toNat dg) (ey (iv p.s (p.bf.getD i.toNat dV).a8) (p.bf.getD i.toNat dV).code v1).1)) ((rfl:_=Value.agg (iM (ef (iv p.s (p.bf.getD i.toNat dV).a8) (v1.getD (p.bf.getD i.toNat dV).to.var.toNat dg) (ey (iv p.s (p.bf.getD i.toNat dV).a8) (p.bf.getD i.toNat dV).code v1).1))).trans (by rw[ig])) (uS _) (by rw[cY];rfl) (by rw[cY];omega)<|fun w68 Hi=> ?_
    obtain⟨Z70,auZ,au0,-⟩:=Hi.TY (K)
    have uY:Hp _ w68 (_::_::_::_::(Z70++Z2)):=auZ.Iz (L:=[_,_,_,_]) (L':=Z2)
    have aIa:pB (Kz K (Z70++Z2)) v61 8 (v1.set (p.bf.getD i.toNat dV).to.var.toNat (ef (iv p.s (p.bf.getD i.toNat dV).a8) (v1.getD (p.bf.getD i.toNat dV).to.var.toNat dg) (ey (iv p.s (p.bf.getD i.toNat dV).a8) (p.bf.getD i.toNat dV).code v1).1)).length ((v1.set (p.bf.getD i.toNat dV).to.var.toNat (ef (iv p.s (p.bf.getD i.toNat dV).a8) (v1.getD (p.bf.getD i.toNat dV).to.var.toNat dg) (ey (iv p.s (p.bf.getD i.toNat dV).a8) (p.bf.getD i.toNat dV).code v1).1)).flatMap pH):=(anH au0 J J).mono (Le.zz fun x hx=>dL _ hx)
    refine aa<|au<|va (v:=B true) rfl<|aa<|au<|aE Bl<|V (ax O O J)<|aI rfl<|aa<| ?_
    refine⟨(i+1,true,(v1.set (p.bf.getD i.toNat dV).to.var.toNat (ef (iv p.s (p.bf.getD i.toNat dV).a8) (v1.getD (p.bf.getD i.toNat dV).to.var.toNat dg) (ey (iv p.s (p.bf.getD i.toNat dV).a8) (p.bf.getD i.toNat dV).code v1).1)),v61,(Z70++Z2)),aW,rW.u4.u4.u4.u4.u4.u4.u4.u4.u4.u4.u4.u4.u4.u4.u4.u4.u4.u1.u1,(uY.sub (sQ (sQ (sQ sR)))),rfl,rfl,(aK I aM),J,J,?_,?_,?_,?_⟩
    .exact hrz.1
    ·(have:=hrz.2;simp only[uu];split at BY<;>omega)
    .exact fun h=>by cases h
    exact aIa
   refine an<|au<|aE Bl<|V (ax O O J)<|aI rfl<|aa<| ?_
   refine⟨(i+1,ag1,v1,FH,Z2),aW,rW.u4.u4.u4.u4.u4.u4.u4.u4.u4.u4.u4.u4.u1.u1.u1,(jA.sub (sQ (sQ (sQ sR)))),wv,JJ,(aK I aM),J,J,?_,?_,?_,?_⟩
   .exact hI1
   .exact BY
   ·(intro h j hj ho ht;by_cases e:j=i.toNat;(subst e;(exact nf ‹(!cS _ _)=false›));exact hh h j J ho ht)
   exact hv1
  refine a7 (id:=2) O ?_
  refine⟨(ag1,v1,FH,Z2),?_,(((wT.u1.u1.u1).t rW O)).u4.u1,dP,wv,JJ,?_,?_,?_⟩
  ·((try dsimp only);rw[aX ‹ag=true›];omega)
  .exact hI1
  ·(intro h x hx ho ht;obtain⟨j,hj,rfl⟩:=vc.1 hx;have:=hh h j J;rw[getD_eq hj]at this;exact this ho ht)
  exact hv1
 refine a7 (id:=0) rfl<|ai<|SR<|va (v:=I 0) rfl<|aa<|aA<|have hle:me (iA p.s) (QP p.s p.bf) (yh p.s v):=hI.done SE (hd ‹ag=false›);bt (G:=Int) (fun q s' w'=>(Fr (2::3::(rg 11 4 (rg 83 43 []))) _ s')/\(Hp w w' _)/\(s' 11=I q)/\(0<=q)/\(q<=p.bf.length)/\(∀j:Nat,j<q->(p.bf.getD j dV).op=8->(p.bf.getD j dV).to.var<0->cS (ey (iv p.s (p.bf.getD j dV).a8) (p.bf.getD j dV).code v).1 (p.bf.getD j dV).to.c=true)) (fun q=>(p.bf.length-q).toNat) (0) ⟨Fr.refl _ _,gS,rfl,J,J,(fun j hj=>J)⟩<| ?_
 rintro q aQR w75 ⟨ale,uZ,Js,q0,hq,htt⟩
 obtain⟨alf,acM⟩:=ale.t2 1 WT 4 aq6
 refine ai<|SR<|aE Js<|V (fA nZ 2 O xW alf)<|V (bZ ((hp.mono hK).bf.sl.hp uZ) oZ O O (uZ.cell (i:=0) O O))<|V (aC ((hp.mono hK).bf.sl.hp uZ) O oZ O)<|V (aN O O)<|aa<|aF O (fun h77=> ?_) (fun h77=> ?_)
 .refine an<|ai<|aA<|SR<|V (fA nZ 2 O xW alf)<|V (bZ ((hp.mono hK).bf.sl.hp uZ) oZ O O (uZ.cell (i:=0) O O))<|aE Js<|V (ah ((hp.mono hK).bf.sl.hp uZ) oZ Lx O O J)<|V (dY (dv:=dV) yN ((hp.mono hK).bf.sl.hp uZ) fJ O O O J)<|lJ uZ (aS GY)<|fun b80 w78 Jr=>bg Jr (i:=0) O (dO (c':=(vP _).toArray) O O O (Gw ((hp.mono hK).at J J)) (Jr.blk (i:=0) O) O)<|fun w83 lj=>aa<|SR<|V (fA fJ 0 O aO O)<|lI bx lj 0 O O rfl<|V (bU O O)<|mB rfl<|bM 98 O (fun TP=> ?_) (fun TP=> ?_)
  .refine V (fA fJ 3 O kO O)<|V (fA kK 0 O aO O)<|lI bx lj 0 O O rfl<|V (aN O O)<|mB rfl<|aa<|aF O (fun h88=> ?_) (fun h88=> ?_)
   .refine ai<|have ho8:(p.bf.getD q.toNat dV).op=8:=J;have hxm:=dw (d:=dV) q0 ‹q<_›;have hxa:=SE _ hxm;have UW:=(Ao hxa ho8).1;have hxc:=hcs _ hxm;have hl1:=hI.len;ec aP lj<|fun w89 oH=>have Dg:=oH;AQ 0 O Dg (fA nZ 0 O zH alf)<|AQ 1 O Dg (fA gH 0 O nN O)<|AT 2 O Dg (fun w hS=>bZ ((hp.mono hK).s.aq.sl.hp hS) iP O O (hS.cell (i:=1) O O))<|AQ 3 O Dg (fA fJ 1 O aO O)<|tI 4 O Dg bx 0 O O rfl<|AT 5 O Dg (fun w hS=>ah ((hp.mono hK).s.aq.sl.hp hS) iP vi O O J)<|AQ 6 O Dg (fA qY 1 O uo O)<|AT 7 O Dg (fun w hS=>kZ (dv:=lH) (off:=1) (cs:=wK _) m9 ((hp.mono hK).s.aq.sl.hp hS) dm O O O J (xg _))<|AQ 8 O Dg (fA fJ 2 O xV O)<|AT 9 O Dg (fun w hS=>bZ (((hp.mono hK).at J J).code.sl.hp hS) ia O O (hS.cell (i:=0) O O))<|AQ 10 O Dg (run_move acM)<|gp 11 15 aP ?_ ?_
    .refine ct O aD O oH sR (nV _ _ _ _ _ J _ (((hp.mono hK).at J J).code.sl.hp oH) (hv.mono (oH.kz hK (fun x hx=>(mT (mT hx))))).sl (((hp.mono hK).s.at J J).mono oH.kw)) (bz call38 O O O)<|fun w91 Jb=>have au4:=Jb;?_
     refine AQ 12 O au4 (run_move bA) ?_
     refine AQ 13 O au4 (bk O (v:= .agg _) O)<|AQ 14 O au4 (bk O (v:=B _) O)<|A1 15<|cH O aD O Jb sR (f:=fun b=> .pointer (some ⟨b,0,none⟩)) (aS e8)<|fun b96 w94 Kk=>A1 16<|ed O aD Kk (j:=0) O (sQ sR) (cR O O O (Kk.blk (i:=0) O))<|fun atM rM=>AQ 17 O (rM.sub (sQ sR)) (aV (B _) O)<|AD<|SR<|V (cM bI O O O (rM.blk (i:=0) O))<|V (fA fJ 3 O kO O)<|V (fA kK 1 O fh O)<|V (nr bI O O O (rM.blk (i:=1) O) (abr _))<|aH O rM (oE _ _ _) (aL call22 O O)<|fun aBl Br=>V (bJ O)<|aa<|bW O (fun aIb=> ?_) (fun aIb=> ?_)
     .refine SR<|aE acM<| ?_
      refine V (run_assign bA) ?_
      refine va (v:=B false) rfl<|aa<|aj<|afT O O O ⟨Z1,(Br.sub (sQ (sQ (sQ sR)))),vs,v,false,rfl,hv,hI.len,hle,⟨(fun h=>mJ),fun h=>absurd ((Nz hle hI.len SE).1 h _ (dw (d:=dV) q0 ‹q<_›) lz J) LA⟩⟩
     refine an<|au<|aE Js<|V (ax O O J)<|aI rfl<|aa<| ?_
     refine⟨q+1,aW,ale.u4.u4.u4.u4.u4.u4.u4.u4.u4.u4.u4.u1.u1,(Br.sub (sQ (sQ sR))),(aK I aM),J,J,?_⟩
     (intro j hj ho ht;by_cases e:j=q.toNat;(subst e;(exact nf ‹(!cS _ _)=false›));exact htt j J ho ht)
    refine cH O aD O oH sR (f:=fun b=> .pointer (some ⟨b,0,none⟩)) (aS e8)<|fun aH3 atD xB=>A1 11<|ct O aD O xB (sQ sR) (nV _ _ _ _ _ J _ (((hp.mono hK).at J J).code.sl.hp xB) (hv.mono (xB.kz hK (fun x hx=>(mT (mT (mT hx)))))).sl (((hp.mono hK).s.at J J).mono xB.kw)) (bz call38 O O O)<|fun aQT wG=>have alg:=wG.sub (sQ sR);?_
    refine AQ 12 O alg (run_move bA) ?_
    refine AQ 13 O alg (bk O (v:= .agg _) O)<|AQ 14 O alg (bk O (v:=B _) O)<|A1 16<|ed O aD wG (j:=0) O (sQ sR) (cR O O O (wG.blk (i:=0) O))<|fun aQU Q3=>AQ 17 O (Q3.sub (sQ sR)) (aV (B _) O)<|AD<|SR<|V (cM bI O O O (Q3.blk (i:=0) O))<|V (fA fJ 3 O kO O)<|V (fA kK 1 O fh O)<|V (nr bI O O O (Q3.blk (i:=1) O) (abr _))<|aH O Q3 (oE _ _ _) (aL call22 O O)<|fun aIc acN=>V (bJ O)<|aa<|bW O (fun aId=> ?_) (fun aId=> ?_)
    .refine SR<|aE acM<| ?_
     refine V (run_assign bA) ?_
     refine va (v:=B false) rfl<|aa<|aj<|afT O O O ⟨Z1,(acN.sub (sQ (sQ (sQ sR)))),vs,v,false,rfl,hv,hI.len,hle,⟨(fun h=>mJ),fun h=>absurd ((Nz hle hI.len SE).1 h _ (dw (d:=dV) q0 ‹q<_›) lz J) LA⟩⟩
    refine an<|au<|aE Js<|V (ax O O J)<|aI rfl<|aa<| ?_
    refine⟨q+1,aW,ale.u4.u4.u4.u4.u4.u4.u4.u4.u4.u4.u4.u1.u1,(acN.sub (sQ (sQ sR))),(aK I aM),J,J,?_⟩
    (intro j hj ho ht;by_cases e:j=q.toNat;(subst e;(exact nf ‹(!cS _ _)=false›));exact htt j J ho ht)
   refine an<|au<|aE Js<|V (ax O O J)<|aI rfl<|aa<| ?_
   refine⟨q+1,aW,ale.u4.u4.u4.u4.u4.u1.u1.u1,(lj.sub (sQ sR)),(aK I aM),J,J,?_⟩
   (intro j hj ho ht;by_cases e:j=q.toNat;(subst e;(exact absurd ht J));exact htt j J ho ht)
  refine aE (v:=B false) rfl<|aa<|cQ rfl<|an<|au<|aE Js<|V (ax O O J)<|aI rfl<|aa<| ?_
  refine⟨q+1,aW,ale.u4.u4.u4.u4.u4.u1.u1.u1,(lj.sub (sQ sR)),(aK I aM),J,J,?_⟩
  (intro j hj ho ht;by_cases e:j=q.toNat;(subst e;(exact absurd ho lz));exact htt j J ho ht)
 refine a7 (id:=4) rfl<|SR<|aE acM<| ?_
 refine V (run_assign bA) ?_
 refine va (v:=B true) rfl<|aa<|aj<|afT O O O ⟨Z1,(uZ.sub (sQ sR)),vs,v,true,rfl,hv,hI.len,hle,⟨fun _=>(Nz hle hI.len SE).2 fun x hx ho ht=>by obtain⟨j,hj,rfl⟩:=vc.1 hx;have:=htt j J;rw[getD_eq hj]at this;exact this ho ht,fun _=>rfl⟩⟩
section
variable{W0 w:World}{n:Nat}{s:NP}{lg:List (Value×my)}{tm:List Int}{ids:List Nat}{f:Ct}{tl:List (Nat×Rl)}{b c:Nat}{A R Z:List bu}
theorem Hu(hT:o3 W0)(hW:Aq s)(hb:b<=70)(hc:c<=1000)(hZ:j6 fr W0 n s lg tm ids f tl b c Z)(hH:Hp W0 w (A++(Z++R))):Calls Tryz.prog 15 #[pt n] w (jW fun u w'=>∃(ok:Bool) (s':NP) (new:List (Value×my)) (f':Ct) (a j:Nat) (Z':List bu),u=B ok/\aEl s s' ok/\iN new s s'/\pT f f' a a (a+j)/\a<=muM s/\j<=s.ak.length/\j6 fr W0 n s' (lg++new) (tmS s lg tm) ids f' tl (b+1) c Z'/\Hp W0 w' (A++(Z'++R))):=by
 obtain⟨Z2,hM,bp⟩:=hZ.aui hH
 obtain⟨m,L0,Zf,⟨b1,b2,b3,b4⟩,hZf,hlv,zv,hch,hN⟩:=hM
 have hmu:=hW.mu
 have hnv:=hW.nv
 refine(Hr (JB s) (muB s) (muM s) J hW.ns.ok hW.wy J J b4 J (axw hW) w hT hlv hZf zv hN bp).mono fun e w' hr=>jW.mono ?_ hr
 rintro u w' (⟨h1,rfl,Z3,Xe,tY⟩|⟨OV,us,ok,cc,T4,a,s',new,L1,Z3,Zf',f',yf,rfl,hR,hJ,ha,hs',hnc,hnl,hbk,hL,au5,hk,Xe,tY⟩)
 .obtain⟨Zo,ho,hh⟩:=j6.out (A:=A) (R:=R) (fr:=fr) (b:=b+1) (c:=c) ⟨m,L0,Zf,⟨J,J,J,b4.mono J⟩,hZf,hlv,zv,hch,Xe⟩ tY
  refine⟨false,s,[],f,0,0,Zo,rfl,⟨fun _=>⟨rfl,rfl⟩,fun q=>(by rw[h1]at q;cases q)⟩,iN.nil s,pT.refl f,J,J,?_,hh⟩
  rw[mY,axy h1];exact ho
 have SE:=ajn hW yf hR ha
 have hS:=asT hW OV yf hR (by unfold JN;rw[ab4];exact hJ)
 have hj:(sU s.cs us s.aq s.a8 s.qs s.sn s.ak.length ⟨s.ak,s.bq,[],List.replicate s.qs.length false⟩).j<=s.ak.length:=(S9 hW.ns yf).2.2.2
 rw[<-hs']at hS
 have hlt:s'.aq=s.aq:=hS.aq
 obtain⟨Zo,ho,hh⟩:=j6.out (A:=A) (R:=R) (fr:=fr) (b:=b+1) (c:=c) ⟨m+s.ak.length,L1,Zf',⟨J,by simp only[dZ];omega,by simp only[dZ,ez];omega,(hk.ok b4).mono J⟩,au5,by rw[hlt];exact hlv.mono (Le.zb hL),by rw[hS.qs];exact zv.mono (Le.zb hL),fun x hx=>by rcases fg.1 hx with q|q;exact(hch x q).Ev hL;exact hnc x q,Xe⟩ tY
 rw[<-axz (lg:=lg) (tm:=tm) OV]at ho
 exact⟨ok,s',new,f',a,_,Zo,rfl,⟨fun q=>(by rw[OV]at q;cases q),fun _=>hS⟩,hbk,hk,SE,hj,ho,hh⟩
end
section
variable{W0 w:World}{n:Nat}{s:NP}{lg:List (Value×my)}{tm:List Int}{ids:List Nat}{f:Ct}{tl:List (Nat×Rl)}{b c:Nat}{A R Z:List bu}
theorem acO(l:Int)(hok:D4 s)(hb:b<=70)(hc:c<=1000)(hZ:j6 fr W0 n s lg tm ids f tl b c Z)(hH:Hp W0 w (A++(Z++R))):Calls Tryz.prog 18 #[pt n,I l] w (jW fun u w'=>(¬(s.sk=false/\0<=l/\l<s.aq.length)/\u=I (-1)/\∃Z',j6 fr W0 n s lg tm ids f tl b c Z'/\Hp W0 w' (A++(Z'++R)))\/(s.sk=false/\(0<=l/\l<s.aq.length)/\u=I s.ak.length/\∃(fv:Value) (Z':List bu),iN [(fv,my.var s.ak.length ((s.cs.length:Int)-1))] s (qM s l (s.aq.getD l.toNat pQ).low)/\j6 fr W0 n (qM s l (s.aq.getD l.toNat pQ).low) (lg++[(fv,my.var s.ak.length ((s.cs.length:Int)-1))]) (tm++[(lg.length:Int)]) ids f tl b (c+1) Z'/\Hp W0 w' (A++(Z'++R)))):=by
 obtain⟨Z2,hM,bp⟩:=hZ.aui hH
 obtain⟨m,L0,Zf,⟨b1,b2,b3,b4⟩,hZf,hlv,zv,hch,hN⟩:=hM
 refine(OK l J hok J J w hN bp).mono fun e w' hr=>jW.mono ?_ hr
 rintro u w' (⟨h1,rfl,Z3,Xe,tY⟩|⟨h1,h2,rfl,fv,L1,Z3,hL,hC,hbk,Xe,tY⟩)
 .refine .inl ⟨h1,rfl,?_⟩
  obtain⟨Zo,ho,hh⟩:=j6.out (A:=A) (R:=R) (fr:=fr) ⟨m,L0,Zf,⟨b1,b2,b3,b4⟩,hZf,hlv,zv,hch,Xe⟩ tY
  exact⟨Zo,ho,hh⟩
 obtain⟨Zo,ho,hh⟩:=j6.out (A:=A) (R:=R) (fr:=fr) (s:=qM s l (s.aq.getD l.toNat pQ).low) (lg:=lg++[(fv,my.var s.ak.length ((s.cs.length:Int)-1))]) (tm:=tm++[(lg.length:Int)]) (b:=b) (c:=c+1) ⟨m+1,L1,Zf,⟨J,by simp only[dZ,ez];omega,by simp only[dZ,ez];omega,b4⟩,hZf,hlv.mono (Le.zb hL),zv.mono (Le.zb hL),fun x hx=>by rcases fg.1 hx with q|q;exact(hch x q).Ev hL;rw[gG.1 q];exact hC,Xe⟩ tY
 exact .inr ⟨h1,h2,rfl,fv,Zo,hbk,ho,hh⟩
end
section
variable{W0 w:World}{n:Nat}{s:NP}{lg:List (Value×my)}{tm:List Int}{ids:List Nat}{f:Ct}{tl:List (Nat×Rl)}{b c:Nat}{A R Z:List bu}
theorem acP(k:Int)(v:Value)(l:List dU)(t:iR)(y:BitVec 64)(hok:D4 s)(hll:l.length<=1000)(hb:b<=70)(hc:c<=1000)(hT:o3 W0){X:List bu}(hcv:pB (Kz (Kw W0) X) v 10 l.length (l.flatMap j9))(hZ:j6 fr W0 n s lg tm ids f tl b c Z)(hH:Hp W0 w (A++(Z++X))):Calls Tryz.prog 25 #[pt n,I k,v,.agg (jG t).toArray,U y] w (jW fun u w'=>∃(ok:Bool) (s':NP) (new:List (Value×my)) (T5:List Int) (Z':List bu),u=B ok/\Tb s s' k l t y ok/\iN new s s'/\TmA ok lg tm T5/\j6 fr W0 n s' (lg++new) T5 ids f tl b (c+1) Z'/\Hp W0 w' (A++(Z'++[]))):=by
 obtain⟨m,L0,Zf,Z2,⟨b1,b2,b3,b4⟩,hZf,hlv,zv,hch,hN,bp,hXL⟩:=hZ.azq hH
 refine(OL k v l t y hok hll J J w hT (fun x hx=>(hlv x hx).yK) (hcv.mono (Le.zb hXL)) hN bp).mono fun e w' hr=>jW.mono ?_ hr
 rintro u w' (⟨h1,rfl,Z3,Xe,tY⟩|⟨h1,h2,rfl,fv,cv,vv,L1,Z3,hL,hq,hC,hbk,Xe,tY⟩)
 .obtain⟨Zo,ho,hh⟩:=j6.out (A:=A) (R:=[]) (fr:=fr) (b:=b) (c:=c+1) ⟨m,L0,Zf,⟨J,J,J,b4⟩,hZf,hlv,zv,hch,Xe⟩ tY
  refine⟨false,s,[],tm,Zo,rfl,Tb.no h1,iN.nil s,rfl,?_,hh⟩
  rw[mY];exact ho
 obtain⟨Zo,ho,hh⟩:=j6.out (A:=A) (R:=[]) (fr:=fr) (s:=BC s (⟨k,cv,l,t,y,vv,dB l⟩:dD)) (lg:=lg++[(fv,my.add s.qs.length (⟨k,cv,l,t,y,vv,dB l⟩:dD))]) (tm:=tm++[(lg.length:Int)]) (b:=b) (c:=c+1) ⟨m,L1,Zf,⟨J,by simp only[dZ,ez];omega,by simp only[dZ,ez];omega,b4⟩,hZf,hlv.mono (Le.zb hL),fun x hx=>by rcases fg.1 hx with q|q;exact(zv.mono (Le.zb hL)) x q;rw[gG.1 q];exact hq,fun x hx=>by rcases fg.1 hx with q|q;exact(hch x q).Ev hL;rw[gG.1 q];exact hC,Xe⟩ tY
 exact⟨true,_,_,_,Zo,rfl,Tb.yes h1 h2,hbk,rfl,ho,hh⟩
end
section
variable{W0 w:World}{n:Nat}{s:NP}{lg:List (Value×my)}{tm:List Int}{ids:List Nat}{f:Ct}{tl:List (Nat×Rl)}{b c:Nat}{A R Z:List bu}
theorem ali(p:kP)(hfn:p.aY.length<=1000)(hnn:∀f∈p.aY,f.names.length<=1000)(hll:s.aq.length<=1000)(hwr:WrF s.wr ids)(hb:b<=70)(hc:c<=1000)(hT:o3 W0){X:List bu}(hsh:k7 (Kz (Kw W0) X) p)(hZ:j6 fr W0 n s lg tm ids f tl b c Z)(hH:Hp W0 w (A++(Z++X))):Calls Tryz.prog 19 #[pt n,.agg (qJ p)] w (jW fun u w'=>((s.sk=true\/mC p.sh=false)/\u=I (-1)/\∃Z',j6 fr W0 n s lg tm ids f tl b c Z'/\Hp W0 w' (A++(Z'++[])))\/(s.sk=false/\∃(x:pO) (fv:Value) (QB:List (Nat×Rl)) (Z':List bu),mC p.sh=true/\u=I s.aq.length/\x.p.sh=p.sh/\x.low=gI p.sh ew/\WrD s.wr x.d/\iN [(fv,my.a8 s.aq.length)] s {s with aq:=s.aq++[x]}/\j6 fr W0 n {s with aq:=s.aq++[x]} (lg++[(fv,my.a8 s.aq.length)]) (tm++[(lg.length:Int)]) ids f (tl++QB) b (c+1) Z'/\Hp W0 w' (A++(Z'++[])))):=by
 obtain⟨m,L0,Zf,Z2,⟨b1,b2,b3,b4⟩,hZf,hlv,zv,hch,hN,bp,hXL⟩:=hZ.azq hH
 refine(OI p hfn hnn hll J J hwr w hT (hsh.mono (Le.zb hXL)) hZf hN bp).mono fun e w' hr=>jW.mono ?_ hr
 rintro u w' (⟨h1,rfl,Z3,Xe,tY⟩|⟨h1,x,fv,QB,L1,Z3,Zf',h2,rfl,h3,h4,h5,hL,hx,hC,au5,hbk,Xe,tY⟩)
 .refine .inl ⟨h1,rfl,?_⟩
  obtain⟨Zo,ho,hh⟩:=j6.out (A:=A) (R:=[]) (fr:=fr) ⟨m,L0,Zf,⟨b1,b2,b3,b4⟩,hZf,hlv,zv,hch,Xe⟩ tY
  exact⟨Zo,ho,hh⟩
 obtain⟨Zo,ho,hh⟩:=j6.out (A:=A) (R:=[]) (fr:=fr) (s:={s with aq:=s.aq++[x]}) (lg:=lg++[(fv,my.a8 s.aq.length)]) (tm:=tm++[(lg.length:Int)]) (tl:=tl++QB) (b:=b) (c:=c+1) ⟨m,L1,Zf',⟨J,by simp only[dZ,ez];omega,by simp only[dZ,ez];omega,b4⟩,au5,VV.snoc (fun y hy=>((hlv y hy).mono (Le.zb hL)).more) hx,zv.mono (Le.zb hL),fun x hx=>by rcases fg.1 hx with q|q;exact(hch x q).Ev hL;rw[gG.1 q];exact hC,Xe⟩ tY
 exact .inr ⟨h1,x,fv,QB,Zo,h2,rfl,h3,h4,h5,hbk,ho,hh⟩
end
section
variable{W0 w:World}{n:Nat}{s:NP}{lg:List (Value×my)}{tm:List Int}{ids:List Nat}{f:Ct}{tl:List (Nat×Rl)}{b c:Nat}{A R Z:List bu}
theorem acQ(v:Int)(hZ:j6 fr W0 n s lg tm ids f tl b c Z){L:List bu}(hH:Hp W0 w L)(hs:∀x,x∈Z->x∈L):Calls Tryz.prog 23 #[pt n,I v] w (Pure (.agg (iM (if 0<=v/\v<s.ak.length then s.ak.getD v.toNat dg else dg))) w):=by
 obtain⟨m,L0,Zf,_,_,_,_,_,F,L1,hI,hL,rfl⟩:=hZ
 exact Jo v w (hH.ah2 (hs _ (qT ..))) (Sl.R6 (hH.ok (we pH 8 F.vv 37 s.ak) (hs _ aJ)))
end
section
variable{W0 w:World}{n:Nat}{s:NP}{lg:List (Value×my)}{tm:List Int}{ids:List Nat}{f:Ct}{tl:List (Nat×Rl)}{b c:Nat}{A R Z:List bu}
theorem aBw(v:Int)(hZ:j6 fr W0 n s lg tm ids f tl b c Z){L:List bu}(hH:Hp W0 w L)(hs:∀x,x∈Z->x∈L):Calls Tryz.prog 21 #[pt n,I v] w (Pure (U (if 0<=v/\v<s.bq.length then s.bq.getD v.toNat 0 else 0)) w):=by
 obtain⟨m,L0,Zf,_,_,_,_,_,F,L1,hI,hL,rfl⟩:=hZ
 exact OG v w (hH.ah2 (hs _ (qT ..))) ((show Sl w F.vy 1 s.bq.length (s.bq.map U)from Sl.R6 (hH.ok (jU U F.vy 35 s.bq) (hs _ aJ))))
end
section
variable{W0 w:World}{n:Nat}{s:NP}{lg:List (Value×my)}{tm:List Int}{ids:List Nat}{f:Ct}{tl:List (Nat×Rl)}{b c:Nat}{A R Z:List bu}
theorem acR(hZ:j6 fr W0 n s lg tm ids f tl b c Z){L:List bu}(hH:Hp W0 w L)(hs:∀x,x∈Z->x∈L):Calls Tryz.prog 16 #[pt n] w (Pure (.tuple #[U s.wy,B s.sk]) w):=by
 obtain⟨m,L0,Zf,_,_,_,_,_,F,L1,hI,hL,rfl⟩:=hZ
 exact Jn w (hH.ah2 (hs _ (qT ..)))
end
theorem AZ{ids:List Nat}{f:Ct}{Zf:List bu}(p:mv)(x:Value)(T7:jb p=true)(hwr:WrF x ids)(hf:Fy 0 f)(w:World)(hT:o3 W0)(hs:DX (Kw W0) p)(hZ:kR (BE fr) ids f [] Zf)(hH:Hp W0 w Zf):Calls Tryz.prog 12 #[.agg (Ss p),x] w (jW fun u w'=>∃(n:Nat) (s:NP) (lg:List (Value×my)) (tm:List Int) (tl:List (Nat×Rl)) (Z:List bu) (c:Nat),u= .tuple #[pt n,B true]/\ux p s/\Aq s/\s.qs=[]/\s.sk=false/\s.wr=x/\(∀y∈s.aq,WrD x y.d)/\c<=100/\j6 fr W0 n s lg tm ids f tl 0 c Z/\Hp W0 w' Z):=by
 obtain⟨⟨hs1,hs2⟩,hsl,hsv⟩:=wu T7
 have hsm:=NB T7
 refine en func12 rfl rfl<|SR<|gM hH (v:= .agg _) rfl<|fun b3 w1 bp=>va (v:= .pointer none) rfl<|va (v:=B false) rfl<|aa<|SR<|V (run_move (show _=x from O))<|cw O (OH _ hwr.cells _) (ay call36 O)<| ?_
 rintro _ C0 ⟨n6,Zn7,rfl,h10,hn9⟩
 obtain⟨Z8,aIf,cN⟩:=j6.new (A:=[_]) (fr:=fr) hn9 hZ hf (Hp.Gm bp h10)
 simp only[gA,eN]at cN
 refine va (v:=Pn _ _) rfl<|aa<|ai<|SR<|V (fA gH 0 O nN O)<|V (bZ (hs.aq.sl.hp cN) iP O O (cN.cell (i:=0) O O))<|V (aC (hs.aq.sl.hp cN) O iP O)<|aE (v:=I 0) rfl<|aa<|aA<|bt (G:=Int×(List pO)×(List bu)) (fun⟨k,ls,Z1⟩ s' w'=>(Fr (4::5::(7::8::(rg 16 13 []))) _ s')/\(Hp W0 w' (_::Z1))/\(s' 16=I k)/\(0<=k)/\(k<=p.aq.length)/\(NC p k.toNat ls)/\(∀y∈ls,WrD x y.d)/\(∃lg tm tl FV,Z1=FV++[]/\j6 fr W0 n6 (npL ls x) lg tm ids f tl 0 k.toNat FV)) (fun⟨k,ls,Z1⟩=>(p.aq.length-k).toNat) ((0,[],(Z8++[]))) ⟨Fr.refl _ _,cN,rfl,J,J,⟨aJ,fun x hx=>by cases hx⟩,(fun y hy=>by cases hy),⟨_,_,_,_,rfl,aIf⟩⟩<| ?_
 rintro⟨k,ls,Z1⟩ ZW QH ⟨mO,cG,TU,h0,hk,hB,hwd,hS⟩
 obtain⟨Bi,mF,au6,au7⟩:=mO.w4 2 6 14 15
 obtain⟨lg1,K2,QB,FV,rfl,K4⟩:=hS
 have hln:=hB.len J
 refine SR<|V (aN TU au7)<|aa<|ai<|aF O (fun yj=> ?_) (fun yj=> ?_)
 .refine an<|ai<|aA<|SR<|aE TU<|V (ah (hs.aq.sl.hp cG) iP vi au6 TU J)<|V (dY (dv:=lH) m9 (hs.aq.sl.hp cG) qY O O O J)<|lJ cG (aS Wg)<|fun Z6 Ti dP=>aI rfl<|bg dP (i:=0) O (dO (c':=(MF _).toArray) O O O (U2 (hs.at J J)) (dP.blk (i:=0) O) O)<|fun QJ eM=>aa<|SR<|have hlm:=dw (d:=lH) h0 ‹k<_›;aE mF<|V (fA qY 1 O uo O)<|V (ja (sub:=wK _) dm O O O (eM.blk (i:=0) O) O)<|cw O (ali (p.aq.getD k.toNat lH).yK (hsm _ hlm).1 (hsm _ hlm).2 (by show ls.length<=1000;omega) hwr J J hT ((hs.at h0 ‹k<_›).mono (Le.z _ _)) (A:=[_,_]) (X:=[]) K4 eM) (aL call19 O O)<| ?_
  rintro _ w37 (⟨hno,-⟩|⟨-,x26,aQZ,aQ0,Z29,aIg,rfl,aIh,aIi,aIj,aQ1,aIk,h36⟩)
  .exact absurd hno (by rintro(q|q);cases q;rw[hsl _ hlm]at q;cases q)
  have uz:Hp _ w37 (_::_::(Z29++[])):=h36
  refine mI rfl<|V (kG O O)<|aa<|cQ (bF ((fun h=>h (by show(ls.length:Int)=k;omega))))<|an<|au<|V (ax TU O J)<|mI rfl<|aa<| ?_
  refine⟨(k+1,ls++[x26],(Z29++[])),aW,mO.u4.u4.u4.u1.u1,(uz.sub (sQ sR)),(aK I aM),J,J,?_,?_,?_⟩
  .exact hB.next h0 ‹k<_› aIg aIh aIi
  ·(intro y hy;rcases fg.1 hy with q|q;exact hwd y q;rw[gG.1 q];exact aIj)
  (rw[show(k+1).toNat=k.toNat+1 by omega];exact⟨_,_,_,_,rfl,aIk⟩)
 refine a7 (id:=0) rfl<|ai<|SR<|V (fA gH 1 O uq Bi)<|V (bZ (hs.vars.sl.hp cG) lS O O (cG.cell (i:=0) O O))<|V (aC (hs.vars.sl.hp cG) O lS O)<|aE (v:=I 0) rfl<|aa<|aA<|have hkl:k.toNat=p.aq.length:=J;?_
 rw[hkl]at K4
 refine bt (G:=Int×NP×(List bu)) (fun⟨j,s,Z2⟩ s' w'=>(Fr (4::5::(9::10::(rg 32 13 []))) _ s')/\(Hp W0 w' (_::Z2))/\(s' 32=I j)/\(0<=j)/\(j<=p.vars.length)/\(J8 p x j.toNat s)/\(∀y∈s.aq,WrD x y.d)/\(∃lg tm tl Xq,Z2=Xq++[]/\j6 fr W0 n6 s lg tm ids f tl 0 (p.aq.length+j.toNat) Xq)) (fun⟨j,s,Z2⟩=>(p.vars.length-j).toNat) ((0,npL ls x,(FV++[]))) ⟨Fr.refl _ _,cG,rfl,J,J,hB.fin h0 ‹¬k<_›,hwd,⟨_,_,_,_,rfl,K4⟩⟩ ?_
 rintro⟨j,s,Z2⟩ aQ2 w40 ⟨au8,lE,TV,j0,hj,hI,aBx,hS2⟩
 obtain⟨au9,ava⟩:=au8.w2 30 31
 have aq8:=au8.t1 6 mF
 obtain⟨lg2,tm2,tl2,Xq,rfl,hZ2⟩:=hS2
 have Qw:=hI.nv
 have aIl:=hI.len
 refine SR<|V (aN TV ava)<|aa<|ai<|aF O (fun h42=> ?_) (fun h42=> ?_)
 .refine an<|ai<|aA<|SR<|aE TV<|V (ah (hs.vars.sl.hp lE) lS E4 au9 TV J)<|V (dY (dv:=fp) tD (hs.vars.sl.hp lE) oX O O O J)<|lJ lE (aS Tryz.zeroValue63)<|fun b45 w43 qm=>aI rfl<|bg qm (i:=0) O (dO (c':=(OU _).toArray) O O O LF (qm.blk (i:=0) O) O)<|fun w48 FL=>aa<|SR<|have hvl:=(hsv _ (dw (d:=fp) j0 ‹j<_›)).2;?_
  rw[<-aIl]at hvl
  refine aE aq8<|V (fA oX 2 O aO O)<|lI bx FL 0 O O rfl<|cw O (acO (p.vars.getD j.toNat fp).a8 hI.nw.ns.ok J J (A:=[_,_]) (R:=[]) hZ2 FL) (aL call18 O O)<| ?_
  rintro _ w57 (⟨hno,-⟩|⟨-,-,rfl,aQ3,Z53,aQ4,aIm,G8⟩)
  .exact absurd ⟨hI.sk,hvl.1,hvl.2⟩ hno
  have oF:Hp _ w57 (_::_::(Z53++[])):=G8
  refine mI rfl<|V (kG O O)<|aa<|cQ (bF ((fun h=>h J)))<|an<|au<|V (ax TV O J)<|mI rfl<|aa<| ?_
  refine⟨(j+1,qM s (p.vars.getD j.toNat fp).a8 (s.aq.getD (p.vars.getD j.toNat fp).a8.toNat pQ).low,(Z53++[])),aW,au8.u4.u4.u4.u1.u1,(oF.sub (sQ sR)),(aK I aM),J,J,?_,?_,?_⟩
  .exact hI.next j0 ‹j<_› hs2 hvl
  .exact aBx
  (rw[show(j+1).toNat=j.toNat+1 by omega,<-xR];exact⟨_,_,_,_,rfl,aIm⟩)
 refine a7 (id:=2) rfl<|SR<|aE aq8<|va (v:=Pn _ _) rfl<|va (v:=B true) rfl<|aa<|aj<|afT O O O ⟨n6,s,_,_,_,_,p.aq.length+j.toNat,rfl,hI.fin j0 hj ‹¬j<_›,hI.nw,hI.qs,hI.sk,hI.wr,aBx,J,hZ2,by simpa using(lE.sub (sQ sR))⟩
theorem Dq{s:NP}{ids:List Nat}{f:Ct}{tl:List (Nat×Rl)}{b c:Nat}{Z:List bu}(x:iU)(i:Int)(hok:D4 s)(ov:x.code.length<=1000)(hi:0<=i/\i<=1000)(hb:b<=70)(hc:c<=1000)(w:World)(hT:o3 W0)(hx:JZ (Kw W0) x)(hZ:j6 fr W0 n s lg tm ids f tl b c Z)(hH:Hp W0 w Z):Calls Tryz.prog 13 #[pt n,.agg (vP x).toArray,I i] w (jW fun u w'=>∃(ok:Bool) (s':NP) (new:List (Value×my)) (T5:List Int) (Z':List bu),u=B ok/\Wc s s' x i.toNat ok/\iN new s s'/\TmX x.op ok lg tm T5/\j6 fr W0 n s' (lg++new) T5 ids f tl b (c+1) Z'/\Hp W0 w' Z'):=by
 refine en func13 rfl rfl<|have hH:=(show Hp W0 w (Z++[])by simpa using hH);SR<|gM hH (v:= .agg _) rfl<|fun b3 w1 bp=>va (v:=B false) rfl<|aa<|SR<|V (fA fJ 0 O aO O)<|lI bx bp 0 O O rfl<|V (kG O O)<|mB rfl<|bM 10 O (fun h5=> ?_) (fun h5=> ?_)
 .refine aE (v:=B true) rfl<|aB rfl<|aa<|aj<|jy (v:=B true) O O ⟨true,s,[],tm,Z,rfl,⟨fun _=>⟨rfl,rfl⟩,fun q=>absurd q lz⟩,iN.nil s,TmX.no lz,by rw[mY];exact j6.more hZ (eU _) (Nat.le_succ _),(by simpa using(bp.sub (sQ sR)))⟩
 refine aE (v:=Pn _ _) rfl<|V (fA fJ 1 O aO O)<|lI bx bp 0 O O rfl<|V (fA fJ 2 O xV O)<|V (bZ (hx.code.sl.hp bp) ia O O (bp.cell (i:=0) O O))<|V (fA fJ 3 O kO O)<|V (ja (sub:=jG _) kK O O O (bp.blk (i:=0) O) (abq _))<|mI rfl<|V (kq bx Cb O)<|V (F9 (a:=1#64) O O)<|cw O (acP x.a8 x.cv x.code x.to _ hok ov hb hc hT (A:=[_]) (X:=[]) (hx.code.mono (Le.z _ _)) hZ bp) (sD call25 O O O O O)<| ?_
 rintro _ K0 ⟨ok8,s9,aIn,aIo,Z12,rfl,aBz,aIp,at2,aIq,G5⟩
 have iD:Hp _ K0 (_::(Z12++[])):=G5
 refine mB rfl<|aB rfl<|aa<|aj<|jy (v:=B ok8) O O ⟨ok8,s9,aIn,aIo,Z12,rfl,⟨fun q=>absurd J q,fun _=>by rw[aEn hi]at aBz;exact aBz⟩,aIp,TmX.yes J at2,aIq,(by simpa using(iD.sub (sQ sR)))⟩
theorem j7(w:World)(hT:o3 w):Calls Tryz.prog 11 #[] w (Pure (B true) w):=by
 have hwr:WrF .nilFunc []:= .inl O
 have hZ:=kR.nil (T:=BE [])
 have hf:=Fy.zero
 obtain⟨-,SE⟩:=Ap (aEp N_ N_ N_ N_ N_ N_ N_ N_)
 have ov:=aEq N_ N_ N_
 refine eH func11 rfl rfl fun hH=>SR<|va (v:=B false) rfl<|aa<|SR<|cw O (OH _ hwr.cells _) (ay call36 (show _=Value.nilFunc from O))<| ?_
 rintro _ EB ⟨n3,Zn4,rfl,h7,hn6⟩
 obtain⟨Z5,hZ8,iE⟩:=j6.new (A:=[]) (fr:=[]) hn6 hZ hf (by simpa using Hp.Gm hH h7)
 simp only[gA,eN]at iE
 refine va (v:=Pn _ _) rfl<|aa<|SR<|aE (v:=Pn _ _) rfl<|tQ 2 2 iE (cB dW O O (sz:=1) (vs:=[.string ⟨#[108,111]⟩,.string ⟨#[104,105]⟩]) O O az az O O)<|fun NY I2 cN=>have cG:Hp _ I2 (([bu.blk NY (.cells (Jy wL).toArray 9 (0,0))]++(Z5++[]))):=Hp.Iz (Z:=[bu.blk NY (.cells (Jy wL).toArray 9 (0,0))]) (L:=[]) (L':=(Z5++[])) cN;have aoS:pB (Kz (Kw w) [bu.blk NY (.cells (Jy wL).toArray 9 (0,0))]) (.slice (some ⟨NY,0,none⟩) 2 2) 1 2 (Jy wL):=Gn (qT ..) O gd;have cI:=Hp.mL (A:=[]) (B:=[bu.blk NY (.cells (Jy wL).toArray 9 (0,0))]) (R:=Z5) cG;V (dJ (vs:=[(0,I 1),(1,.slice (some ⟨NY,0,none⟩) 2 2)]) O (aet 1 NY 2 wL))<|tQ 1 1 cI (zY dr O O O (l:=[_]) O az az O)<|fun Z6 Ti dP=>have cT:Hp _ Ti (([bu.blk Z6 (.cells ([(⟨1,.slice (some ⟨NY,0,none⟩) 2 2,wL,Rl.none⟩:qw)].flatMap sH).toArray 88 (0,0))]++(Z5++([bu.blk NY (.cells (Jy wL).toArray 9 (0,0))]++[])))):=Hp.Iz (Z:=[bu.blk Z6 (.cells ([(⟨1,.slice (some ⟨NY,0,none⟩) 2 2,wL,Rl.none⟩:qw)].flatMap sH).toArray 88 (0,0))]) (L:=[]) (L':=(Z5++([bu.blk NY (.cells (Jy wL).toArray 9 (0,0))]++[]))) dP;have aIr:pB (Kz (Kw w) [bu.blk Z6 (.cells ([(⟨1,.slice (some ⟨NY,0,none⟩) 2 2,wL,Rl.none⟩:qw)].flatMap sH).toArray 88 (0,0))]) (.slice (some ⟨Z6,0,none⟩) 1 1) 67 1 ([(⟨1,.slice (some ⟨NY,0,none⟩) 2 2,wL,Rl.none⟩:qw)].flatMap sH):=Gn (qT ..) (fK fy _) gd;have cD:=Hp.mL (A:=[]) (B:=[bu.blk Z6 (.cells ([(⟨1,.slice (some ⟨NY,0,none⟩) 2 2,wL,Rl.none⟩:qw)].flatMap sH).toArray 88 (0,0))]) (R:=Z5) cT;V (dJ (vs:=[(1,.slice (some ⟨Z6,0,none⟩) 1 1)]) O (ZR O))<|have hsh:k7 (Kz (Kw w) ([bu.blk Z6 (.cells ([(⟨1,.slice (some ⟨NY,0,none⟩) 2 2,wL,Rl.none⟩:qw)].flatMap sH).toArray 88 (0,0))]++([bu.blk NY (.cells (Jy wL).toArray 9 (0,0))]++[]))) (⟨false,.slice (some ⟨Z6,0,none⟩) 1 1,[(⟨1,.slice (some ⟨NY,0,none⟩) 2 2,wL,Rl.none⟩:qw)]⟩:kP):=⟨(aIr.mono (Le.zz (fun x hx=>(dL _ hx)))),fun x hx=>by rw[gG.1 hx];exact⟨(aoS.mono (Le.zz (fun x hx=>(bH _ (dL _ hx)))))⟩⟩;cw O (ali (⟨false,.slice (some ⟨Z6,0,none⟩) 1 1,[(⟨1,.slice (some ⟨NY,0,none⟩) 2 2,wL,Rl.none⟩:qw)]⟩:kP) (show 1<=1000 by decide) (fun f hf=>by rw[gG.1 hf];exact(by decide:wL.length<=1000)) az hwr J J hT hsh (A:=[]) (X:=([bu.blk Z6 (.cells ([(⟨1,.slice (some ⟨NY,0,none⟩) 2 2,wL,Rl.none⟩:qw)].flatMap sH).toArray 88 (0,0))]++([bu.blk NY (.cells (Jy wL).toArray 9 (0,0))]++[]))) hZ8 cD) (aL call19 O O)<| ?_
 rintro _ w36 (⟨hno,-⟩|⟨-,x25,aQ8,aQ9,Z28,aIs,rfl,aIt,aIu,aul,aRb,akG,BI⟩)
 .exact absurd hno (by rintro(q|q);cases q;exact absurd (q.symm.trans aEr) az)
 have uy:Hp _ w36 ((Z28++[])):=BI
 refine V (run_assign (show _=I 0 from O))<|aa<|SR<|have hB1:NC (rG N_ N_ N_ N_) 1 [x25]:=NC.next (p:=(rG N_ N_ N_ N_)) (k:=0) (ls:=[]) ⟨rfl,fun x hx=>by cases hx⟩ J az aIs aIt aIu;have hI0:=NC.fin (p:=(rG N_ N_ N_ N_)) (k:=1) (x:= .nilFunc) hB1 J az;aE (v:=Pn _ _) rfl<|mI rfl<|cw O (acO 0 hI0.nw.ns.ok J J (A:=[]) (R:=[]) akG uy) (aL call18 O O)<| ?_
 rintro _ w45 (⟨hno,-⟩|⟨-,-,rfl,aRd,Z41,aRf,aIv,h44⟩)
 .exact absurd ⟨hI0.sk,az,(show(0:Int)<((1:Nat):Int)by decide)⟩ hno
 have oa:Hp _ w45 ((Z41++[])):=h44
 have hI1:=J8.next (j:=0) hI0 J az az ⟨az,(show(0:Int)<((1:Nat):Int)by decide)⟩
 refine aE (v:=Pn _ _) rfl<|mI rfl<|cw O (acO 0 hI1.nw.ns.ok J J (A:=[]) (R:=[]) aIv oa) (aL call18 O O)<| ?_
 rintro _ w54 (⟨hno,-⟩|⟨-,-,rfl,aRg,Z50,aRh,aIw,h53⟩)
 .exact absurd ⟨hI1.sk,az,(show(0:Int)<((1:Nat):Int)by decide)⟩ hno
 have jz:Hp _ w54 ((Z50++[])):=h53
 refine V (run_assign (show _=I 0 from O))<|V (run_assign (show _=I 1 from O))<|aa<|SR<|have hI2:=J8.next (j:=1) hI1 J az az ⟨az,(show(0:Int)<((1:Nat):Int)by decide)⟩;have hL0:=CU.start (l:=(Be N_ N_ N_)) (J8.fin (j:=2) hI2 J az az) hI2.nw hI2.qs;aE (v:=Pn _ _) rfl<|mI rfl<|V (dJ (vs:=[(0,U 1#64)]) O (QE _))<|V (dJ (vs:=[(0,I 2),(2,.agg (iM xq))]) O (aaD 2 xq))<|tQ 1 1 jz (ou gO ia O O O (l:=[_]) O az az O)<|fun b58 w56 aaM=>have BR:Hp _ w56 (([bu.blk b58 (.cells ([⟨2,0,xq⟩].flatMap j9).toArray 90 (0,0))]++(Z50++[]))):=Hp.Iz (Z:=[bu.blk b58 (.cells ([⟨2,0,xq⟩].flatMap j9).toArray 90 (0,0))]) (L:=[]) (L':=(Z50++[])) aaM;have aIx:pB (Kz (Kw w) [bu.blk b58 (.cells ([⟨2,0,xq⟩].flatMap j9).toArray 90 (0,0))]) (.slice (some ⟨b58,0,none⟩) 1 1) 10 1 ([⟨2,0,xq⟩].flatMap j9):=Gn (qT ..) (fK gO _) gd;have D9:=Hp.mL (A:=[]) (B:=[bu.blk b58 (.cells ([⟨2,0,xq⟩].flatMap j9).toArray 90 (0,0))]) (R:=Z50) BR;mI rfl<|V (dJ (vs:=[(0,I 0)]) O (Dp 0))<|cw O (acP 0 _ [⟨2,0,xq⟩] ⟨0,dg⟩ 1#64 hI2.nw.ns.ok az J J hT (A:=[]) (X:=([bu.blk b58 (.cells ([⟨2,0,xq⟩].flatMap j9).toArray 90 (0,0))]++[])) (aIx.mono (Le.zz (fun x hx=>(dL _ hx)))) aIw D9) (sD call25 O O O O (show _=U 1#64 from O))<| ?_
 rintro _ w74 ⟨aIy,s65,aRk,aRl,Z68,rfl,aIz,aRm,aRn,aoI,h73⟩
 have uZ:Hp _ w74 ((Z68++[])):=h73
 refine aB rfl<|aa<|SR<|have hX0:Wc _ s65 ((Be N_ N_ N_).getD 0 dV) 0 aIy:=⟨fun q=>absurd O q,fun _=>aIz⟩;?_
 obtain⟨aIA,hL1,aIB,-⟩:=CU.add hL0 az az SE ov hI2.sk hX0
 subst aIA
 refine aE (v:=Pn _ _) rfl<|mI rfl<|mI rfl<|V (dJ (vs:=[(0,I 1),(1,I 0)]) O (Oz 1 0))<|tQ 1 1 uZ (ou gO ia O O O (l:=[_]) O az az O)<|fun b79 w77 zh=>have pA:Hp _ w77 (([bu.blk b79 (.cells ([⟨1,0,dg⟩].flatMap j9).toArray 90 (0,0))]++(Z68++[]))):=Hp.Iz (Z:=[bu.blk b79 (.cells ([⟨1,0,dg⟩].flatMap j9).toArray 90 (0,0))]) (L:=[]) (L':=(Z68++[])) zh;have aIC:pB (Kz (Kw w) [bu.blk b79 (.cells ([⟨1,0,dg⟩].flatMap j9).toArray 90 (0,0))]) (.slice (some ⟨b79,0,none⟩) 1 1) 10 1 ([⟨1,0,dg⟩].flatMap j9):=Gn (qT ..) (fK gO _) gd;have oT:=Hp.mL (A:=[]) (B:=[bu.blk b79 (.cells ([⟨1,0,dg⟩].flatMap j9).toArray 90 (0,0))]) (R:=Z68) pA;mI rfl<|V (dJ (vs:=[(0,I 1)]) O (Dp 1))<|cw O (acP 0 _ [⟨1,0,dg⟩] ⟨1,dg⟩ 2#64 hL1.nw.ns.ok az J J hT (A:=[]) (X:=([bu.blk b79 (.cells ([⟨1,0,dg⟩].flatMap j9).toArray 90 (0,0))]++[])) (aIC.mono (Le.zz (fun x hx=>(dL _ hx)))) aoI oT) (sD call25 O O O O (show _=U 2#64 from O))<| ?_
 rintro _ w95 ⟨aID,s86,aRr,aRs,Z89,rfl,aIE,aRu,aRv,aIF,h94⟩
 have pX:Hp _ w95 ((Z89++[])):=h94
 refine aB rfl<|aa<|SR<|have hX1:Wc s65 s86 ((Be N_ N_ N_).getD 1 dV) 1 aID:=⟨fun q=>absurd O q,fun _=>aIE⟩;?_
 obtain⟨aaI,hL2,avb,-⟩:=CU.add hL1 az az SE ov aIB hX1
 subst aaI
 refine aE (v:=Pn _ _) rfl<|cw O (Hu hT hL2.nw J J (A:=[]) (R:=[]) aIF pX) (ay call15 O)<| ?_
 rintro _ avc ⟨aBB,ae5,aLA,f103,aRy,aRz,aoT,rfl,aBC,aLB,aLC,aLD,aLE,Xf,akN⟩
 have xF:Hp _ avc ((aoT++[])):=akN
 have hP1:=CU.set hL2 az (aBC.go avb)
 have aIG:aBB=true:=hP1.is.2 asW
 subst aIG
 have Qa:ae5.ak.length=2:=hP1.net.np.nv
 have hy2:ae5.bq.length=2:=hP1.net.nw.ns.ok.T3.trans Qa
 have hv1:rS (ae5.ak.getD 1 dg) xq:=anN (hP1.low O) (hP1.all O)
 have hy1:ae5.bq.getD 1 0&&&3#64=3#64:=axF (x:=vQ ae5.ak) hv1 (hP1.why O 1 az)
 refine mB rfl<|cC O rfl<|aE (v:=Pn _ _) rfl<|mI rfl<|aH O xF (acQ _ Xf xF (fun x hx=>(dL _ hx))) (aL call23 O O)<|fun aoL zl=>V (dJ (vs:=[(0,U 1#64)]) O (QE _))<|V (IB CX O O)<|mB rfl<|mB rfl<|cC O (bT ((by rw[(aX (show(0:Int)<=1/\(1:Int)<_ from⟨J,J⟩))];exact hv1)))<|aE (v:=Pn _ _) rfl<|mI rfl<|aH O zl (aBw _ Xf zl (fun x hx=>(dL _ hx))) (aL call21 O O)<|fun aIc acN=>V (lY O (b:=3#64) O)<|V (jO O (b:=3#64) O)<|mB rfl<|aB rfl<|aa<|SR<|aE (v:=Pn _ _) rfl<|mI rfl<|mI rfl<|V (dJ (vs:=[(0,I 1),(1,I 1)]) O (Oz 1 1))<|tQ 1 1 acN (ou gO ia O O O (l:=[_]) O az az O)<|fun ae6 atN pY=>have aBD:Hp _ atN (([bu.blk ae6 (.cells ([⟨1,1,dg⟩].flatMap j9).toArray 90 (0,0))]++(aoT++[]))):=Hp.Iz (Z:=[bu.blk ae6 (.cells ([⟨1,1,dg⟩].flatMap j9).toArray 90 (0,0))]) (L:=[]) (L':=(aoT++[])) pY;have ala:pB (Kz (Kw w) [bu.blk ae6 (.cells ([⟨1,1,dg⟩].flatMap j9).toArray 90 (0,0))]) (.slice (some ⟨ae6,0,none⟩) 1 1) 10 1 ([⟨1,1,dg⟩].flatMap j9):=Gn (qT ..) (fK gO _) gd;have alb:=Hp.mL (A:=[]) (B:=[bu.blk ae6 (.cells ([⟨1,1,dg⟩].flatMap j9).toArray 90 (0,0))]) (R:=aoT) aBD;V (dJ (vs:=[(0,I (-1))]) O (Dp (-1)))<|cw O (acP 0 _ [⟨1,1,dg⟩] ⟨-1,dg⟩ 4#64 hP1.net.nw.ns.ok az J J hT (A:=[]) (X:=([bu.blk ae6 (.cells ([⟨1,1,dg⟩].flatMap j9).toArray 90 (0,0))]++[])) (ala.mono (Le.zz (fun x hx=>(dL _ hx)))) Xf alb) (sD call25 O O O O (show _=U 4#64 from O))<| ?_
 rintro _ ae2 ⟨aBE,aIH,aLF,aLG,aII,rfl,aBF,aLH,aLI,aq9,avd⟩
 have mq:Hp _ ae2 ((aII++[])):=avd
 refine aB rfl<|aa<|SR<|have hX2:Wc ae5 aIH ((Be N_ N_ N_).getD 2 dV) 2 aBE:=⟨fun q=>absurd O q,fun _=>aBF⟩;?_
 obtain⟨Wq,hL3,aIJ,-⟩:=CU.add hP1.net az az SE ov hP1.sk hX2
 subst Wq
 refine aE (v:=Pn _ _) rfl<|cw O (Hu hT hL3.nw J J (A:=[]) (R:=[]) aq9 mq) (ay call15 O)<| ?_
 rintro _ ayq ⟨ara,aRC,aLK,f149,aRD,aRE,aIK,rfl,aBG,aLL,aLM,aLN,aLO,aBH,aIL⟩
 have WW:Hp _ ayq ((aIK++[])):=aIL
 refine aB rfl<|aa<|SR<|have hP2:=CU.set hL3 az (aBG.go aIJ);have aIN:ara=false:=(by cases h:ara;rfl;exact absurd (hP2.is.1 h) axG);?_
 subst aIN
 refine aE (v:=Pn _ _) rfl<|aH O WW (acR aBH WW (fun x hx=>(dL _ hx))) (ay call16 O)<|fun aH5 acL=> ?_
 refine V (run_move bA) ?_
 refine V (bk O (v:=U _) O)<|V (bk O (v:=B _) O)<|aU rfl<|aB rfl<|aa<|SR<|mB rfl<|mB rfl<|cC O rfl<|mB rfl<|mB rfl<|mB rfl<|cC O rfl<|mB rfl<|mB rfl<|mB rfl<|cC O (bT ((by rw[(aX (show(0:Int)<=1/\(1:Int)<_ from⟨J,J⟩))];exact hy1)))<|mB rfl<|mB rfl<|mB rfl<|cC O rfl<|mB rfl<|V (bJ O)<|mB rfl<|mB rfl<|cC O rfl<|mB rfl<|mB rfl<|mB rfl<|cC O (bR (c:=true) (hP2.sk))<|mU rfl<|V (lY O (b:=7#64) O)<|V (jO O (b:=7#64) O)<|mB rfl<|aB rfl<|aa<|aj<|oB O ?_ acL
 exact gW (anO (hP2.no O))
end
section
open Go Go.RowKit Go.Proofs.YtlhjdflgjbkpmaaGreatDoor.E Go.Proofs.YtlhjdflgjbkpmaaGreatDoor.M
set_option maxRecDepth 100000
open Go.Proofs.Tryz
variable{fr:List bu}
variable{W0 w:World}{n m:Nat}{cs:List (List Nat)}{wr:Value}{vL:Value}{vt:Value}{vv:Value}{vy:Value}{vu:Value}{vq:Value}{sn:Int}{vW:Value}{vU:Value}{vT:Value}{cn:Int}{sk:Bool}{wy:BitVec 64}{vd:Value}{vm:Value}{cW:Option (Nat×Array Value)}{cU:Option (Nat×Array Value)}{W:List (BitVec 64)}{ul:List (Value×jQ)}{ts:List Int}{aq:List pO}{a8:List Int}{ak:List El}{bq:List (BitVec 64)}{us:List jY}{qs:List dD}{lg:List (Value×my)}{tm:List Int}{L:List bu}
theorem A0(p:pI)(w:World)(hp:A9 (Kw w) p):Calls Tryz.prog 10 #[.agg (yO p).toArray] w (Pure (B (mK p)) w):=by
 have BY:=hp.bf.small
 unfold maxLen at BY
 refine eH func10 rfl rfl fun hH=>SR<|gM hH (v:= .agg _) rfl<|fun b3 w1 bp=>va (v:=B false) rfl<|aa<|ai<|SR<|V (fA nZ 0 O zH O)<|V (ja (sub:=DY _) gH O O O (bp.blk (i:=0) O) (Gv _))<|aH O bp (AR _ _ (hp.s.mono bp.kw)) (ay call34 O)<|fun w4 bY=>V (bJ O)<|mB rfl<|eF 8 O (fun h8=> ?_) (fun h8=> ?_)
 .refine aE (v:=B true) rfl<|aa<|cA rfl<|SR<|va (v:=B false) rfl<|aa<|aj<|oB O ?_ bY
  (rw[ahF (nt ‹(!jb p.s)=true›)];done)
 refine V (fA nZ 2 O xW O)<|V (bZ (hp.bf.sl.hp bY) oZ O O (bY.cell (i:=0) O O))<|V (aC (hp.bf.sl.hp bY) O oZ O)<|V (dN O O)<|mB rfl<|aa<|aF O (fun h10=> ?_) (fun h10=> ?_)
 .refine SR<|va (v:=B false) rfl<|aa<|aj<|oB O ?_ bY
  (rw[ahG J];done)
 refine an<|ai<|SR<|va (v:=I 0) rfl<|aa<|aA<|have hsz:¬64<p.bf.length:=J;bt (G:=Int) (fun k s' w'=>(Fr (2::3::(rg 14 16 [])) _ s')/\(Hp w w' _)/\(s' 3=I k)/\(0<=k)/\(k<=p.bf.length)/\(∀j:Int,0<=j->j<k->kM p.s (p.bf.getD j.toNat dV)=true)) (fun k=>(p.bf.length-k).toNat) (0) ⟨Fr.refl _ _,bY,rfl,J,J,fun j a b=>absurd b J⟩<| ?_
 rintro k axR I2 ⟨Ka,df,alj,h0,hk,hg⟩
 have EI:=Ka.w1 1
 refine ai<|SR<|aE alj<|V (fA nZ 2 O xW EI)<|V (bZ (hp.bf.sl.hp df) oZ O O (df.cell (i:=0) O O))<|V (aC (hp.bf.sl.hp df) O oZ O)<|V (aN O O)<|aa<|aF O (fun Th=> ?_) (fun Th=> ?_)
 .refine an<|ai<|aA<|ai<|ec aP df<|fun QH gS=>have aaP:=gS;AQ 0 O aaP (fA nZ 0 O zH EI)<|AT 1 O aaP (fun w hS=>ja (sub:=DY _) gH O O O (hS.blk (i:=0) O) (Gv _))<|AQ 2 O aaP (fA nZ 2 O xW EI)<|AT 3 O aaP (fun w hS=>bZ (hp.bf.sl.hp hS) oZ O O (hS.cell (i:=0) O O))<|AQ 4 O aaP (run_move alj)<|AT 5 O aaP (fun w hS=>ah (hp.bf.sl.hp hS) oZ Lx O O J)<|AT 6 O aaP (fun w hS=>dY (dv:=dV) yN (hp.bf.sl.hp hS) fJ O O O J)<|A1 7<|ct O aD O gS sR (AS _ _ _ (hp.s.mono gS.kw) ((hp.at J J).mono gS.kw)) (aL call35 O O)<|fun I4 ep=>AQ 8 O ep (bJ O)<|AD<|bW O (fun OT=> ?_) (fun OT=> ?_)
  .refine SR<|va (v:=B false) rfl<|aa<|aj<|oB O ?_ ep
   (rw[ahH h0 ‹k<_› (nt ‹(!kM p.s _)=true›)];done)
  refine an<|au<|aE alj<|V (ax O O J)<|aI rfl<|aa<| ?_
  refine⟨k+1,aW,Ka.u4.u4.u4.u4.u1,ep,(aK I aM),J,J,?_⟩
  exact fun j u v=>if e:j=k then e▸nf ‹(!kM _ _)=false›else hg j u J
 refine a7 (id:=0) rfl<|SR<|va (v:=B true) rfl<|aa<|aj<|oB O ?_ df
 (rw[ahI (nf ‹(!jb p.s)=false›) J ‹¬k<_› hg];done)
theorem BW(x:iU)(w:World)(hx:JZ (Kw w) x):Calls Tryz.prog 33 #[.agg (vP x).toArray] w (Pure (B (xk x)) w):=by
 have BY:=hx.code.small
 have J4:=hx.a.fields.small
 have hm3:=hx.b.fields.small
 unfold maxLen at BY J4 hm3
 refine eH func33 rfl rfl fun hH=>SR<|gM hH (v:= .agg _) rfl<|fun b3 w1 bp=>va (v:=B false) rfl<|aa<|ai<|SR<|V (fA fJ 2 O xV O)<|V (bZ (hx.code.sl.hp bp) ia O O (bp.cell (i:=0) O O))<|V (aC (hx.code.sl.hp bp) O ia O)<|V (dN O O)<|mB rfl<|bM 9 O (fun h5=> ?_) (fun h5=> ?_)
 .refine aE (v:=B true) rfl<|mB rfl<|cC O rfl<|aE (v:=B true) rfl<|mB rfl<|cC O rfl<|aE (v:=B true) rfl<|aa<|cA rfl<|SR<|va (v:=B true) rfl<|aa<|aj<|oB O ?_ bp
  exact(DN J).symm
 refine V (fA fJ 12 O HM O)<|V (fA p9 0 O vk O)<|V (bZ (hx.a.fields.sl.hp bp) m4 O O (bp.cell (i:=0) O O))<|V (aC (hx.a.fields.sl.hp bp) O m4 O)<|V (dN O O)<|mB rfl<|mB rfl<|bM 16 O (fun h7=> ?_) (fun h7=> ?_)
 .refine aE (v:=B true) rfl<|mB rfl<|cC O rfl<|aE (v:=B true) rfl<|aa<|cA rfl<|SR<|va (v:=B true) rfl<|aa<|aj<|oB O ?_ bp
  exact(DN J).symm
 refine V (fA fJ 14 O HM O)<|V (fA p9 0 O vk O)<|V (bZ (hx.b.fields.sl.hp bp) m4 O O (bp.cell (i:=0) O O))<|V (aC (hx.b.fields.sl.hp bp) O m4 O)<|V (dN O O)<|mB rfl<|mB rfl<|bM 23 O (fun h9=> ?_) (fun h9=> ?_)
 .refine aE (v:=B true) rfl<|aa<|cA rfl<|SR<|va (v:=B true) rfl<|aa<|aj<|oB O ?_ bp
  exact(DN J).symm
 refine V (fA fJ 17 O ko O)<|V (aG iy O O (bp.cell (i:=0) O (v:= .string _) O))<|V (lA O iy O)<|V (dN O O)<|mB rfl<|aa<|aF O (fun h11=> ?_) (fun h11=> ?_)
 .refine SR<|va (v:=B true) rfl<|aa<|aj<|oB O ?_ bp
  exact(DN J).symm
 refine an<|ai<|ai<|ec aP bp<|fun y8 bX=>have aaQ:=bX;AQ 1 O aaQ (fA fJ 12 O HM O)<|AQ 2 O aaQ (fA p9 0 O vk O)<|AT 3 O aaQ (fun w hS=>bZ (hx.a.fields.sl.hp hS) m4 O O (hS.cell (i:=0) O O))<|AQ 5 O aaQ (fA fJ 14 O HM O)<|AQ 6 O aaQ (fA p9 0 O vk O)<|AT 7 O aaQ (fun w hS=>bZ (hx.b.fields.sl.hp hS) m4 O O (hS.cell (i:=0) O O))<|AQ 10 O aaQ (mV (I 0) O)<|A1 0<|cH O aD O bX sR (f:=fun b=> .slice (some ⟨b,0,none⟩) 0 0) (s0 m4 HK)<|fun b16 QH gS=> ?_
 (try simp only[lf]at gS)
 have ep:=gS.sE 0 10 O az
 refine A1 4<|fT O aD O ep (j:=0) O (fun _=>(sQ sR)) (hx.a.fields.sl.hp ep) O O m4 O O (size:=10) (bytes:=88) O O O az (MZ _) (by show(0+_)*_<=_;omega) (by show 0+_<=_;simp only[maxLen];omega)<|fun v20 K0 iD=>A1 8<|fT O aD O iD (j:=0) O (fun _=>(sQ sR)) (hx.b.fields.sl.hp iD) O O m4 O O (size:=10) (bytes:=88) O O O az (MZ _) (by show(_+_)*_<=_;omega) (by show _+_<=_;simp only[maxLen];omega)<|fun v23 NL cD=>A1 9<|cf O aD O cD (sQ sR) (aC (cD.sl (i:=0) O) O m4 O)<|AD<|aA<|have hap:(x.a.fields++x.b.fields).length=x.a.fields.length+x.b.fields.length:=dZ;?_
 simp only[gN,eN,<-F5,<-dZ]at cD
 refine bt (G:=Int) (fun k s' w'=>(Fr (2::(4::(rg 39 9 []))) _ s')/\(Hp w w' _)/\(s' 39=I k)/\(0<=k)/\(k<=(x.a.fields++x.b.fields).length)/\(∀j:Int,0<=j->j<k->decide (40<((x.a.fields++x.b.fields).getD j.toNat nP).name.size)=false)) (fun k=>((x.a.fields++x.b.fields).length-k).toNat) (0) ⟨Fr.refl _ _,cD,rfl,J,J,fun j a b=>absurd b J⟩ ?_
 rintro k aEE Wv ⟨ajT,jf,aaR,h0,hk,hg⟩
 obtain⟨ave,avf⟩:=ajT.w2 37 38
 refine SR<|V (aN aaR avf)<|aa<|ai<|aF O (fun Wt=> ?_) (fun Wt=> ?_)
 .refine an<|ai<|aA<|SR<|V (ah (jf.sl (i:=0) O) m4 HK ave aaR J)<|V (dY (dv:=nP) sJ (jf.sl (i:=0) O) HI O O O J)<|lJ jf (aS ZT)<|fun b31 w29 iV=>bg iV (i:=0) O (dO (c':=(uw _).toArray) O O O (MR _) (iV.blk (i:=0) O) O)<|fun w32 ke=>aa<|SR<|V (fA HI 0 O ko O)<|V (aG iy O O (ke.cell (i:=0) O (v:= .string _) O))<|V (lA O iy O)<|V (dN O O)<|aa<|aF O (fun BI=> ?_) (fun BI=> ?_)
  .refine SR<|va (v:=B true) rfl<|aa<|aj<|oB O ?_ ke
   exact(adQ O h0 J J).symm
  refine an<|au<|V (ax aaR O J)<|mI rfl<|aa<| ?_
  refine⟨k+1,aW,ajT.u4.u4.u1.u1,(ke.sub (sQ sR)),(aK I aM),J,J,?_⟩
  exact fun j u v=>if e:j=k then e▸gZ (by omega)else hg j u J
 refine a7 (id:=0) rfl<|SR<|va (v:=B false) rfl<|aa<|aj<|oB O ?_ jf
 exact(amL O J J hg).symm
theorem Dr(p:pI)(w:World)(hp:A9 (Kw w) p):Calls Tryz.prog 9 #[.agg (yO p).toArray] w (Pure (B (O0 p)) w):=by
 have BY:=hp.bf.small
 unfold maxLen at BY
 refine eH func9 rfl rfl fun hH=>SR<|gM hH (v:= .agg _) rfl<|fun b3 w1 bp=>va (v:=B false) rfl<|aa<|ai<|SR<|V (fA nZ 0 O zH O)<|V (ja (sub:=DY _) gH O O O (bp.blk (i:=0) O) (Gv _))<|aH O bp (Db _ _ (hp.s.mono bp.kw)) (ay call32 O)<|fun w4 bY=>mB rfl<|eF 8 O (fun h7=> ?_) (fun h7=> ?_)
 .refine aE (v:=B true) rfl<|aa<|cA rfl<|SR<|va (v:=B true) rfl<|aa<|aj<|oB O ?_ bY
  exact(P9 (.inl aQ)).symm
 refine V (fA nZ 2 O xW O)<|V (bZ (hp.bf.sl.hp bY) oZ O O (bY.cell (i:=0) O O))<|V (aC (hp.bf.sl.hp bY) O oZ O)<|V (dN O O)<|mB rfl<|aa<|aF O (fun h9=> ?_) (fun h9=> ?_)
 .refine SR<|va (v:=B true) rfl<|aa<|aj<|oB O ?_ bY
  exact(P9 (.inr J)).symm
 refine an<|ai<|SR<|V (fA nZ 2 O xW O)<|V (bZ (hp.bf.sl.hp bY) oZ O O (bY.cell (i:=0) O O))<|V (aC (hp.bf.sl.hp bY) O oZ O)<|aE (v:=I 0) rfl<|aa<|aA<|bt (G:=Int) (fun k s' w'=>(Fr (2::(4::(rg 17 7 []))) _ s')/\(Hp w w' _)/\(s' 17=I k)/\(0<=k)/\(k<=p.bf.length)/\(∀j:Int,0<=j->j<k->xk (p.bf.getD j.toNat dV)=false)) (fun k=>(p.bf.length-k).toNat) (0) ⟨Fr.refl _ _,bY,rfl,J,J,fun j a b=>absurd b J⟩<| ?_
 rintro k Wx EB ⟨nT,cg,aaS,h0,hk,hg⟩
 obtain⟨avg,avh⟩:=nT.w2 15 16
 refine SR<|V (aN aaS avh)<|aa<|ai<|aF O (fun h12=> ?_) (fun h12=> ?_)
 .refine an<|ai<|aA<|SR<|V (ah (hp.bf.sl.hp cg) oZ Lx avg aaS J)<|V (dY (dv:=dV) yN (hp.bf.sl.hp cg) fJ O O O J)<|lJ cg (aS GY)<|fun b15 C0 cG=>bg cG (i:=0) O (dO (c':=(vP _).toArray) O O O (Gw (hp.at J J)) (cG.blk (i:=0) O) O)<|fun I4 ep=>aa<|SR<|V (cF (cs:=vP _) fJ O O O (bj (ep.blk (i:=0) O)))<|aH O ep (BW _ _ ((hp.at J J).mono ep.kw)) (ay call33 O)<|fun K0 iD=>aa<|bW O (fun N2=> ?_) (fun N2=> ?_)
  .refine SR<|va (v:=B true) rfl<|aa<|aj<|oB O ?_ iD
   exact(adR h0 ‹k<_› aQ).symm
  refine an<|au<|V (ax aaS O J)<|mI rfl<|aa<| ?_
  refine⟨k+1,aW,nT.u4.u4,(iD.sub (sQ sR)),(aK I aM),J,J,?_⟩
  exact fun j u v=>if e:j=k then e▸‹xk _=false›else hg j u J
 refine a7 (id:=0) rfl<|SR<|va (v:=B false) rfl<|aa<|aj<|oB O ?_ cg
 exact(ahP aQ J ‹¬k<_› hg).symm
section
variable{W0 w:World}{n:Nat}{s:NP}{lg:List (Value×my)}{tm:List Int}{ids:List Nat}{f:Ct}{tl:List (Nat×Rl)}{b c:Nat}{A R Z fr:List bu}
theorem aBI(x:iU)(i:Int)(hok:D4 s)(ov:x.code.length<=1000)(hi:0<=i/\i<=1000)(hb:b<=70)(hc:c<=1000)(hT:o3 W0)(hx:JZ (Kw W0) x)(hZ:j6 fr W0 n s lg tm ids f tl b c Z)(hH:Hp W0 w (A++(Z++R))):Calls Tryz.prog 13 #[pt n,.agg (vP x).toArray,I i] w (jW fun u w'=>∃(ok:Bool) (s':NP) (new:List (Value×my)) (T5:List Int) (Z':List bu),u=B ok/\Wc s s' x i.toNat ok/\iN new s s'/\TmX x.op ok lg tm T5/\j6 fr W0 n s' (lg++new) T5 ids f tl b (c+1) Z'/\Hp W0 w' (A++(Z'++R))):=by
 obtain⟨Z2,hM,bp⟩:=hZ.aui hH
 refine(Dq x i hok ov hi hb hc w hT hx hM bp).mono fun e w' hr=>jW.mono ?_ hr
 rintro u w' ⟨ok,s',new,T5,Z3,rfl,h1,h2,h3,h4,h5⟩
 obtain⟨Zo,ho,hh⟩:=j6.out h4 h5
 exact⟨ok,s',new,T5,Zo,rfl,h1,h2,h3,ho,hh⟩
end
section
variable{W0 w:World}{n:Nat}{s:NP}{lg:List (Value×my)}{tm:List Int}{ids:List Nat}{f:Ct}{tl:List (Nat×Rl)}{b c:Nat}{A R Z fr:List bu}
theorem alk(p:mv)(T7:jb p=true)(hT:o3 W0)(hs:DX (Kw W0) p)(hH:Hp W0 w A):Calls Tryz.prog 12 #[.agg (Ss p),.nilFunc] w (jW fun u w'=>∃(n:Nat) (s:NP) (lg:List (Value×my)) (tm:List Int) (tl:List (Nat×Rl)) (Z:List bu) (c:Nat),u= .tuple #[pt n,B true]/\ux p s/\Aq s/\s.qs=[]/\s.sk=false/\s.wr= .nilFunc/\c<=100/\j6 [] W0 n s lg tm [] ct0 tl 0 c Z/\Hp W0 w' (A++(Z++[]))):=by
 refine(AZ (fr:=A++([]++[])) p .nilFunc T7 (.inl O) Fy.zero w hT hs kR.nil (by simpa using hH)).mono fun e w' hr=>jW.mono ?_ hr
 rintro u w' ⟨n,s,lg,tm,tl,Z,c,rfl,h1,h2,h3,h4,h5,h6,h7,h8,h9⟩
 obtain⟨Zo,ho,hh⟩:=j6.out (A:=A) (R:=[]) (fr:=[]) h8 h9
 exact⟨n,s,lg,tm,tl,Zo,c,rfl,h1,h2,h3,h4,h5,h7,ho,hh⟩
end
theorem BX{s:NP}{lg:List (Value×my)}{tm:List Int}{ids:List Nat}{f:Ct}{tl:List (Nat×Rl)}{b c:Nat}{Z:List bu}(p:pI)(hpo:mK p=true)(hcs:∀x∈p.bf,x.code.length<=1000)(hnv:s.ak.length=p.s.vars.length)(hy:wo (iA p.s) (QP p.s p.bf)->me (iA p.s) (QP p.s p.bf) (vQ s.ak))(w:World)(hp:A9 (Kw w) p)(hZ:j6 fr W0 n s lg tm ids f tl b c Z)(hH0:Hp W0 w L)(hs:∀x,x∈Z->x∈L):Calls Tryz.prog 17 #[pt n,.agg (yO p).toArray] w (Pure (B true) w):=by
 obtain⟨T7,SE⟩:=Ap hpo
 have hsz:=(wu T7).1
 refine eH func17 rfl rfl fun hH=>SR<|gM hH (v:= .agg _) rfl<|fun b3 w1 bp=>va (v:=B false) rfl<|aa<|SR<|V (cF (cs:=yO _) nZ O O O (bj (bp.blk (i:=0) O)))<|IA O bp (rQ (Kw w) p hpo hcs _ bp.kw hp) (ay call14 O)<|fun v6 w7 Z9 eX au3=>have df:Hp _ w7 (_::Z9):=eX.amt (L:=[_]);?_
 obtain⟨aRG,v13,b14,rfl,aoS,at3,aRH,aIO⟩:=au3
 refine V (run_move bA) ?_
 refine V (bk O O)<|V (bk O (v:=B _) O)<| ?_
 refine V (run_assign bA) ?_
 refine aB rfl<|aa<|ai<|SR<|mB rfl<|V (bJ O)<|aa<|bW O (fun N2=> ?_) (fun N2=> ?_)
 .refine SR<|va (v:=B true) rfl<|aa<|aj<|oB O ?_ df
  rfl
 refine an<|ai<|SR<|have hle:=hy (aIO.1 (show b14=true from nf ‹(!b14)=false›));have hln:=at3;V (fA nZ 0 O zH O)<|V (fA gH 1 O uq O)<|V (bZ (hp.s.vars.sl.hp df) lS O O (df.cell (i:=0) O O))<|V (aC (hp.s.vars.sl.hp df) O lS O)<|aE (v:=I 0) rfl<|aa<|aA<|bt (G:=Int) (fun k s' w'=>(Fr (4::(7::8::(rg 20 19 []))) _ s')/\(Hp w w' _)/\(s' 20=I k)/\(0<=k)/\(k<=p.s.vars.length)) (fun k=>(p.s.vars.length-k).toNat) (0) ⟨Fr.refl _ _,df,rfl,J,J⟩<| ?_
 rintro k ayg QJ ⟨Tu,cD,ON,h0,hk⟩
 obtain⟨acv,aBJ,avi,avj⟩:=Tu.w4 0 5 18 19
 refine SR<|V (aN ON avj)<|aa<|ai<|aF O (fun xu=> ?_) (fun xu=> ?_)
 .refine an<|ai<|aA<|SR<|aE ON<|V (ah (hp.s.vars.sl.hp cD) lS E4 avi ON J)<|V (dY (dv:=fp) tD (hp.s.vars.sl.hp cD) oX O O O J)<|lJ cD (aS Tryz.zeroValue63)<|fun b27 w25 jf=>aI rfl<|bg jf (i:=0) O (dO (c':=(OU _).toArray) O O O LF (jf.blk (i:=0) O) O)<|fun w28 gj=>aa<|ai<|ec aP gj<|fun w30 gT=>have AM:=gT;AQ 0 O AM (fA oX 1 O aO O)<|tI 1 O AM bx 0 O O rfl<|AQ 2 O AM (bU O O)<|AQ 3 O AM (mV (B _) O)<|Cs (dj:=28) O (fun Pk=> ?_) (fun Pk=> ?_)
  .refine BQ 4 O O (bT Pk) gT (run_move acv)<|BQ 5 O O (bT Pk) gT (mV (I _) O)<|BQ 7 O O (bT Pk) gT (run_move aBJ)<|BQ 8 O O (bT Pk) gT (mV (I _) O)<|AG 9 O O (bT Pk) gT (fun w hS=>ah (aoS.mono (hS.kz (Le.refl _) (fun x hx=>(mT (mT hx))))).sl bV fh O O J)<|AG 10 O O (bT Pk) gT (fun w hS=>gy (aoS.mono (hS.kz (Le.refl _) (fun x hx=>(mT (mT hx))))).sl bI O O O J)<|A1 6<|ct O (A3 O (bT Pk)) O gT sR (acQ _ hZ (hH0.call gT.below) hs) (aL call23 O O)<|fun w34 uX=>BQ 11 O O (bT Pk) uX (PL CX O O)<|AQ 12 O uX (gL (bT Pk) (v:=B _) O)<|AD<|cQ (bR (c:=false) ((by rw[aX ⟨h0,J⟩,gW (anL hle ‹me _ _ (yh _ _)› J ‹(List.getD p.s.vars _ _).kind=1›)];rfl)))<|an<|au<|V (ax ON O J)<|mI rfl<|aa<| ?_
   refine⟨k+1,aW,Tu.u4.u4.u4.u4.u4.u1,(uX.sub (sQ sR)),(aK I aM),J,J⟩
  refine AK 4 O O (bF Pk) gT<|AK 5 O O (bF Pk) gT<|AK 6 O O (bF Pk) gT<|AK 7 O O (bF Pk) gT<|AK 8 O O (bF Pk) gT<|AK 9 O O (bF Pk) gT<|AK 10 O O (bF Pk) gT<|AK 11 O O (bF Pk) gT<|AQ 12 O AM (eo (bF Pk) (v:=B false) O)<|AD<|cQ rfl<|an<|au<|V (ax ON O J)<|mI rfl<|aa<| ?_
  refine⟨k+1,aW,Tu.u4.u4.u4.u4.u4.u1,(gT.sub (sQ sR)),(aK I aM),J,J⟩
 refine a7 (id:=0) rfl<|SR<|va (v:=B true) rfl<|aa<|aj<|oB O ?_ cD
 rfl
set_option maxHeartbeats 4000000 in
theorem uD(p:pI)(w:World)(hp:A9 (Kw w) p)(hT:o3 w):Calls Tryz.prog 3 #[.agg (yO p).toArray] w (Pure (B true) w):=by
 have BY:=hp.bf.small
 unfold maxLen at BY
 refine eH func3 rfl rfl fun hH=>SR<|gM hH (v:= .agg _) rfl<|fun b3 w1 bp=>va (v:=B false) rfl<|aa<|ai<|SR<|V (cF (cs:=yO _) nZ O O O (bj (bp.blk (i:=0) O)))<|aH O bp (Dr _ _ (hp.mono bp.kw)) (ay call9 O)<|fun w4 bY=>mB rfl<|eF 14 O (fun h7=> ?_) (fun h7=> ?_)
 .refine aE (v:=B true) rfl<|aa<|cA rfl<|SR<|aH O bY (j7 _ (hT.hp bY)) (Dz call11)<|fun w8 iE=>aB rfl<|aa<|aj<|oB O ?_ iE
  rfl
 refine V (cF (cs:=yO _) nZ O O O (bj (bY.blk (i:=0) O)))<|aH O bY (A0 _ _ (hp.mono bY.kw)) (ay call10 O)<|fun I2 cN=>V (bJ O)<|mB rfl<|aa<|bW O (fun D6=> ?_) (fun D6=> ?_)
 .refine SR<|aH O cN (j7 _ (hT.hp cN)) (Dz call11)<|fun I4 ep=>aB rfl<|aa<|aj<|oB O ?_ ep
  rfl
 refine an<|SR<|V (fA nZ 0 O zH O)<|have hpo:mK p=true:=nf ‹(!mK p)=false›;?_
 obtain⟨T7,SE⟩:=Ap hpo
 have hcs:∀x∈p.bf,x.code.length<=1000:=fun x hx=>((amK ‹O0 p=false›).2.2 x hx).c
 have h64:=anM hpo
 refine V (ja (sub:=DY _) gH O O O (cN.blk (i:=0) O) (Gv _))<|cw O (alk p.s T7 hT hp.s cN) (aL call12 O (show _=Value.nilFunc from O))<| ?_
 rintro _ w36 ⟨n21,s22,aRK,aRL,aIP,Z26,c27,rfl,aBK,aBL,aus,aIQ,aIR,aIS,akG,BI⟩
 have uy:Hp _ w36 (_::(Z26++[])):=BI
 refine V (run_move bA) ?_
 refine V (bk O (v:=Pn _ _) O)<|V (bk O (v:=B _) O)<|va (v:=Pn _ _) rfl<|aB rfl<|aa<|ai<|SR<|mB rfl<|V (bJ O)<|aa<|cQ rfl<|an<|ai<|SR<|V (fA nZ 2 O xW O)<|V (bZ (hp.bf.sl.hp uy) oZ O O (uy.cell (i:=0) O O))<|V (aC (hp.bf.sl.hp uy) O oZ O)<|aE (v:=I 0) rfl<|aa<|aA<|bt (G:=Int×NP×(List bu)) (fun⟨k,s1,Z1⟩ s' w'=>(Fr (2::(5::6::(rg 31 11 []))) _ s')/\(Hp w w' (_::Z1))/\(s' 31=I k)/\(0<=k)/\(k<=p.bf.length)/\(CU p.s p.bf k.toNat s1)/\(s1.sk=false)/\(s1.wr= .nilFunc)/\(∃lg tm FV,Z1=FV++[]/\j6 [] w n21 s1 lg tm [] ct0 aIP 0 (c27+k.toNat) FV)) (fun⟨k,s1,Z1⟩=>(p.bf.length-k).toNat) ((0,s22,(Z26++[]))) ⟨Fr.refl _ _,uy,rfl,J,J,CU.start aBK aBL aus,aIQ,aIR,⟨_,_,_,rfl,akG⟩⟩<| ?_
 rintro⟨k,s1,Z1⟩ aRN w39 ⟨aBM,kD,TW,h0,hk,hN,OV,hw1,hS⟩
 obtain⟨alm,OO,avk,avl⟩:=aBM.w4 1 3 29 30
 obtain⟨lg1,K2,FV,rfl,K4⟩:=hS
 have hkc:=aIS
 refine SR<|V (aN TW avl)<|aa<|ai<|aF O (fun h41=> ?_) (fun h41=> ?_)
 .refine an<|ai<|aA<|SR<|aE TW<|V (ah (hp.bf.sl.hp kD) oZ Lx avk TW J)<|V (dY (dv:=dV) yN (hp.bf.sl.hp kD) fJ O O O J)<|lJ kD (aS GY)<|fun b44 w42 mj=>aI rfl<|bg mj (i:=0) O (dO (c':=(vP _).toArray) O O O (Gw (hp.at J J)) (mj.blk (i:=0) O) O)<|fun w45 oa=>aa<|SR<|have hxm:=dw (d:=dV) h0 ‹k<_›;aE OO<|V (cF (cs:=vP _) fJ O O O (bj (oa.blk (i:=0) O)))<|mI rfl<|cw O (aBI (p.bf.getD k.toNat dV) k hN.nw.ns.ok (hcs _ hxm) J J J hT (hp.at h0 ‹k<_›) (A:=[_,_]) (R:=[]) K4 oa) (bz call13 O O O)<| ?_
  rintro _ w59 ⟨aRO,s50,aRQ,aRR,Z53,rfl,aIT,aRS,aRT,aIU,h58⟩
  have wz:Hp _ w59 (_::_::(Z53++[])):=h58
  obtain⟨aIV,Xe,avb,hw2,-⟩:=hN.add J J SE hcs OV aIT
  subst aIV
  refine V (bJ O)<|aa<|cQ rfl<|an<|au<|V (ax TW O J)<|mI rfl<|aa<| ?_
  refine⟨(k+1,s50,(Z53++[])),aW,aBM.u4.u4.u4.u1,(wz.sub (sQ sR)),(aK I aM),J,J,?_,?_,?_,?_⟩
  ·(rw[show(k+1).toNat=k.toNat+1 by omega];exact Xe)
  .exact avb
  .exact hw2.trans hw1
  (rw[show(k+1).toNat=k.toNat+1 by omega,<-xR];exact⟨_,_,_,rfl,aIU⟩)
 refine a7 (id:=0) rfl<|SR<|V (cF (cs:=yO _) nZ O O alm (bj (kD.blk (i:=0) O)))<|have hkl:k.toNat=p.bf.length:=J;?_
 rw[hkl]at hN
 refine IA O kD (rQ (Kw w) p hpo hcs _ kD.kw hp) (ay call14 O)<|fun v64 w65 Z67 aeK aIW=>have Hi:Hp _ w65 (_::(Z67++(FV++[]))):=aeK.Iz (L:=[_]) (L':=(FV++[]));have aaw:Hp _ w65 (_::(FV++(Z67++[]))):=Hp.swz (A:=[_]) Hi;?_
 obtain⟨aRV,v73,b74,rfl,aRX,aRY,aIX,aBN⟩:=aIW
 refine V (run_move bA) ?_
 refine V (bk O O)<|V (bk O (v:=B _) O)<| ?_
 refine V (run_assign bA) ?_
 refine aB rfl<|aa<|SR<|aE OO<|cw O (Hu hT hN.nw J J (A:=[_]) (R:=(Z67++[])) K4 aaw) (ay call15 O)<| ?_
 rintro _ w96 ⟨aoV,s83,aRZ,f85,a86,j87,Z88,rfl,aBO,aR1,aR2,aR3,aR4,akS,h95⟩
 have Km:Hp _ w96 (_::(Z88++(Z67++[]))):=h95
 refine aB rfl<|aa<|SR<|have hP:=hN.set (eU _) (aBO.go OV);have hob:aoV=b74:=gV.2 ((by have:=hP.is;rwa[EX]at this:aoV=true↔wo (iA p.s) (QP p.s p.bf)).trans aBN.symm);?_
 subst hob
 refine aE OO<|aH O Km (acR akS Km (fun x hx=>(mT (dL _ hx)))) (ay call16 O)<|fun w99 qH=> ?_
 refine V (run_move bA) ?_
 refine V (bk O (v:=U _) O)<|V (bk O (v:=B _) O)<|aU rfl<|aB rfl<|aa<|ai<|SR<|mB rfl<|mB rfl<|V (afX uk O O)<|mB rfl<|cC O (bR (c:=false) ((bne_self_eq_false _)))<|mB rfl<|mB rfl<|V (afW uk O O)<|mB rfl<|mB rfl<|cC O (bR (c:=false) ((by rw[hP.sk];exact nbs _)))<|aE OO<|V (cF (cs:=yO _) nZ O O alm (bj (qH.blk (i:=0) O)))<|aH O qH (BX p hpo hcs hP.net.np.nv (fun hs=>by have h1:=hP.is;have h2:=hP.low;rw[EX]at h1 h2;exact h2 (h1.2 hs)) _ (hp.mono qH.kw) akS qH (fun x hx=>(mT (dL _ hx)))) (aL call17 O O)<|fun aR7 EP=>V (bJ O)<|mB rfl<|aa<|cQ rfl<|an<|ai<|SR<|mB rfl<|V (bJ O)<|aa<|bW O (fun aIY=> ?_) (fun aIY=> ?_)
 .refine SR<|have hof:aoV=false:=nt ‹(!aoV)=true›;have avn:s83.sk=true:=(by rw[hP.sk,hof];rfl);have hlp:=ajo aIX.low (fun hs=>by have:=aBN.2 hs;rw[hof]at this;cases this) SE;have hlm:=dw (d:=lH) (l:=p.s.aq) (k:=0) J J;have hwr:WrF s83.wr []:= .inl ((aBO.go OV).wr.trans hw1);aE OO<|cw O (acO 0 hP.net.nw.ns.ok J J (A:=[_]) (R:=(Z67++[])) akS EP) (aL call18 O (show _=I 0 from O))<| ?_
  rintro _ avc (⟨-,rfl,aoe,Xf,akN⟩|⟨hno,-⟩)
  rotate_left
  .exact absurd (hno.symm.trans avn) az
  have xF:Hp _ avc (_::(aoe++(Z67++[]))):=akN
  refine V (bU O O)<|mB rfl<|cC O (bT (O))<|aE OO<|V (fA nZ 0 O zH alm)<|V (fA gH 0 O nN O)<|V (bZ (hp.s.aq.sl.hp xF) iP O O (xF.cell (i:=0) O O))<|V (ah (hp.s.aq.sl.hp xF) iP vi O O J)<|V (fA qY 1 O uo O)<|V (kZ (dv:=lH) (off:=1) (cs:=wK _) m9 (hp.s.aq.sl.hp xF) dm O O O J (xg _))<|cw O (ali (p.s.aq.getD 0 lH).yK (NB T7 _ hlm).1 (NB T7 _ hlm).2 (by have:=hP.net.np.len;have:=(wu T7).1;omega) hwr J J hT ((hp.s.at (k:=0) J J).mono (Le.z _ _)) (A:=[_]) (X:=(Z67++[])) Xf xF) (aL call19 O O)<| ?_
  rintro _ aAf (⟨-,rfl,aIZ,aBP,akO⟩|⟨hno,-⟩)
  rotate_left
  .exact absurd (hno.symm.trans avn) az
  have EQ:Hp _ aAf (_::(aIZ++[])):=akO
  refine V (bU O O)<|mB rfl<|mB rfl<|cC O (bT (O))<|aE OO<|cw O (Hu hT hP.net.nw J J (A:=[_]) (R:=[]) aBP EQ) (ay call15 O)<| ?_
  rintro _ ae2 ⟨aLS,aR8,aLT,f130,a131,aR9,aI0,rfl,aBQ,aLU,aLV,aLW,aLX,aq9,avd⟩
  have mq:Hp _ ae2 (_::(aI0++[])):=avd
  have hoF:=(aBQ.st avn).1
  subst hoF
  refine V (bJ O)<|mB rfl<|mB rfl<|cC O rfl<|aH O mq (j7 _ (hT.hp mq)) (Dz call11)<|fun aSb OM=>mB rfl<|aB rfl<|aa<|aj<|oB O ?_ OM
  rfl
 refine an<|SR<|aH O EP (j7 _ (hT.hp EP)) (Dz call11)<|fun aHE acI=>aB rfl<|aa<|aj<|oB O ?_ acI
 rfl
end
end Go.Proofs.YtlhjdflgjbkpmaaGreatDoor.W

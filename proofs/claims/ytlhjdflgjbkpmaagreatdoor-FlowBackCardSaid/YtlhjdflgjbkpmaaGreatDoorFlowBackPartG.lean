/- Part 7 of the proof of FlowBack: its plain laws and the walks of its functions. -/
import Derived.Test.YtlhjdflgjbkpmaaGreatDoorFlowBackPartF
set_option linter.all false
namespace Go.Proofs.YtlhjdflgjbkpmaaGreatDoor.W
section
open Go Go.RowKit Go.Proofs.YtlhjdflgjbkpmaaGreatDoor.E Go.Proofs.YtlhjdflgjbkpmaaGreatDoor.M
set_option maxRecDepth 100000
open Go.Proofs.Tryz
variable{fr:List a8}
variable{W0 w:World}{n m:Nat}{cs:List (List Nat)}{wr:Value}{vL:Value}{vt:Value}{vv:Value}{vy:Value}{vu:Value}{vq:Value}{sn:Int}{vW:Value}{vU:Value}{vT:Value}{cn:Int}{sk:Bool}{wy:BitVec 64}{vd:Value}{vm:Value}{cW:Option (Nat×Array Value)}{cU:Option (Nat×Array Value)}{W:List (BitVec 64)}{ul:List (Value×jo)}{ts:List Int}{an:List oJ}{aT:List Int}{ai:List El}{aX:List (BitVec 64)}{us:List iW}{qs:List de}{lg:List (Value×jj)}{tm:List Int}{L:List a8}
set_option maxHeartbeats 4000000 in
theorem Gg{ids:List Nat}{tl:List (Nat×Rl)}{f:Ct}{nk:Nat}{Zf R:List a8}(Jzz:x9->Prop)(mu:x9->Nat)(hm:m+ai.length<=100000)(S2:aX.length=ai.length)(NU:us.length=ai.length)(ni:(bk cs).length=ai.length)(NV:ai.length<=1000)(hlg:lg.length+1000*mu (UW (rP cs us an aT qs sn ai.length ⟨ai,aX,[],List.replicate qs.length false⟩).s sn qs.length)<=400000000000)(vN:∀k:Nat,k<us.length->dr 3 (us.getD k cD)∈R/\(us.getD k cD).l.length<=1000/\∀i∈(us.getD k cD).l,0<=i/\i<(qs.length:Int))(hf:EC nk f)(hnk:nk+3*mu (UW (rP cs us an aT qs sn ai.length ⟨ai,aX,[],List.replicate qs.length false⟩).s sn qs.length)<=90000000000)(Wc:0<=sn/\sn<=qs.length)(hqn:qs.length<=1000)(hqo:Yu an.length ai.length qs)(hlt:aT.length=ai.length)(hlr:∀k:Nat,k<aT.length->0<=aT.getD k 0/\aT.getD k 0<an.length)(hI0:Jzz (UW (rP cs us an aT qs sn ai.length ⟨ai,aX,[],List.replicate qs.length false⟩).s sn qs.length))(hst:∀cX eA I4 me x,Jzz ⟨cX,eA,x::I4,me⟩->∀r,mP (bk (rP cs us an aT qs sn ai.length ⟨ai,aX,[],List.replicate qs.length false⟩).cs) us (an.getD (qs.getD x.toNat cQ).aT.toNat oK).p.sh (qs.getD x.toNat cQ) cX eA I4 (me.set x.toNat false) wy=r->r.ok=true->Jzz ⟨r.ai,r.aX,r.wl,r.wi⟩/\mu ⟨r.ai,r.aX,r.wl,r.wi⟩<mu ⟨cX,eA,x::I4,me⟩)(w:World)(hT:oh W0)(hlv:UQ TX (Kz (Kw W0) R) ids tl an)(hZ:kA (AH fr) ids f tl Zf)(HY:Yp (Kz (Kw W0) R) qs)(h:vF FX n m cs vW vU cW cU W ul ts cn R)(hH:Hp W0 w (nE n wr vL vt vv vy vu vq sn vW vU vT cn sk wy vd vm cW cU W ul ts an aT ai aX us qs lg tm ((Zf++R)))):Calls Tryz.prog 42 #[pt n] w (iA fun u w'=>∃(ok:Bool) (s:x9) (S3:BitVec 64) (a:Nat) (IJ IK S7:Value) (Nu Nv:Option (Nat×Array Value)) (W':List (BitVec 64)) (wK:List (Value×jo)) (ts':List Int) (Nw:Int) (vd':Value) (new:List (Value×jj)) (Lb Z':List a8) (f':Ct),u=B ok/\SpR (bk (rP cs us an aT qs sn ai.length ⟨ai,aX,[],List.replicate qs.length false⟩).cs) us an qs s ok wy S3/\Jzz s/\a+mu s<=mu (UW (rP cs us an aT qs sn ai.length ⟨ai,aX,[],List.replicate qs.length false⟩).s sn qs.length)+(if ok then 0 else 1)/\vF FX n (m+ai.length) (rP cs us an aT qs sn ai.length ⟨ai,aX,[],List.replicate qs.length false⟩).cs IJ IK Nu Nv W' wK ts' Nw (Lb++R)/\(∀x∈new,ku NX n Lb x/\(ok=false->EH x.2)/\amB x.2)/\new.length<=1001*ai.length+1000*a+1/\gh new (NP.mk an aT ai aX ((mO us)) qs sn cs sk S3 wr) (NP.mk an aT (s.ai) (s.aX) ((mO us)) qs ((if ok then(qs.length:Int)else sn)) ((rP cs us an aT qs sn ai.length ⟨ai,aX,[],List.replicate qs.length false⟩).cs) sk S3 wr)/\kA (AH fr) ids f' tl Z'/\oV f f' a a (a+(rP cs us an aT qs sn ai.length ⟨ai,aX,[],List.replicate qs.length false⟩).j)/\Hp W0 w' (nE n wr vL vt vv vy vu vq ((if ok then(qs.length:Int)else sn)) (IJ) (IK) (S7) (Nw) sk S3 (vd') vm (Nu) (Nv) (W') (wK) (ts') an aT (s.ai) (s.aX) us qs (lg++new) tm ((Z'++(Lb++R))))):=by
 simp only[nE]at hH
 refine en func42 rfl rfl<|SR<|iu hH (v:=Pn _ _) rfl<|fun b3 w1 aW=>va (v:=B false) rfl<|aa<|Yc<|SR<| ?_
 obtain⟨R1,VW⟩:∃R1:List a8,R1=[a8.blk b3 (.cells #[pt n] 31 (0,0))]++R:=⟨_,rfl⟩
 have gE:=Hp.lN (A:=[_,_,_,_,_,_,_,_,_,_,_,_]) (B:=[a8.blk b3 (.cells #[pt n] 31 (0,0))]) (R:=Zf) (aW.pj [1,1,1,1,1,1,1,1,1,1,1,1])
 rw[<-VW]at gE
 simp only[fH,er]at gE
 have hb5:a8.blk b3 (.cells #[pt n] 31 (0,0))∈R1:=by rw[VW];simp
 have adF:UQ TX (Kz (Kw W0) R1) ids tl an:=hlv.mono (Le.zz fun x hx=>by rw[VW];exact bt _ hx)
 have anR:Yp (Kz (Kw W0) R1) qs:=HY.mono (Le.zz fun x hx=>by rw[VW];exact bt _ hx)
 have ND:=h.mono (L':=R1) fun e he=>by rw[VW];exact bt _ he
 have Jk:∀k:Nat,k<us.length->dr 3 (us.getD k cD)∈R1/\(us.getD k cD).l.length<=1000/\∀i∈(us.getD k cD).l,0<=i/\i<(qs.length:Int):=fun k hk=>⟨by rw[VW];exact bt _ (vN k hk).1,(vN k hk).2⟩
 refine V (au cw O O (gE.gP ((fun x hx=>(mT (mT (mT (mT (mT (mT (mT (mT (mT (mT (mT (mT (bt _ hx)))))))))))))) _ hb5) (v:=Pn _ _) O))<|V (af O)<|V (fA bM 6 O s4 O)<|lV mj gE 0 O O rfl<|V (aA (gE.sl (i:=9) O) O mj O)<|yd (qs.length) (qs.length) gE (zn (f:=B) (z0:=false) qa O O O O (show _=Value.int .i64 ((qs.length:Nat):Int)from O) (show _=Value.int .i64 ((qs.length:Nat):Int)from O) aD J)<|fun b8 w6 eD=>have iB:=eD.IZ (i:=0) (n:=qs.length) (l:=List.replicate (qs.length) false) (f:=B) O az J;?_
 simp only[fO]at iB
 refine V (dO (vs:=[(1,(.slice (some ⟨b8,0,none⟩) (qs.length) (qs.length)))]) O (Ou _ _ _))<|iu iB (v:= .agg _) rfl<|fun b12 Gk dF=>have cm:=dF.fD 3 1;va (v:=Pn _ _) rfl<|aa<|SR<|V (au cw O O (cm.gP ((fun x hx=>(mT (mT (mT (mT (mT (mT (mT (mT (mT (mT (mT (mT (mT (mT (mT (bt _ hx))))))))))))))))) _ hb5) (v:=Pn _ _) O))<|aE (v:=Pn _ _) rfl<|bV O (Di (cq:=none) (ql:= .slice none 0 0) (wl:=[]) (wi:=List.replicate qs.length false) hm S2 NU ni NV J (HJ _) (by rw[Ql];omega) (fun k hk=>⟨(Jk k hk).1,(Jk k hk).2.1,fun i hi=>by have:=(Jk k hk).2.2 i hi;simp only[Ql,mM];omega⟩) hf J Wc hqn hqo.pl hlt hlr _ hT adF hZ anR ND trivial (cm.pj [3,3,3,3,3,3,3,3,3,3,3,3,1])) (aJ call84 O O)<| ?_
 rintro _ w32 ⟨c16,ajV,ajW,anS,anT,anU,W39,anV,anW,anX,aHd,q18,aHe,aHf,aAp,Z22,f23,aHg,rfl,abi,aHh,aHi,aHj,aHk,aHl,aHm,jN⟩
 subst aHg
 simp only[nE,wE]at jN
 have mz:=jN.pk [13,12,12]
 refine aa<|ah<|SR<|V (au cw O O (mz.gP ((fun x hx=>(mT (mT (mT (mT (mT (mT (mT (mT (mT (mT (mT (mT (mT (mT (mT (bt _ (bt _ hx)))))))))))))))))) _ hb5) (v:=Pn _ _) O))<|V (af O)<|V (fA bM 7 O bz O)<|lI bx mz 3 O O rfl<|aI rfl<|aa<|aC<|have ok0:=asl (cs:=cs) (us:=us) (an:=an) (aT:=aT) (qs:=qs) (sn:=sn) (ai:=ai) (aX:=aX) J (fun k hk=>(Jk k hk).2.2) J;bj (G:=Int×Value×(Option (Nat×Array Value))×(List Int)×(List Bool)) (fun⟨k,xH,A5,pD,me⟩ s' w'=>(Fr (4::(rg 21 12 [])) _ s')/\(Hp W0 w' (qE A5 xH 3 (pD.map I):: .blk b12 (.cells #[xH,(.slice (some ⟨b8,0,none⟩) (qs.length) (qs.length))] 156 (0,0))::jq B (.slice (some ⟨b8,0,none⟩) (qs.length) (qs.length)) 4 me::_))/\(s' 4=I k)/\(sn<=k)/\(k<=qs.length)/\(qO A5 xH (pD.map I))/\((pD,me)=(qP ((rP cs us an aT qs sn ai.length ⟨ai,aX,[],List.replicate qs.length false⟩).s.wl,(rP cs us an aT qs sn ai.length ⟨ai,aX,[],List.replicate qs.length false⟩).s.wi) (upI sn (k-sn).toNat)))) (fun⟨k,xH,A5,pD,me⟩=>(qs.length-k).toNat) ((sn,q18,aHe,(rP cs us an aT qs sn ai.length ⟨ai,aX,[],List.replicate qs.length false⟩).s.wl,(rP cs us an aT qs sn ai.length ⟨ai,aX,[],List.replicate qs.length false⟩).s.wi)) ⟨Fr.refl _ _,mz,rfl,J,J,aHm,(by rw[Int.sub_self];rfl)⟩<| ?_
 rintro⟨k,xH,A5,pD,me⟩ aRL w44 ⟨aAq,xC,ajX,h0,hk,MA,hp⟩
 obtain⟨ap8,ap9⟩:=aAq.w2 1 3
 have ok1:PB qs.length ai.length aX.length ⟨(rP cs us an aT qs sn ai.length ⟨ai,aX,[],List.replicate qs.length false⟩).s.ai,(rP cs us an aT qs sn ai.length ⟨ai,aX,[],List.replicate qs.length false⟩).s.aX,pD,me⟩:=by have h1:=amE ok0 (l:=upI sn (k-sn).toNat) (fun i hi=>by obtain⟨j,hj,rfl⟩:=fU.1 hi;have:=oL.1 hj;omega);rw[<-hp]at h1;exact h1
 have wq1:=ok1.wq.len
 have li1:=ok1.li
 simp only at wq1 li1
 refine ah<|SR<|aE ajX<|V (au cw O ap8 (xC.gP ((fun x hx=>(mT (mT (mT (mT (mT (mT (mT (mT (mT (mT (mT (mT (mT (mT (mT (bt _ (bt _ hx)))))))))))))))))) _ hb5) (v:=Pn _ _) O))<|V (af O)<|V (fA bM 6 O s4 O)<|lV mj xC 3 O O rfl<|V (aA (xC.sl (i:=12) O) O mj O)<|V (aL O O)<|aa<|aF O (fun h46=> ?_) (fun h46=> ?_)
 .refine ak<|ah<|aC<|ax<|aE ap9<|aE ajX<|bV O (pE _ J J _ MA (xC.pj [1])) (aJ call85 O O)<| ?_
  rintro _ w49 ⟨rfl,v51,c52,aHn,eS⟩
  simp only[wE]at eS
  have gy:=eS.pk [1]
  refine aa<|ax<|aE ajX<|V (ay O O J)<|aI rfl<|aa<| ?_
  refine⟨(k+1,v51,c52,(oD (pD,me) k).1,(oD (pD,me) k).2),aZ,aAq.u4.u4.u4.u1,(Hp.conv gy (by first|rfl|simp)),(aK I qe),J,J,?_,?_⟩
  .exact aHn
  (rw[ahM h0,acX,<-hp])
 refine a7 (id:=0) rfl<|ah<|Yd<|ah<|aC<|have ek:k=qs.length:=J;?_
 rw[ek]at hp
 have e0:(⟨(rP cs us an aT qs sn ai.length ⟨ai,aX,[],List.replicate qs.length false⟩).s.ai,(rP cs us an aT qs sn ai.length ⟨ai,aX,[],List.replicate qs.length false⟩).s.aX,pD,me⟩:x9)=(UW (rP cs us an aT qs sn ai.length ⟨ai,aX,[],List.replicate qs.length false⟩).s sn qs.length):=by unfold UW;rw[<-hp]
 have amq:(bk (rP cs us an aT qs sn ai.length ⟨ai,aX,[],List.replicate qs.length false⟩).cs).length=ai.length:=by rw[amF];omega
 have aHo:=axb (cs:=cs) (us:=us) (an:=an) (aT:=aT) (qs:=qs) (sn:=sn) (n:=ai.length) (s:=⟨ai,aX,[],List.replicate qs.length false⟩)
 have aRN:(rP cs us an aT qs sn ai.length ⟨ai,aX,[],List.replicate qs.length false⟩).j<=1000*1000:=jP aHo (wX J J)
 refine bj (G:=Value×Value×(Option (Nat×Array Value))×(List El)×(List (BitVec 64))×(List Int)×(List Bool)×(List (Value×jj))×(List a8)×(List a8)×Ct×Nat×(List a8)) (fun⟨VQ,xH,A5,cX,eA,pD,me,new,Lb,CZ,f1,a,Z1⟩ s' w'=>(Fr (2::(rg 33 17 [])) _ s')/\(Hp W0 w' (qE A5 xH 3 (pD.map I):: .blk b12 (.cells #[xH,(.slice (some ⟨b8,0,none⟩) (qs.length) (qs.length))] 156 (0,0))::jq B (.slice (some ⟨b8,0,none⟩) (qs.length) (qs.length)) 4 me:: .blk n (.cells #[wr,vL,vt,vv,vy,vu,vq,I sn,ajV,ajW,anS,I anX,B sk,U wy,VQ,vm] 111 (0,0))::cE anT ajV 35 (W39.map U)::cE anU ajW 1 (anV.map Prod.fst)::jq I anS 3 anW::uV We 13 vL 119 an::jq I vt 3 aT::uV sU 8 vv 37 cX::jq U vy 35 eA::jq iW.v vu 99 us::uV oT 13 vq 128 qs::jq Prod.fst VQ 1 (lg++new)::jq I vm 3 tm::Z1))/\(Jzz ⟨cX,eA,pD,me⟩)/\(PB qs.length ai.length aX.length ⟨cX,eA,pD,me⟩)/\(Z1=CZ++(Lb++R1))/\(kA (AH fr) ids f1 tl CZ)/\(oV f f1 a a (a+(rP cs us an aT qs sn ai.length ⟨ai,aX,[],List.replicate qs.length false⟩).j))/\(a+mu ⟨cX,eA,pD,me⟩<=mu (UW (rP cs us an aT qs sn ai.length ⟨ai,aX,[],List.replicate qs.length false⟩).s sn qs.length))/\(qO A5 xH (pD.map I))/\(vF FX n (m+ai.length) (rP cs us an aT qs sn ai.length ⟨ai,aX,[],List.replicate qs.length false⟩).cs ajV ajW anT anU W39 anV anW anX (Lb++R1))/\(∀x∈new,ku NX n Lb x/\EH x.2)/\(new.length<=1001*ai.length+1000*a)/\(gh new (NP.mk an aT ai aX ((mO us)) qs sn cs sk wy wr) (NP.mk an aT cX eA ((mO us)) qs sn ((rP cs us an aT qs sn ai.length ⟨ai,aX,[],List.replicate qs.length false⟩).cs) sk wy wr))) (fun⟨VQ,xH,A5,cX,eA,pD,me,new,Lb,CZ,f1,a,Z1⟩=>mu ⟨cX,eA,pD,me⟩) ((aHd,xH,A5,(rP cs us an aT qs sn ai.length ⟨ai,aX,[],List.replicate qs.length false⟩).s.ai,(rP cs us an aT qs sn ai.length ⟨ai,aX,[],List.replicate qs.length false⟩).s.aX,pD,me,aHf,aAp,Z22,f23,0,(Z22++(aAp++R1)))) ⟨Fr.refl _ _,xC,(by rw[e0];exact hI0),ok1,rfl,aHk,(aHl.more (lW _) (lW _) J),(by rw[e0];omega),MA,abi,aHh,(by have:=aHi;omega),aHj⟩ ?_
 rintro⟨VQ,xH,A5,cX,eA,pD,me,new,Lb,CZ,f1,a,Z1⟩ axU w55 ⟨Ng,iY,hI,Zw,hz,J2,hcj,ham,MA,anY,Ta,hnl,hbk⟩
 obtain⟨Gf,Nh⟩:=Ng.t2 1 ap8 3 ap9
 subst hz
 have lv1:cX.length=ai.length:=Zw.lv
 have ly1:eA.length=aX.length:=Zw.ly
 have li1:me.length=qs.length:=Zw.li
 have wq1:=Zw.wq.len
 simp only at wq1
 refine ah<|SR<|aE Nh<|V (af O)<|V (fA yE 0 O cP O)<|lV bg iY 1 O O rfl<|V (aA (iY.slQ (i:=0) O MA) O bg O)<|V (dz O O)<|aa<|aF O (fun Ni=> ?_) (fun Ni=> ?_)
 .refine ak<|aC<|ah<|ah<| ?_
  obtain⟨x,I4,hxw⟩:=List.exists_cons_of_length_pos (show 0<pD.length by have h9:=‹(0:Int)<_›;simpa using h9)
  subst hxw
  have htk:=Zw.take
  have SH:=hqo.at htk.1.1 htk.1.2
  have wq2:=htk.2.wq.len
  simp only[mM]at wq2
  have hqx:zv (Kz (Kw W0) (Lb++R1)) (qs.getD x.toNat cQ):=(anR.at htk.1.1 htk.1.2).mono (Le.zz fun y hy=>bt _ hy)
  have aHp:UQ TX (Kz (Kw W0) (Lb++R1)) ids tl an:=adF.mono (Le.zz fun y hy=>bt _ hy)
  refine ez (z:=⟨some _,_,_,_,_,none⟩) aM O aM iY (sQ (sQ (sQ sR)))<|fun w58 sS=>have Zx:=sS.sub (sQ (sQ (sQ sR)));AT 0 O Zx (fun w hS=>au cw O Gf (hS.gP ((fun x hx=>(mT (mT (mT (mT (mT (mT (mT (mT (mT (mT (mT (mT (bt _ (bt _ hx))))))))))))))) _ hb5) (v:=Pn _ _) O))<|AQ 1 O Zx (run_move Nh)<|AT 2 O Zx (fun w hS=>au cw O Gf (hS.gP ((fun x hx=>(mT (mT (mT (mT (mT (mT (mT (mT (mT (mT (mT (mT (bt _ (bt _ hx))))))))))))))) _ hb5) (v:=Pn _ _) O))<|AQ 3 O Zx (af O)<|AQ 4 O Zx (fA bM 6 O s4 O)<|tV 5 O Zx mj 0 O O rfl<|AQ 6 O Zx (run_move Nh)<|A1 7<|th O aH O (Df (wi:=me) x (by have:=htk.1;omega) _ MA (sS.pj [1])) (aq call87 O) (fun u w' ⟨_,S8,S9,_,h⟩=>((show Hp _ w' (wE _ _ _ _ _ _ (_::_::_::_::_::_::_::_::_::_::_::_::(CZ++(Lb++R1))))from h).pj [1]).sub (sQ (sQ (sQ sR))))<| ?_
  rintro _ w62 ⟨rfl,v64,c65,aHq,pC⟩
  simp only[wE]at pC
  have adG:=pC.pk [1]
  refine AT 8 O (adG.sub (sQ (sQ (sQ sR)))) (fun w hS=>ag (hS.sl (i:=9) O) mj GC O O J)<|AT 9 O (adG.sub (sQ (sQ (sQ sR)))) (fun w hS=>dY (dv:=cQ) nM (hS.sl (i:=9) O) iM O O O J)<|AD<|bV O (Jj (qs.getD x.toNat cQ) J J J J J Ec J (fun k hk=>⟨bt _ (Jk k hk).1,(Jk k hk).2.1,fun i hi=>by have:=(Jk k hk).2.2 i hi;simp only[Ql,mM];omega⟩) (hcj.ok hf) J SH.aT SH.code (by have:=SH.to;omega) (fun hp=>by have:=SH.pl hp;omega) (fun v hv=>by have:=SH.vars v hv;omega) _ hT aHp J2 hqx anY aHq (adG.pj [3,3,3,3,3,3,3,3,3,3,3,3,1])) (bB call86 O O O)<| ?_
  rintro _ w83 ⟨r70,aAr,q72,aHr,aAs,adx,Z76,Ox,rfl,ajZ,aAt,auq,aAu,aHt,oc⟩
  simp only[nE,wE]at oc
  have VC:=oc.pk [13,12,12]
  refine aa<|bY O (fun h87=> ?_) (fun h87=> ?_)
  .refine a7 (id:=3) rfl<|have hok:r70.ok=true:=m6;have hwy:r70.wy=wy:=(by rw[<-Ox];exact asg (by rw[Ox];exact hok));?_
   rw[hwy]at auq
   have hlo:=ahN (cl:=(bk (rP cs us an aT qs sn ai.length ⟨ai,aX,[],List.replicate qs.length false⟩).cs)) (us:=us) (sh:=(an.getD (qs.getD x.toNat cQ).aT.toNat oK).p.sh) (q:=(qs.getD x.toNat cQ)) (wy:=wy) (fun k hk=>(Jk k hk).2.2) J htk.2
   rw[Ox]at hlo
   have aur:=hst cX eA I4 me x hI r70 Ox hok
   have VM:=US (adF.at SH.aT.1 SH.aT.2).dep (bk (rP cs us an aT qs sn ai.length ⟨ai,aX,[],List.replicate qs.length false⟩).cs) us (an.getD (qs.getD x.toNat cQ).aT.toNat oK).p.sh (qs.getD x.toNat cQ) cX eA I4 (me.set x.toNat false) wy f1
   rw[Ox]at VM
   refine⟨(aAr,q72,aHr,r70.ai,r70.aX,r70.wl,r70.wi,new++aAs,adx++Lb,Z76,UR (an.getD (qs.getD x.toNat cQ).aT.toNat oK).d r70.ks f1,a+1,(Z76++(adx++(Lb++R1)))),?_,Ng.u4.u4.u4.u4.u1,(Hp.conv VC (by first|rfl|(simp only[dg,hwy];done)|(simp only[dg,hwy];rfl))),?_,?_,?_,?_,?_,?_,?_,?_,?_,?_,?_⟩
   .exact aur.2
   .exact aur.1
   .exact hlo
   ·(simp only[dg])
   .exact aAu
   .exact(hcj.trans VM).more J J J
   ·(have:=aur.2;omega)
   .exact aHt
   .exact anY.mono fun e he=>(by rw[dg];exact bt _ he)
   .exact(fun x hx=>by rcases eP.1 hx with q|q;exact⟨(Ta x q).1.mono (fun e he=>bt _ he),(Ta x q).2⟩;exact⟨(ajZ x q).1.mono (fun e he=>dx _ he),(ajZ x q).2⟩)
   ·(have:=aAt;have:=uZ (cl:=(bk (rP cs us an aT qs sn ai.length ⟨ai,aX,[],List.replicate qs.length false⟩).cs)) (i:=(qs.getD x.toNat cQ).to.var);rw[cV];omega)
   exact hbk.trans auq
  refine ak<|SR<|va (v:=B false) rfl<|aa<|aj<|have hrf:r70.ok=false:=m6;have hno:=asi (cl:=(bk (rP cs us an aT qs sn ai.length ⟨ai,aX,[],List.replicate qs.length false⟩).cs)) (us:=us) (sh:=(an.getD (qs.getD x.toNat cQ).aT.toNat oK).p.sh) (q:=(qs.getD x.toNat cQ)) (ai:=cX) (aX:=eA) (wl:=I4) (wi:=me.set x.toNat false) (wy:=wy) (by rw[Ox];exact hrf);?_
  rw[Ox]at hno
  have VM:=US (adF.at SH.aT.1 SH.aT.2).dep (bk (rP cs us an aT qs sn ai.length ⟨ai,aX,[],List.replicate qs.length false⟩).cs) us (an.getD (qs.getD x.toNat cQ).aT.toNat oK).p.sh (qs.getD x.toNat cQ) cX eA I4 (me.set x.toNat false) wy f1
  rw[Ox]at VM
  have hbw:=(hbk.wy (fun x hx=>(Ta x hx).2) r70.wy).trans auq
  have EO:=(VC.sub (sQ (sQ (sQ sR))))
  rw[hno.1,hno.2]at EO hbw
  subst VW
  refine iG (v:=B false) O O ⟨false,⟨cX,eA,x::I4,me⟩,r70.wy,a+1,ajV,ajW,anS,anT,anU,W39,anV,anW,anX,aAr,new++aAs,((adx++Lb)++[a8.blk b3 (.cells #[pt n] 31 (0,0))]),Z76,_,rfl,.inr ⟨rfl,x,I4,rfl,by rw[Ox];exact hrf,by rw[Ox]⟩,hI,iF,anY.mono fun e he=> ?_,fun y hy=> ?_,?_,hbw,aAu,(hcj.trans VM).more J J J,Hp.conv (by rw[<-dg]at EO;exact EO) aep⟩
  .simp only[eP]at he⊢;rcases he with q|q|q;exact .inl (.inl (.inr q));exact .inl (.inr q);exact .inr q
  .rcases eP.1 hy with q|q;exact⟨(Ta y q).1.mono (fun e he=>dx _ (bt _ he)),fun _=>(Ta y q).2,(Ta y q).2.na⟩;exact⟨(ajZ y q).1.mono (fun e he=>dx _ (dx _ he)),fun _=>(ajZ y q).2,(ajZ y q).2.na⟩
  (have:=aAt;have:=uZ (cl:=(bk (rP cs us an aT qs sn ai.length ⟨ai,aX,[],List.replicate qs.length false⟩).cs)) (i:=(qs.getD x.toNat cQ).to.var);rw[cV];omega)
 refine a7 (id:=2) rfl<|SR<|V (au cw O Gf (iY.gP ((fun x hx=>(mT (mT (mT (mT (mT (mT (mT (mT (mT (mT (mT (mT (mT (mT (mT (bt _ (bt _ hx)))))))))))))))))) _ hb5) (v:=Pn _ _) O))<|V (af O)<|V (fA bM 7 O bz O)<|lI bx iY 3 O O rfl<|oY iY (bf Tryz.zeroValue3)<|fun b91 w89 tD=>bu tD (i:=0) O (bL O O (v:=I _) O O O (tD.blk (i:=0) O) (by first|decide|simp))<|fun w94 NA=>aa<|ah<|ez (z:=⟨none,_,_,_,_,none⟩) aM O aM NA sR<|fun w96 SB=>have VX:=SB;AT 0 O VX (fun w hS=>au cw O Gf (hS.gP ((fun x hx=>(mT (mT (mT (mT (mT (mT (mT (mT (mT (mT (mT (mT (mT (mT (mT (mT (bt _ (bt _ hx))))))))))))))))))) _ hb5) (v:=Pn _ _) O))<|AT 1 O VX (fun w hS=>au cw O Gf (hS.gP ((fun x hx=>(mT (mT (mT (mT (mT (mT (mT (mT (mT (mT (mT (mT (mT (mT (mT (mT (bt _ (bt _ hx))))))))))))))))))) _ hb5) (v:=Pn _ _) O))<|AQ 2 O VX (af O)<|AQ 3 O VX (fA bM 6 O s4 O)<|tV 4 O VX mj 4 O O rfl<|AT 5 O VX (fun w hS=>aA (hS.sl (i:=13) O) O mj O)<|AQ 6 O VX (af O)<|AQ 7 O VX (fA bM 7 O bz O)<|AD<|bu SB (i:=4) O (bL O O (v:=I _) O O O (SB.blk (i:=4) O) az)<|fun w98 adD=> ?_
 simp only[fO,gU,iZ,fg,Nat.reduceAdd]at adD
 refine aa<|SR<|V (au cw O Gf (adD.gP ((fun x hx=>(mT (mT (mT (mT (mT (mT (mT (mT (mT (mT (mT (mT (mT (mT (mT (mT (bt _ (bt _ hx))))))))))))))))))) _ hb5) (v:=Pn _ _) O))<| ?_
 refine V (r6 bG Gf) ?_
 refine bV O (iq _ _ (.seen sn) Ec _ (adD.pj [4,4,4,4,4,4,4,4,4,4,4,4])) (aJ yI O O) ?_
 rintro _ aAh ⟨rfl,aHu,NE⟩
 simp only[nE]at NE
 have P6:=NE.pk [12,12,12,12]
 refine aa<|SR<|va (v:=B true) rfl<|aa<|aj<|have hnil:pD=[]:=List.length_eq_zero_iff.1 (by have h9:=‹¬(0:Int)<_›;simpa using h9);have vz:=Hp.lN (A:=[_,_,_,_,_,_,_,_,_,_,_,_]) (B:=[_]) (R:=CZ) ((P6.sub (sP (sQ (sQ (sQ sR))))).pj [1,1,1,1,1,1,1,1,1,1,1,1]);?_
 subst VW
 refine iG (v:=B true) O O ⟨true,⟨cX,eA,pD,me⟩,wy,a,ajV,ajW,anS,anT,anU,W39,anV,anW,anX,aHu,new++[((jF 88 #[pt b91,pt b3]),.seen sn)],(([a8.blk b91 (.cells #[I sn] 3 (0,0))]++Lb)++[a8.blk b3 (.cells #[pt n] 31 (0,0))]),CZ,f1,rfl,.inl ⟨rfl,hnil,rfl⟩,hI,iF,anY.mono fun e he=> ?_,fun y hy=> ?_,?_,hbk.trans (acY (s:=(NP.mk an aT cX eA ((mO us)) qs sn ((rP cs us an aT qs sn ai.length ⟨ai,aX,[],List.replicate qs.length false⟩).cs) sk wy wr)) (k:=(qs.length:Int))),J2,hcj,Hp.conv vz aep⟩
 .simp only[eP]at he⊢;rcases he with q|q|q;exact .inl (.inl (.inr q));exact .inl (.inr q);exact .inr q
 .rcases eP.1 hy with q|q;exact⟨(Ta y q).1.mono (fun e he=>dx _ (bt _ he)),fun _=>(Ta y q).2,(Ta y q).2.na⟩;rw[fZ.1 q];exact⟨⟨_,_,rfl,az,az⟩,fun q=>yL,trivial⟩
 (rw[cV,gk];omega)
theorem yq{s:NP}{R L0 Z:List a8}(o:Int)(ho:0<=o/\o<=lg.length)(hlg:lg.length<=600000000000)(hb:okB (u6 lg o.toNat) s)(hu:∀s1:NP,∀k:Int,o<=k->k<lg.length->okN (lg.getD k.toNat Yv).2 s1->Nx W0 n m R L0 (lg.getD k.toNat Yv) s1)(w:World)(hZ:qU n m s lg tm R L0 Z)(hH:Hp W0 w Z):Calls Tryz.prog 43 #[pt n,I o] w (iA fun u w'=>u= .tuple #[]/\∃Z',qU n m (xm (u6 lg o.toNat) s) (lg.take o.toNat) tm R L0 Z'/\Hp W0 w' Z'):=by
 refine enter func43 rfl ntmps43 rfl ?_
 obtain⟨F1,L2,xI,Ia,rfl⟩:=hZ
 have bU:=hH
 simp only[NZ,nE]at bU
 refine ah<|SR<|aE (v:=Pn _ _) rfl<|V (af O)<|V (fA bM 14 O jQ O)<|lV gH bU 0 O O rfl<|V (aA (bU.sl (i:=10) O) O gH O)<|V (fG O O J)<|aI rfl<|aa<|aC<| ?_
 obtain⟨Zc,hZc,hHc⟩:∃Z,qU n m s lg tm R L0 Z/\Hp W0 _ Z:=⟨_,⟨F1,L2,xI,Ia,rfl⟩,bU⟩
 refine bj (G:=Int×(List a8)) (fun⟨k,Z1⟩ s' w'=>(Fr (4::(rg 11 13 [])) _ s')/\(Hp W0 w' (Z1))/\(s' 4=I (k-1))/\(o<=k)/\(k<=lg.length)/\(qU n m (xm (u6 lg k.toNat) s) lg tm R L0 Z1)) (fun⟨k,Z1⟩=>(k-o).toNat) ((lg.length,Zc)) ⟨Fr.refl _ _,hHc,rfl,J,J,(by rw[ahO J];exact hZc)⟩ ?_
 rintro⟨k,Z1⟩ sg7 w7 ⟨E2,eD,HP,h0,hk,J2⟩
 obtain⟨ET,adr⟩:=E2.w2 0 1
 refine ah<|SR<|aE HP<|aE adr<|V (dA O O)<|aa<|aF O (fun h9=> ?_) (fun h9=> ?_)
 .refine ak<|ah<|aC<|ax<| ?_
  obtain⟨F10,L11,aHx,aHy,rfl⟩:=J2
  have cF:=eD
  simp only[NZ,nE]at cF
  refine aE ET<|V (af O)<|V (fA bM 14 O jQ O)<|lV gH cF 0 O O rfl<|aE HP<|V (ag (cF.sl (i:=10) O) gH sizeOf1 O O J)<|V (au underlying1 O O ((cF.sl (i:=10) O).cell _ _ (ke (dv:=Yv) J)))<|have hkk:(k-1).toNat<lg.length:=J;have ek:(k-1).toNat+1=k.toNat:=J;have hok:=amG (o:=o.toNat) J hkk hb;?_
  rw[ek]at hok
  obtain⟨aRV,aHz,aHA,aAw,aAx⟩:=hu _ (k-1) J J hok lg tm _ _ ⟨F10,L11,aHx,aHy,rfl⟩ cF
  refine bV O aAx (Lj aAw (cs:=aHz) aHA) ?_
  rintro _ w20 ⟨rfl,Z21,aHB,eN⟩
  have hzk:=aHB
  rw[<-ek,<-acZ hkk]at hzk
  refine aa<|ax<|aE HP<|V (fG O O J)<|aI rfl<|aa<| ?_
  refine⟨(k-1,Z21),aZ,E2.u4.u4.u4.u1.u1,(Hp.conv eN aN),(aK I aN),J,J,?_⟩
  exact hzk
 refine a7 (id:=0) rfl<|ax<|have ek:k=o:=J;?_
 rw[ek]at J2
 obtain⟨F24,L25,aAy,aHD,rfl⟩:=J2
 have jL:=eD
 simp only[NZ,nE]at jL
 refine aE ET<|aE ET<|V (af O)<|V (fA bM 14 O jQ O)<|lV gH jL 0 O O rfl<|aE adr<|V (tT (jL.sl (i:=10) O) gH sizeOf1 O O J)<|V (af O)<|V (fA bM 14 O jQ O)<|have l7:=Hp.acK jL (i:=10) O (m:=o.toNat) J;bu l7 (i:=0) O (bL O O (v:=(kS F24.vd (o.toNat))) O (aS (l7.get (i:=10) O)).1 (aS (l7.get (i:=10) O)).2 (l7.blk (i:=0) O) az)<|fun w29 jx=> ?_
 simp only[fO,gU,iZ,fg,Nat.reduceAdd]at jx
 refine aa<|nW O ⟨rfl,_,⟨{F24 with vd:=(kS F24.vd (o.toNat))},L25,⟨aAy.fo,aAy.us⟩,aHD,rfl⟩,(jx)⟩
theorem NG(v:Int)(w:World)(hb:w.heap[n]?=some (.cells #[wr,vL,vt,vv,vy,vu,vq,I sn,vW,vU,vT,I cn,B sk,U wy,vd,vm] 111 (0,0)))(hy:Sl w vy 1 aX.length (aX.map U)):Calls Tryz.prog 21 #[pt n,I v] w (Pure (U (if 0<=v/\v<aX.length then aX.getD v.toNat 0 else 0)) w):=by
 refine eH func21 rfl rfl fun hH=>SR<|va (v:=U 0#64) rfl<|aa<|ah<|SR<|aE (v:=Pn _ _) rfl<|V (jf cw O O)<|mB rfl<|cC O rfl<|mI rfl<|V (aL O O)<|mB rfl<|mB rfl<|bN 11 O (fun h2=> ?_) (fun h2=> ?_)
 .refine aE (v:=B true) rfl<|aa<|cB rfl<|SR<|va (v:=U 0#64) rfl<|aa<|aj<|oU O ?_ hH
  (rw[aP J]<;>rfl)
 refine mI rfl<|aE (v:=Pn _ _) rfl<|V (af O)<|V (fA bM 4 O iN O)<|V (au cS O O (hH.ed hb O))<|V (aA (hy.hp hH) O cS O)<|V (dA O O)<|mB rfl<|aa<|aF O (fun h4=> ?_) (fun h4=> ?_)
 .refine SR<|va (v:=U 0#64) rfl<|aa<|aj<|oU O ?_ hH
  (rw[aP J]<;>rfl)
 refine ak<|SR<|aE (v:=Pn _ _) rfl<|V (af O)<|V (fA bM 4 O iN O)<|V (au cS O O (hH.ed hb O))<|mI rfl<|V (ag (hy.hp hH) cS c8 O O J)<|V (au dW O O ((hy.hp hH).cell _ _ (ke (dv:=0#64) J)))<|aU rfl<|aa<|aj<|oU O ?_ hH
 (rw[aQ ⟨J,J⟩]<;>rfl)
theorem Jl(w:World)(hb:w.heap[n]?=some (.cells #[wr,vL,vt,vv,vy,vu,vq,I sn,vW,vU,vT,I cn,B sk,U wy,vd,vm] 111 (0,0)))(hm:Sl w vm 1 tm.length (tm.map I)):Calls Tryz.prog 24 #[pt n] w (Pure (I (tm.length:Int)) w):=by
 refine eH func24 rfl rfl fun hH=>SR<|va (v:=I 0) rfl<|aa<|ah<|SR<|aE (v:=Pn _ _) rfl<|V (jf cw O O)<|aa<|dh rfl<|ak<|SR<|aE (v:=Pn _ _) rfl<|V (af O)<|V (fA bM 15 O cP O)<|V (au bg O O (hH.ed hb O))<|V (aA (hm.hp hH) O bg O)<|aI rfl<|aa<|aj<|oI O ?_ hH
 rfl
theorem Ib(w:World)(hb:w.heap[n]?=some (.cells #[wr,vL,vt,vv,vy,vu,vq,I sn,vW,vU,vT,I cn,B sk,U wy,vd,vm] 111 (0,0))):Calls Tryz.prog 16 #[pt n] w (Pure (.tuple #[U wy,B sk]) w):=by
 refine eH func16 rfl rfl fun hH=>SR<|va (v:=U 0#64) rfl<|va (v:=B false) rfl<|aa<|ah<|SR<|aE (v:=Pn _ _) rfl<|V (jf cw O O)<|aa<|dh rfl<|ak<|ah<|eF aM hH<|fun w1 aW=>have fK:=aW;AQ 0 O fK (mV (Pn _ _) O)<|AQ 1 O fK (af O)<|AQ 2 O fK (fA bM 13 O c8 O)<|AT 3 O fK (fun w hS=>au dW O O (hS.ed hb (v:=U _) O))<|AQ 4 O fK (mV (Pn _ _) O)<|AQ 5 O fK (af O)<|AQ 6 O fK (fA bM 12 O mG O)<|AT 7 O fK (fun w hS=>au qb O O (hS.ed hb (v:=B _) O))<|AQ 8 O fK (aV (U _) O)<|AQ 9 O fK (aV (B _) O)<|AD<|aj<|kG O O O aW.below
theorem Ic(v:Int)(w:World)(hb:w.heap[n]?=some (.cells #[wr,vL,vt,vv,vy,vu,vq,I sn,vW,vU,vT,I cn,B sk,U wy,vd,vm] 111 (0,0)))(hv:Sl w vv 8 ai.length (ai.flatMap sU)):Calls Tryz.prog 23 #[pt n,I v] w (Pure (.agg (jg (if 0<=v/\v<ai.length then ai.getD v.toNat dy else dy))) w):=by
 refine eH func23 rfl rfl fun hH=>SR<|oY hH (bf jH)<|fun b3 w1 aW=>aa<|ah<|SR<|aE (v:=Pn _ _) rfl<|V (jf cw O O)<|mB rfl<|cC O rfl<|mI rfl<|V (aL O O)<|mB rfl<|mB rfl<|bN 11 O (fun h5=> ?_) (fun h5=> ?_)
 .refine aE (v:=B true) rfl<|aa<|cB rfl<|SR<|V (dO (vs:=[]) O (yf))<|bu aW (i:=0) O (ey O O O (aW.blk (i:=0) O))<|fun w8 iB=>aa<|aj<|wu O O iB (i:=0) O cI O m5 ⟨?_,iB.below⟩
  (rw[aP J]<;>rfl)
 refine mI rfl<|aE (v:=Pn _ _) rfl<|V (af O)<|V (fA bM 3 O lz O)<|V (au dJ O O (aW.ed hb O))<|V (aA (hv.hp aW) O dJ O)<|V (dA O O)<|mB rfl<|aa<|aF O (fun h11=> ?_) (fun h11=> ?_)
 .refine SR<|V (dO (vs:=[]) O (yf))<|bu aW (i:=0) O (ey O O O (aW.blk (i:=0) O))<|fun PO iX=>aa<|aj<|wu O O iX (i:=0) O cI O m5 ⟨?_,iX.below⟩
  (rw[aP J]<;>rfl)
 refine ak<|SR<|aE (v:=Pn _ _) rfl<|V (af O)<|V (fA bM 3 O lz O)<|V (au dJ O O (aW.ed hb O))<|mI rfl<|V (ag (hv.hp aW) dJ gM O O J)<|V (lC (hv.hp aW) cI O O O J)<|bu aW (i:=0) O (ey O O O (aW.blk (i:=0) O))<|fun PR jy=>aa<|aj<|wu O O jy (i:=0) O cI O m5 ⟨?_,jy.below⟩
 (rw[aQ ⟨J,J⟩]<;>rfl)
section
theorem NH{R L0:List a8}{s:NP}{x:Value}{v:Int}{was:El}{had:BitVec 64}(hx:ku NX n L0 (x,.raise v was had))(hok:okN (.raise v was had) s):Nx W0 n m R L0 (x,.raise v was had) s:=by
 rintro lg tm Z w ⟨F,L,hI,hL,rfl⟩ hH
 obtain⟨b1,b2,b3,b4,hf,V8,KK,hb3,hb4⟩:=hx
 subst hf
 refine⟨_,[pt b1,pt b2,pt b3,pt b4],rfl,call193,?_⟩
 refine(EV hok _ (bt _ (bt _ (hL _ _ V8))) (bt _ (bt _ (hL _ _ KK))) (bt _ (bt _ (hL _ _ hb3))) (bt _ (bt _ (hL _ _ hb4))) hH).mono fun e w' hr=>iA.mono ?_ hr
 rintro u w' ⟨rfl,hh⟩
 exact⟨rfl,_,⟨F,L,⟨hI.fo,hI.us⟩,hL,rfl⟩,hh⟩
theorem adH{R L0:List a8}{s:NP}{x:Value}{was:Int}(hx:ku NX n L0 (x,.seen was)):Nx W0 n m R L0 (x,.seen was) s:=by
 rintro lg tm Z w ⟨F,L,hI,hL,rfl⟩ hH
 obtain⟨b1,b2,hf,V8,KK⟩:=hx
 subst hf
 refine⟨_,[pt b1,pt b2],rfl,call88,?_⟩
 refine(Dg _ (bt _ (bt _ (hL _ _ V8))) (bt _ (bt _ (hL _ _ KK))) hH).mono fun e w' hr=>iA.mono ?_ hr
 rintro u w' ⟨rfl,hh⟩
 exact⟨rfl,_,⟨F,L,⟨hI.fo,hI.us⟩,hL,rfl⟩,hh⟩
theorem Zy{R L0:List a8}{s:NP}{x:Value}(hx:ku NX n L0 (x,.stuck)):Nx W0 n m R L0 (x,.stuck) s:=by
 rintro lg tm Z w ⟨F,L,hI,hL,rfl⟩ hH
 obtain⟨b1,hf,V8⟩:=hx
 subst hf
 refine⟨_,[pt b1],rfl,call45,?_⟩
 refine(Dh _ (bt _ (bt _ (hL _ _ V8))) hH).mono fun e w' hr=>iA.mono ?_ hr
 rintro u w' ⟨rfl,hh⟩
 exact⟨rfl,_,⟨F,L,⟨hI.fo,hI.us⟩,hL,rfl⟩,hh⟩
theorem NJ{R L0:List a8}{s:NP}{x:Value}{k:Int}(hm:m<=100000)(hx:ku NX n L0 (x,.merge k)):Nx W0 n m R L0 (x,.merge k) s:=by
 rintro lg tm Z w ⟨F,L,hI,hL,rfl⟩ hH
 obtain⟨b1,b2,hf,V8,KK⟩:=hx
 subst hf
 refine⟨_,[pt b1,pt b2],rfl,call157,?_⟩
 refine(EW (R:=F.us.map (dr 3)++R) hm _ aeH aeI hI.fo (by rw[dg];exact hH)).mono fun e w' hr=>iA.mono ?_ hr
 rintro u w' ⟨rfl,zvW,zvU,zvT,zcW,zcU,zW,zul,zts,zcn,Lb,hfo,hh⟩
 exact⟨rfl,_,⟨{F with vW:=zvW,vU:=zvU,vT:=zvT,cW:=zcW,cU:=zcU,W:=zW,ul:=zul,ts:=zts,cn:=zcn},Lb++L,⟨hfo,hI.us⟩,fun b o h=>bt _ (hL b o h),rfl⟩,by rw[dg]at hh;exact hh⟩
theorem aj0{R L0:List a8}{s:NP}{x:Value}{i:Nat}(hx:ku NX n L0 (x,.aT i))(hok:okN (.aT i) s):Nx W0 n m R L0 (x,.aT i) s:=by
 rintro lg tm Z w ⟨F,L,hI,hL,rfl⟩ hH
 obtain⟨b1,b2,hf,V8,KK⟩:=hx
 subst hf
 refine⟨_,[pt b1,pt b2],rfl,call54,?_⟩
 refine(H7 ⟨Ke _,Bf.2 hok⟩ _ (bt _ (bt _ (hL _ _ V8))) (bt _ (bt _ (hL _ _ KK))) hH).mono fun e w' hr=>iA.mono ?_ hr
 rintro u w' ⟨rfl,vL,hh⟩
 exact⟨rfl,_,⟨{F with vL:=vL},L,⟨hI.fo,hI.us⟩,hL,rfl⟩,hh⟩
theorem anZ{R L0:List a8}{s:NP}{x:Value×jj}(hm:m<=100000)(hx:ku NX n L0 x)(hr:EH x.2)(hok:okN x.2 s):Nx W0 n m R L0 x s:=by
 obtain⟨v,c⟩:=x
 cases c with
 |raise v was had=>exact NH hx hok
 |merge k=>exact NJ hm hx
 |_=>exact hr.elim
end
theorem Gh{s:NP}{L0 Z:List a8}{ids:List Nat}{tl:List (Nat×Rl)}{f:Ct}{nk:Nat}{Zf:List a8}(Jzz:x9->Prop)(mu:x9->Nat)(M:Nat)(hm:m+s.ai.length<=100000)(hok:BS s)(hwy:s.sk=false->s.wy=0)(hlg:lg.length+1000*M<=400000000000)(htm:tm.length<=100000000)(hf:EC nk f)(hnk:nk+3*M<=90000000000)(hJ:∀us:List iW,mO us=s.us->Jzz (UW (rP s.cs us s.an s.aT s.qs s.sn s.ai.length ⟨s.ai,s.aX,[],List.replicate s.qs.length false⟩).s s.sn s.qs.length)/\mu (UW (rP s.cs us s.an s.aT s.qs s.sn s.ai.length ⟨s.ai,s.aX,[],List.replicate s.qs.length false⟩).s s.sn s.qs.length)<=M/\∀cX eA I4 me x,Jzz ⟨cX,eA,x::I4,me⟩->∀r,mP (bk (rP s.cs us s.an s.aT s.qs s.sn s.ai.length ⟨s.ai,s.aX,[],List.replicate s.qs.length false⟩).cs) us (s.an.getD (s.qs.getD x.toNat cQ).aT.toNat oK).p.sh (s.qs.getD x.toNat cQ) cX eA I4 (me.set x.toNat false) s.wy=r->r.ok=true->Jzz ⟨r.ai,r.aX,r.wl,r.wi⟩/\mu ⟨r.ai,r.aX,r.wl,r.wi⟩<mu ⟨cX,eA,x::I4,me⟩)(w:World)(hT:oh W0)(hlv:UQ TX (Kz (Kw W0) L0) ids tl s.an)(hZ:kA (AH fr) ids f tl Zf)(HY:Yp (Kz (Kw W0) L0) s.qs)(hZn:qU n m s lg tm Zf L0 Z)(hH:Hp W0 w Z):Calls Tryz.prog 15 #[pt n] w (iA fun u w'=>(s.sk=true/\u=B false/\∃Z',qU n m s lg tm Zf L0 Z'/\Hp W0 w' Z')\/(s.sk=false/\∃(us:List iW) (ok:Bool) (c:x9) (S3:BitVec 64) (a:Nat) (s':NP) (new:List (Value×jj)) (L1 Z' Zf':List a8) (f':Ct),mO us=s.us/\u=B ok/\SpR (bk (rP s.cs us s.an s.aT s.qs s.sn s.ai.length ⟨s.ai,s.aX,[],List.replicate s.qs.length false⟩).cs) us s.an s.qs c ok s.wy S3/\Jzz c/\a+mu c<=mu (UW (rP s.cs us s.an s.aT s.qs s.sn s.ai.length ⟨s.ai,s.aX,[],List.replicate s.qs.length false⟩).s s.sn s.qs.length)+(if ok then 0 else 1)/\s'=(if ok then(NP.mk s.an s.aT c.ai c.aX s.us s.qs s.qs.length (rP s.cs us s.an s.aT s.qs s.sn s.ai.length ⟨s.ai,s.aX,[],List.replicate s.qs.length false⟩).cs s.sk s.wy s.wr)else{s with sk:=true,wy:=S3})/\(∀x∈new,ku NX n L1 x/\amB x.2)/\new.length<=1001*s.ai.length+1000*a+1/\gh new s s'/\(∀b o,a8.blk b o∈L0->a8.blk b o∈L1)/\kA (AH fr) ids f' tl Zf'/\oV f f' a a (a+(rP s.cs us s.an s.aT s.qs s.sn s.ai.length ⟨s.ai,s.aX,[],List.replicate s.qs.length false⟩).j)/\qU n (m+s.ai.length) s' (lg++new) (tm++[(lg.length:Int)]) Zf' L1 Z'/\Hp W0 w' Z')):=by
 refine enter func15 rfl ntmps15 rfl ?_
 obtain⟨F1,L2,xI,Ia,rfl⟩:=hZn
 have bU:=hH
 simp only[NZ,nE]at bU
 have gT:=Hp.lN (A:=[_,_,_,_,_,_,_,_,_,_,_,_]) (B:=F1.us.map (dr 3)) (R:=Zf) bU
 simp only[fH,er]at gT
 refine SR<|iu gT (v:=Pn _ _) rfl<|fun b9 w7 fq=>va (v:=B false) rfl<|aa<|ah<|SR<| ?_
 obtain⟨R1,VW⟩:∃R1:List a8,R1=[a8.blk b9 (.cells #[pt n] 31 (0,0))]++(F1.us.map (dr 3)++L2):=⟨_,rfl⟩
 have bW:=Hp.lN (A:=[_,_,_,_,_,_,_,_,_,_,_,_]) (B:=[a8.blk b9 (.cells #[pt n] 31 (0,0))]) (R:=Zf) (fq.pj [1,1,1,1,1,1,1,1,1,1,1,1])
 rw[<-VW]at bW
 simp only[fH,er]at bW
 have adI:a8.blk b9 (.cells #[pt n] 31 (0,0))∈R1:=by rw[VW];simp
 have hle:Le (Kz (Kw W0) L0) (Kz (Kw W0) R1):=Le.zb fun b o h=>by rw[VW];exact bt _ (bt _ (Ia b o h))
 have adF:=hlv.mono hle
 have anR:=HY.mono hle
 have ND:=xI.fo.mono (L':=R1) fun e he=>by rw[VW];exact bt _ (bt _ he)
 refine V (au cw O O (bW.gP ((fun x hx=>(mT (mT (mT (mT (mT (mT (mT (mT (mT (mT (mT (mT (bt _ hx)))))))))))))) _ adI) (v:=Pn _ _) O))<|aG O bW (oe _ (bW.blk (i:=0) O)) (aq call40 O)<|fun B7 cm=>V (bO O)<|aa<|bY O (fun yj=> ?_) (fun yj=> ?_)
 .refine SR<|va (v:=B false) rfl<|aa<|aj<|have dU:=(cm);?_
  subst VW
  exact iG (v:=B false) O O (.inl ⟨jV,rfl,_,⟨F1,[]++([a8.blk b9 (.cells #[pt n] 31 (0,0))]++L2),⟨xI.fo.mono fun e he=>bt _ (bt _ he),xI.us⟩,fun b o h=>bt _ (bt _ (Ia b o h)),rfl⟩,Hp.Yw (A:=[_,_,_,_,_,_,_,_,_,_,_,_]) (Lb:=[]) (E:=[a8.blk b9 (.cells #[pt n] 31 (0,0))]) dU⟩)
 refine ak<|SR<|V (au cw O O (cm.gP ((fun x hx=>(mT (mT (mT (mT (mT (mT (mT (mT (mT (mT (mT (mT (bt _ hx)))))))))))))) _ adI) (v:=Pn _ _) O))<|bV O (o8 J _ cm) (aq call41 O)<| ?_
 rintro _ w20 ⟨rfl,v22,fp⟩
 simp only[nE]at fp
 refine aa<|SR<|V (au cw O O (fp.gP ((fun x hx=>(mT (mT (mT (mT (mT (mT (mT (mT (mT (mT (mT (mT (bt _ hx)))))))))))))) _ adI) (v:=Pn _ _) O))<|V (af O)<|V (fA bM 14 O jQ O)<|lV gH fp 0 O O rfl<|V (aA (fp.sl (i:=10) O) O gH O)<|aI rfl<|aa<|ah<|SR<|V (au cw O O (fp.gP ((fun x hx=>(mT (mT (mT (mT (mT (mT (mT (mT (mT (mT (mT (mT (bt _ hx)))))))))))))) _ adI) (v:=Pn _ _) O))<|have Jk:∀k:Nat,k<F1.us.length->dr 3 (F1.us.getD k cD)∈R1/\(F1.us.getD k cD).l.length<=1000/\∀i∈(F1.us.getD k cD).l,0<=i/\i<(s.qs.length:Int):=(fun k hk=>by rw[VW];exact⟨bt _ (UX hok xI.us (L:=[]) k hk|>.1|>fun q=>by rw[kV]at q;exact dx _ q),(UX hok xI.us (t:=0) (L:=[]) k hk).2⟩);have anD:F1.us.length=s.ai.length:=(by rw[<-eM,xI.us];exact hok.NU);?_
 obtain⟨hJ0,hJ1,hJ2⟩:=hJ _ xI.us
 refine bV O (Gg Jzz mu hm hok.S2 anD hok.ni hok.NV J Jk hf J hok.Wc hok.hqn hok.hqo hok.hlt hok.hlr hJ0 hJ2 _ hT adF hZ anR ND fp) (aq call42 O) ?_
 rintro _ w43 ⟨aAz,adJ,an1,a28,aAA,aAB,aAC,aAD,aAE,W50,aAF,aAG,aAH,aAI,aAJ,SI,Z32,f33,rfl,an2,aAK,aAL,aqa,an3,aHN,VY,aAM,aAN,xC⟩
 simp only[nE]at xC
 refine aa<|bY O (fun h55=> ?_) (fun h55=> ?_)
 .refine SR<|va (v:=B true) rfl<|aa<|aj<|have tL:s.sk=false:=jV;have hof:aAz=true:=m6;have oH:=(xC);?_
  subst hof
  subst VW
  simp only[s5]at oH VY
  rw[xI.us]at VY
  have aHO:an1=s.wy:=by rcases an2 with⟨_,_,q⟩|⟨q,_⟩;exact q;cases q
  rw[aHO]at oH VY an2
  refine iG (v:=B true) O O (.inr ⟨tL,F1.us,true,adJ,s.wy,a28,_,aAJ,(SI++([a8.blk b9 (.cells #[pt n] 31 (0,0))]++L2)),_,Z32,f33,xI.us,rfl,an2,aAK,aAL,rfl,(fun x hx=>⟨(an3 x hx).1.mono fun e he=>dx _ he,(an3 x hx).2.2⟩),aHN,VY,(fun b o h=>bt _ (bt _ (Ia b o h))),aAM,aAN,⟨{F1 with vW:=aAA,vU:=aAB,vT:=aAC,cW:=aAD,cU:=aAE,W:=W50,ul:=aAF,ts:=aAG,cn:=aAH,vd:=aAI,vm:=v22},(SI++([a8.blk b9 (.cells #[pt n] 31 (0,0))]++L2)),⟨aqa.Dy fun b o h=>UY h,xI.us⟩,fun _ _ h=>h,rfl⟩,Hp.Yw (A:=[_,_,_,_,_,_,_,_,_,_,_,_]) oH⟩)
 refine ak<|SR<|V (au cw O O (xC.gP ((fun x hx=>(mT (mT (mT (mT (mT (mT (mT (mT (mT (mT (mT (mT (bt _ (bt _ hx))))))))))))))) _ adI) (v:=Pn _ _) O))<|V (af O)<|V (fA bM 13 O c8 O)<|V (au dW O O (xC.cell (i:=0) O (v:=U _) O))<|aU rfl<|aa<|SR<|V (au cw O O (xC.gP ((fun x hx=>(mT (mT (mT (mT (mT (mT (mT (mT (mT (mT (mT (mT (bt _ (bt _ hx))))))))))))))) _ adI) (v:=Pn _ _) O))<|mI rfl<|have hof:aAz=false:=m6;have Zz:=(xC);?_
 subst hof
 subst VW
 simp only[rZ,xd]at Zz VY aAL
 have NV:=hok.NV
 rw[xI.us]at VY
 obtain⟨Zc,hZc,hHc⟩:∃Z,qU n (m+s.ai.length) (NP.mk s.an s.aT adJ.ai adJ.aX s.us s.qs s.sn (rP s.cs F1.us s.an s.aT s.qs s.sn s.ai.length ⟨s.ai,s.aX,[],List.replicate s.qs.length false⟩).cs s.sk an1 s.wr) (lg++aAJ) (tm++[(lg.length:Int)]) Z32 (SI++([a8.blk b9 (.cells #[pt n] 31 (0,0))]++L2)) Z/\Hp W0 _ Z:=⟨_,⟨{F1 with vW:=aAA,vU:=aAB,vT:=aAC,cW:=aAD,cU:=aAE,W:=W50,ul:=aAF,ts:=aAG,cn:=aAH,vd:=aAI,vm:=v22},(SI++([a8.blk b9 (.cells #[pt n] 31 (0,0))]++L2)),⟨aqa.Dy fun b o h=>UY h,xI.us⟩,fun _ _ h=>h,rfl⟩,Hp.Yw (A:=[_,_,_,_,_,_,_,_,_,_,_,_]) Zz⟩
 refine bV O (yq (s:=(NP.mk s.an s.aT adJ.ai adJ.aX s.us s.qs s.sn (rP s.cs F1.us s.an s.aT s.qs s.sn s.ai.length ⟨s.ai,s.aX,[],List.replicate s.qs.length false⟩).cs s.sk an1 s.wr)) (R:=Z32) (L0:=(SI++([a8.blk b9 (.cells #[pt n] 31 (0,0))]++L2))) (Z:=Zc) (lg.length:Int) Ec Ec (by rw[dN,FL];exact VY.ok) (fun s1 k h1 h2 hok=>anZ hm ((an3 _ (aaK h1 h2)).1.mono fun e he=>dx _ he) ((an3 _ (aaK h1 h2)).2.1 O) hok) _ hZc hHc) (aJ call43 O O) ?_
 rintro _ w60 ⟨rfl,Z61,aAO,pC⟩
 rw[dN,FL,uv,VY.und]at aAO
 obtain⟨F64,L65,aAP,an4,rfl⟩:=aAO
 have mA:=pC
 simp only[NZ,nE]at mA
 refine aa<|ah<|ez (z:=⟨none,_,_,_,_,none⟩) aM O aM mA (sQ sR)<|fun w69 vk=>have No:=vk.sub (sQ sR);AT 0 O No (fun w hS=>au cw O O (hS.gP ((fun x hx=>(mT (mT (mT (mT (mT (mT (mT (mT (mT (mT (mT (bt _ (bt _ hx)))))))))))))) _ (an4 _ _ (show a8.blk b9 (.cells #[pt n] 31 (0,0))∈(SI++([a8.blk b9 (.cells #[pt n] 31 (0,0))]++L2))by simp))) (v:=Pn _ _) O))<|AT 1 O No (fun w hS=>au cw O O (hS.gP ((fun x hx=>(mT (mT (mT (mT (mT (mT (mT (mT (mT (mT (mT (bt _ (bt _ hx)))))))))))))) _ (an4 _ _ (show a8.blk b9 (.cells #[pt n] 31 (0,0))∈(SI++([a8.blk b9 (.cells #[pt n] 31 (0,0))]++L2))by simp))) (v:=Pn _ _) O))<|AQ 2 O No (mV (U _) O)<|AQ 3 O No (af O)<|AQ 4 O No (fA bM 12 O mG O)<|A1 5<|ec O aH vk (j:=0) O (sQ sR) (bL O O (v:=B true) O O O (vk.blk (i:=0) O) az)<|fun w73 zS=> ?_
 simp only[fO,gU,iZ,fg,Nat.reduceAdd]at zS
 refine AQ 6 O (zS.sub (sQ sR)) (af O)<|AQ 7 O (zS.sub (sQ sR)) (fA bM 13 O c8 O)<|AD<|bu zS (i:=0) O (bL O O (v:=U _) O O O (zS.blk (i:=0) O) az)<|fun w75 qS=> ?_
 simp only[fO,gU,iZ,fg,Nat.reduceAdd]at qS
 refine aa<|SR<|V (au cw O O (qS.gP ((fun x hx=>(mT (mT (mT (mT (mT (mT (mT (mT (mT (mT (mT (mT (bt _ (bt _ hx))))))))))))))) _ (an4 _ _ (show a8.blk b9 (.cells #[pt n] 31 (0,0))∈(SI++([a8.blk b9 (.cells #[pt n] 31 (0,0))]++L2))by simp))) (v:=Pn _ _) O))<| ?_
 refine V (Bw bG) ?_
 refine bV O (iq _ _ .stuck Xg _ qS) (aJ yI O O) ?_
 rintro _ w79 ⟨rfl,v81,tA⟩
 simp only[nE]at tA
 refine aa<|SR<|va (v:=B false) rfl<|aa<|aj<|have tL:s.sk=false:=jV;have tC:=(tA);iG (v:=B false) O O (.inr ⟨tL,F1.us,false,adJ,an1,a28,_,[((jF 45 #[pt b9]),.stuck)],(SI++([a8.blk b9 (.cells #[pt n] 31 (0,0))]++L2)),_,Z32,f33,xI.us,rfl,an2,aAK,iF,rfl,(fun x hx=>by rw[fZ.1 hx];exact⟨⟨_,rfl,az⟩,trivial⟩),(by rw[gk];omega),Yx tL (hwy tL),(fun b o h=>bt _ (bt _ (Ia b o h))),aAM,aAN,⟨{F64 with vd:=v81,vm:=F64.vm},L65,⟨aAP.fo,aAP.us⟩,an4,rfl⟩,tC⟩)
theorem NK(x:Value)(hx:x.cells=#[x])(w:World):Calls Tryz.prog 36 #[x] w (iA fun u w'=>∃(n:Nat) (Z:List a8),u=pt n/\Hp w w' Z/\qU n 0 (NP.mk [] [] [] [] [] [] 0 [[]] false 0 x) [] [] [] [] Z):=by
 refine eH func36 rfl rfl fun hH=>SR<|va (v:= .pointer none) rfl<|aa<|SR<|V (run_move (show _=x from O))<|V (dO (vs:=[(0,x)]) O (adz hx))<|iu hH (v:= .agg _) rfl<|fun b3 w1 aW=>va (v:=Pn _ _) rfl<|aa<|aj<|have hN:=(((((((((((aW.fD 3 1).fD 1 1).fD 128 13).fD 99 1).fD 35 1).fD 37 8).fD 3 1).fD 119 13).fD 3 1).fD 1 1).fD 35 1);iG O (v:=pt b3) O ⟨b3,_,rfl,hN.perm (sW (l₁:=[_,_,_,_,_,_,_,_,_,_,_]) (l₂:=[_])),⟨.slice none 0 0,.slice none 0 0,.slice none 0 0,.slice none 0 0,.slice none 0 0,.slice none 0 0,.slice none 0 0,.slice none 0 0,.slice none 0 0,0,.slice none 0 0,.slice none 0 0,none,none,[],[],[],[]⟩,[],⟨⟨⟨[],rfl,trivial,trivial,⟨rfl,rfl,rfl⟩,trivial,(fun x hx=>by cases hx),eG _,eG _⟩,rfl⟩,rfl⟩,(fun b o h=>ow),rfl⟩
theorem Jm{s:NP}{R L0 Z:List a8}(k:Int)(hk0:0<=k)(hlg:lg.length<=600000000000)(htr:k<tm.length->(0<=tm.getD k.toNat 0/\tm.getD k.toNat 0<=lg.length)/\okB (u6 lg (tm.getD k.toNat 0).toNat) s)(hu:∀x:Value×jj,∀s1:NP,x∈lg->okN x.2 s1->Nx W0 n m R L0 x s1)(w:World)(hZ:qU n m s lg tm R L0 Z)(hH:Hp W0 w Z):Calls Tryz.prog 26 #[pt n,I k] w (iA fun u w'=>(tm.length<k/\u=B false/\∃Z',qU n m s lg tm R L0 Z'/\Hp W0 w' Z')\/(k=tm.length/\u=B true/\∃Z',qU n m s lg tm R L0 Z'/\Hp W0 w' Z')\/(k<tm.length/\u=B true/\∃Z',qU n m (xm (u6 lg (tm.getD k.toNat 0).toNat) s) (lg.take (tm.getD k.toNat 0).toNat) (tm.take k.toNat) R L0 Z'/\Hp W0 w' Z')):=by
 refine enter func26 rfl ntmps26 rfl ?_
 obtain⟨F1,L2,xI,Ia,rfl⟩:=hZ
 have bU:=hH
 simp only[NZ,nE]at bU
 refine SR<|va (v:=B false) rfl<|aa<|ah<|SR<|aE (v:=Pn _ _) rfl<|V (jf cw O O)<|mB rfl<|cC O rfl<|mI rfl<|aE (v:=Pn _ _) rfl<|V (af O)<|V (fA bM 15 O cP O)<|lV bg bU 0 O O rfl<|V (aA (bU.sl (i:=11) O) O bg O)<|V (dz O O)<|mB rfl<|aa<|aF O (fun h7=> ?_) (fun h7=> ?_)
 .refine SR<|va (v:=B false) rfl<|aa<|aj<|iG (v:=B false) O O (.inl ⟨J,rfl,_,⟨F1,L2,xI,Ia,rfl⟩,(bU)⟩)
 refine ak<|ah<|SR<|mI rfl<|V (Br O O)<|V (run_assign (jA O (aK I (show max k 0=k by omega))))<|aa<|SR<|mI rfl<|aE (v:=Pn _ _) rfl<|V (af O)<|V (fA bM 15 O cP O)<|lV bg bU 0 O O rfl<|V (aA (bU.sl (i:=11) O) O bg O)<|V (aL O O)<|aa<|aF O (fun h9=> ?_) (fun h9=> ?_)
 .refine SR<|aE (v:=Pn _ _) rfl<|aE (v:=Pn _ _) rfl<|V (af O)<|V (fA bM 15 O cP O)<|lV bg bU 0 O O rfl<|mI rfl<|V (ag (bU.sl (i:=11) O) bg bz O O J)<|V (au bx O O ((bU.sl (i:=11) O).cell _ _ (dZ J)))<| ?_
  obtain⟨Z10,aus,cK⟩:∃Z,qU n m s lg tm R L0 Z/\Hp W0 _ Z:=⟨_,⟨F1,L2,xI,Ia,rfl⟩,(bU)⟩
  have hkt:k.toNat<tm.length:=J
  refine bV O (yq (s:=s) (R:=R) (L0:=L0) (Z:=Z10) (tm.getD k.toNat 0) (htr J).1 hlg (htr J).2 (fun s1 j h1 h2 hok=>hu _ s1 (dc (by have:=(htr J).1;omega) h2) hok) _ aus cK) (aJ call43 O O) ?_
  rintro _ C7 ⟨rfl,Z14,aHP,cG⟩
  obtain⟨F17,L18,aAQ,aHR,rfl⟩:=aHP
  have fp:=cG
  simp only[NZ,nE]at fp
  refine aa<|ax<|aE (v:=Pn _ _) rfl<|aE (v:=Pn _ _) rfl<|V (af O)<|V (fA bM 15 O cP O)<|lV bg fp 0 O O rfl<|mI rfl<|V (tT (fp.sl (i:=11) O) bg bz O O J)<|V (af O)<|V (fA bM 15 O cP O)<|have oF:=Hp.acK fp (i:=11) O (m:=k.toNat) J;bu oF (i:=0) O (bL O O (v:=(kS F17.vm (k.toNat))) O (aS (oF.get (i:=11) O)).1 (aS (oF.get (i:=11) O)).2 (oF.blk (i:=0) O) az)<|fun S5 eN=> ?_
  simp only[fO,gU,iZ,fg,Nat.reduceAdd]at eN
  refine aa<|SR<|va (v:=B true) rfl<|aa<|aj<|iG (v:=B true) O O (.inr (.inr ⟨J,rfl,_,⟨{F17 with vm:=(kS F17.vm (k.toNat))},L18,⟨aAQ.fo,aAQ.us⟩,aHR,rfl⟩,(eN)⟩))
 refine ak<|SR<|va (v:=B true) rfl<|aa<|aj<|iG (v:=B true) O O (.inr (.inl ⟨J,rfl,_,⟨F1,L2,xI,Ia,rfl⟩,(bU)⟩))
theorem NL{s:NP}{L0 Z:List a8}{ids:List Nat}{tl:List (Nat×Rl)}{f:Ct}{Zf:List a8}(p:kX)(hfn:p.aY.length<=1000)(hnn:∀f∈p.aY,f.names.length<=1000)(hll:s.an.length<=1000)(hlg:lg.length<=550000000000)(htm:tm.length<=100000000)(hwr:WrF s.wr ids)(w:World)(hT:oh W0)(hsh:lB (Kz (Kw W0) L0) p)(hZ:kA (AH fr) ids f tl Zf)(hZn:qU n m s lg tm Zf L0 Z)(hH:Hp W0 w Z):Calls Tryz.prog 19 #[pt n,.agg (rD p)] w (iA fun u w'=>((s.sk=true\/qY p.sh=false)/\u=I (-1)/\∃Z',qU n m s lg tm Zf L0 Z'/\Hp W0 w' Z')\/(s.sk=false/\∃(x:oJ) (fv:Value) (PI:List (Nat×Rl)) (L1 Z' Zf':List a8),qY p.sh=true/\u=I s.an.length/\x.p.sh=p.sh/\x.low=gZ p.sh eU/\WrD s.wr x.d/\(∀b o,a8.blk b o∈L0->a8.blk b o∈L1)/\Wf TX (Kz (Kw W0) L1) ids (tl++PI) x/\ku NX n L1 (fv,.aT s.an.length)/\kA (AH fr) ids f (tl++PI) Zf'/\gh [(fv,.aT s.an.length)] s {s with an:=s.an++[x]}/\qU n m {s with an:=s.an++[x]} (lg++[(fv,.aT s.an.length)]) (tm++[(lg.length:Int)]) Zf' L1 Z'/\Hp W0 w' Z')):=by
 refine enter func19 rfl ntmps19 rfl ?_
 obtain⟨F1,L2,xI,Ia,rfl⟩:=hZn
 have bU:=hH
 simp only[NZ,nE]at bU
 have gT:=Hp.lN (A:=[_,_,_,_,_,_,_,_,_,_,_,_]) (B:=F1.us.map (dr 3)) (R:=Zf) bU
 simp only[fH,er]at gT
 have aAR:=hsh.mono (Le.zb (K:=Kw W0) Ia)
 refine SR<|iu gT (v:=Pn _ _) rfl<|fun b9 w7 fq=>iu fq (v:= .agg _) rfl<|fun b12 Gk dF=>va (v:=I 0) rfl<|aa<|ah<|SR<|lP cw dF 1 O O rfl<|aG O dF (oe _ (dF.blk (i:=2) O)) (aq call40 O)<|fun C7 cF=>V (bO O)<|mB rfl<|gm 11 O (fun Om=> ?_) (fun Om=> ?_)
 .refine aE (v:=B true) rfl<|aa<|cB rfl<|SR<|va (v:=I (-1)) rfl<|aa<|aj<|iG (v:=I (-1)) O O (.inl ⟨jV,rfl,_,⟨F1,L2,xI,Ia,rfl⟩,Hp.lN (A:=[_,_,_,_,_,_,_,_,_,_,_,_]) (cF.sub (sQ (sQ sR)))⟩)
 refine V (cN (cs:=[B _,_]) dL O O O (bp (cF.blk (i:=0) O)))<|aG O cF (xA p _ (aAR.mono (cF.kz (Le.refl _) (fun x hx=>(mT (mT (mT (mT (mT (mT (mT (mT (mT (mT (mT (mT (mT (mT (bt _ (bt _ hx))))))))))))))))))) (hT.hp cF)) (aq call50 O)<|fun PR jy=>V (bO O)<|mB rfl<|aa<|bY O (fun h22=> ?_) (fun h22=> ?_)
 .refine SR<|va (v:=I (-1)) rfl<|aa<|aj<|iG (v:=I (-1)) O O (.inl ⟨jV,rfl,_,⟨F1,L2,xI,Ia,rfl⟩,Hp.lN (A:=[_,_,_,_,_,_,_,_,_,_,_,_]) (jy.sub (sQ (sQ sR)))⟩)
 refine ak<|SR<|lP cw jy 1 O O rfl<|bV O (o8 J _ (jy.pj [2,2,2,2,2,2,2,2,2,2,2,2])) (aq call41 O)<| ?_
 rintro _ w25 ⟨rfl,v27,kB⟩
 simp only[nE]at kB
 have jL:=kB.pk [12,12]
 refine aa<|SR<|V (cN (cs:=[B _,_]) dL O O O (bp (jL.blk (i:=0) O)))<|yd 1 1 jL (LH QB O O O (l:=[p]) O aD aD O)<|fun b31 w29 jx=>XK O jx (Ap (Kz (Kw W0) (F1.us.map (dr 3)++L2)) (.slice (some ⟨b31,0,none⟩) 1 1) [p] (show 1<=1000 by decide) (by simpa using hfn) (by simpa using hnn) _ (jx.kz (Le.refl _) (fun x hx=>(mT (mT (mT (mT (mT (mT (mT (mT (mT (mT (mT (mT (mT (mT (mT (bt _ hx)))))))))))))))))) (Hp.oy LF jx (i:=0) (l:=[p]) O (show 1<=maxLen by decide)) ⟨fun x hx=>by rw[fZ.1 hx];exact aAR.mono (Le.zz fun y hy=>bt _ hy)⟩) (aq call51 O)<|fun v34 w35 IT nO aHS=>have nR:Hp _ w35 (_::_::_::_::_::_::_::_::_::_::_::_::_::_::_::(IT++(Zf++(F1.us.map (dr 3)++L2)))):=nO.JI (L:=[_,_,_,_,_,_,_,_,_,_,_,_,_,_,_]) (L':=(Zf++(F1.us.map (dr 3)++L2)));have jM:Hp _ w35 (_::_::_::_::_::_::_::_::_::_::_::_::_::_::_::(Zf++(IT++(F1.us.map (dr 3)++L2)))):=Hp.swz (A:=[_,_,_,_,_,_,_,_,_,_,_,_,_,_,_]) nR;?_
 obtain⟨q5,rfl,aqb,aut⟩:=aHS
 refine oY jM (bf Tryz.zeroValue56)<|fun b47 w45 rT=>bu rT (i:=0) O (Ht aut O O O (rT.blk (i:=0) O) O)<|fun w50 vR=> ?_
 simp only[z2,gL,pull]at vR
 refine aa<|SR<|V (fA dL 0 O mG O)<|V (au qb O O (vR.cell (i:=2) O (v:=B _) O))<|V (fA dL 0 O mG O)<|bu (c':=#[B p.tuple,q5.fv]) vR (i:=0) O (bL (off:=0+0) O O (v:=B p.tuple) O O O (vR.blk (i:=0) O) az)<|fun w53 gy=> ?_
 simp only[z2,gL,pull]at gy
 have Wh:lB (Kz (Kw W0) (IT++(F1.us.map (dr 3)++L2))) (⟨p.tuple,q5.fv,q5.aY⟩:kX):=(show lB _ (⟨p.tuple,q5.fv,q5.aY⟩:kX)from⟨aut.aY,aut.each⟩).mono Le.kk
 have hps:(⟨p.tuple,q5.fv,q5.aY⟩:kX).sh=p.sh:=by show(⟨p.tuple,q5.aY.map pU.fc⟩:Sh)=p.sh;rw[PD aqb];rfl
 obtain⟨pf1,pf2⟩:=amH aqb hfn hnn
 refine aa<|Et (G:=(Nat)×(List a8)×(List a8)×(oJ)×(List (Nat×Rl))) gy (6::(rg 24 6 [])) (fun(L:List a8) (⟨q6,Z1,Zq,x1,PI⟩:(Nat)×(List a8)×(List a8)×(oJ)×(List (Nat×Rl)))=> .blk q6 (.cells (We x1).toArray 119 (0,0))::(L.take 16++(Z1++(Zq++(IT++(F1.us.map (dr 3)++L2)))))) (fun(⟨q6,Z1,Zq,x1,PI⟩:(Nat)×(List a8)×(List a8)×(oJ)×(List (Nat×Rl))) s'=>(s' 6= .pointer (some ⟨q6,0,none⟩))/\(kA (AH fr) ids f (tl++PI) Z1)/\((Wf TX (Kz (Kw W0) (Zq++(IT++(F1.us.map (dr 3)++L2)))) ids (tl++PI) x1))/\(x1.p=(⟨p.tuple,q5.fv,q5.aY⟩:kX))/\(x1.d.dep=0)/\(x1.low=gZ x1.p.sh eU)) ?_ ?_
 .refine ez (z:=⟨none,_,_,_,_,none⟩) aM O aM gy (sP (sP (sP (sP (sP (sP (sP (sP (sP (sP (sP (sP (sP (sP (sP (sP (sA sR)))))))))))))))))<|fun w55 oH=>have auu:=oH.sub (sP (sP (sP (sP (sP (sP (sP (sP (sP (sP (sP (sP (sP (sP (sP (sP (sA sR)))))))))))))))));AT 0 O auu (fun w hS=>cN (cs:=[B _,_]) dL O O O (bp (hS.blk (i:=0) O)))<|AT 1 O auu (fun w hS=>cN (cs:=[B _,_]) dL O O O (bp (hS.blk (i:=0) O)))<|AT 3 O auu (fun w hS=>cN (cs:=[B _,_]) dL O O O (bp (hS.blk (i:=0) O)))<|iy 2 6 aM ?_ ?_
  .refine th O aH O (Nn (Kz (Kw W0) (IT++(F1.us.map (dr 3)++L2))) (⟨p.tuple,q5.fv,q5.aY⟩:kX) pf1 pf2 _ (oH.kz (Le.refl _) (fun x hx=>(mT (mT (mT (mT (mT (mT (mT (mT (mT (mT (mT (mT (mT (mT (mT (mT (bt _ hx))))))))))))))))))) Wh) (aq call52 O) (fun u w' ⟨_,_,_,_,_,_,_,_,_,_,_,_,_,_,_,_,_,h⟩=>(oH.call h.below).sub (sP (sP (sP (sP (sP (sP (sP (sP (sP (sP (sP (sP (sP (sP (sP (sP (sA sR)))))))))))))))))) ?_
   rintro _ w59 ⟨f1,f2,f3,a1,a2,a3,p60,adK,aj1,aR3,aj2,rfl,aAS,aAT,aqc,aqd,aAU,h70⟩
   obtain⟨Z71,an5,vS⟩:∃Z,kA (AH fr) ids f (tl++aj1) Z/\Hp _ _ (_::_::_::_::_::_::_::_::_::_::_::_::_::_::_::_::(Z++(aj2++(IT++(F1.us.map (dr 3)++L2))))):=⟨_,hZ.app aAU,Hp.aoN (A:=[_,_,_,_,_,_,_,_,_,_,_,_,_,_,_,_]) (Hp.Fj oH h70)⟩
   refine iy 4 6 aM ?_ ?_
   .refine cJ O aH O vS (sP (sP (sP (sP (sP (sP (sP (sP (sP (sP (sP (sP (sP (sP (sP (sP (sA (sA sR)))))))))))))))))) (ve (⟨p.tuple,q5.fv,q5.aY⟩:kX) _ (Wh.mono (vS.kz (Le.refl _) (fun x hx=>(mT (mT (mT (mT (mT (mT (mT (mT (mT (mT (mT (mT (mT (mT (mT (mT (bt _ (bt _ hx))))))))))))))))))))) (hT.hp vS)) (aq call53 O)<|fun w74 F7=>AQ 5 O (F7.sub (sP (sP (sP (sP (sP (sP (sP (sP (sP (sP (sP (sP (sP (sP (sP (sP (sA (sA sR))))))))))))))))))) (dO (vs:=[(0,.agg (rD (⟨p.tuple,q5.fv,q5.aY⟩:kX))),(1,.agg #[jF f1 a1,jF f2 a2,jF f3 a3]),(2,.agg (jg (gZ (⟨p.tuple,q5.fv,q5.aY⟩:kX).sh eU)))]) O (xD _ _ _ _ (.base p60 adK) _))<|A1 6<|cY O aH O F7 (sP (sP (sP (sP (sP (sP (sP (sP (sP (sP (sP (sP (sP (sP (sP (sP (sA (sA sR)))))))))))))))))) (f:=fun b=> .pointer (some ⟨b,0,none⟩)) (bf Tryz.zeroValue119)<|fun b78 w76 EX=>AD<|have hlx:Wf TX (Kz (Kw W0) (aj2++(IT++(F1.us.map (dr 3)++L2)))) ids (tl++aj1) ⟨(⟨p.tuple,q5.fv,q5.aY⟩:kX),_,_,_,.base p60 adK,gZ (⟨p.tuple,q5.fv,q5.aY⟩:kX).sh eU⟩:=⟨aAS.mono Le.kk,⟨aqc,fun i hi q hq=>bt _ (aqd i hi q hq)⟩,aAT,Wh.mono (Le.zz fun x hx=>bt _ hx),lW _⟩;bu EX (i:=0) O (eC O O O (FM hlx) (EX.blk (i:=0) O) O)<|fun w79 tA=> ?_
    simp only[z2,gL,pull]at tA
    refine aa ?_
    refine⟨((Fr.refl _ _)).u4.u1.u1.u1,(b78,Z71,aj2,⟨(⟨p.tuple,q5.fv,q5.aY⟩:kX),_,_,_,.base p60 adK,gZ (⟨p.tuple,q5.fv,q5.aY⟩:kX).sh eU⟩,aj1),(Hp.conv tA Xo),rfl,?_,?_,aN,aN,aN⟩
    .exact an5
    exact hlx
   refine cY O aH O vS (sP (sP (sP (sP (sP (sP (sP (sP (sP (sP (sP (sP (sP (sP (sP (sP (sA (sA sR)))))))))))))))))) (f:=fun b=> .pointer (some ⟨b,0,none⟩)) (bf Tryz.zeroValue119)<|fun b83 w81 tC=>A1 4<|cJ O aH O tC (sQ (sP (sP (sP (sP (sP (sP (sP (sP (sP (sP (sP (sP (sP (sP (sP (sP (sA (sA sR))))))))))))))))))) (ve (⟨p.tuple,q5.fv,q5.aY⟩:kX) _ (Wh.mono (tC.kz (Le.refl _) (fun x hx=>(mT (mT (mT (mT (mT (mT (mT (mT (mT (mT (mT (mT (mT (mT (mT (mT (mT (bt _ (bt _ hx)))))))))))))))))))))) (hT.hp tC)) (aq call53 O)<|fun w84 VC=>AQ 5 O (VC.sub (sQ (sP (sP (sP (sP (sP (sP (sP (sP (sP (sP (sP (sP (sP (sP (sP (sP (sA (sA sR)))))))))))))))))))) (dO (vs:=[(0,.agg (rD (⟨p.tuple,q5.fv,q5.aY⟩:kX))),(1,.agg #[jF f1 a1,jF f2 a2,jF f3 a3]),(2,.agg (jg (gZ (⟨p.tuple,q5.fv,q5.aY⟩:kX).sh eU)))]) O (xD _ _ _ _ (.base p60 adK) _))<|AD<|have hlx:Wf TX (Kz (Kw W0) (aj2++(IT++(F1.us.map (dr 3)++L2)))) ids (tl++aj1) ⟨(⟨p.tuple,q5.fv,q5.aY⟩:kX),_,_,_,.base p60 adK,gZ (⟨p.tuple,q5.fv,q5.aY⟩:kX).sh eU⟩:=⟨aAS.mono Le.kk,⟨aqc,fun i hi q hq=>bt _ (aqd i hi q hq)⟩,aAT,Wh.mono (Le.zz fun x hx=>bt _ hx),lW _⟩;bu VC (i:=0) O (eC O O O (FM hlx) (VC.blk (i:=0) O) O)<|fun w86 VD=> ?_
   simp only[z2,gL,pull]at VD
   refine aa ?_
   refine⟨((Fr.refl _ _)).u4.u1.u1.u1,(b83,Z71,aj2,⟨(⟨p.tuple,q5.fv,q5.aY⟩:kX),_,_,_,.base p60 adK,gZ (⟨p.tuple,q5.fv,q5.aY⟩:kX).sh eU⟩,aj1),(Hp.conv VD Xo),rfl,?_,?_,aN,aN,aN⟩
   .exact an5
   exact hlx
  refine cY O aH O oH (sP (sP (sP (sP (sP (sP (sP (sP (sP (sP (sP (sP (sP (sP (sP (sP (sA sR))))))))))))))))) (f:=fun b=> .pointer (some ⟨b,0,none⟩)) (bf Tryz.zeroValue119)<|fun b90 w88 Sv=>A1 2<|th O aH O (Nn (Kz (Kw W0) (IT++(F1.us.map (dr 3)++L2))) (⟨p.tuple,q5.fv,q5.aY⟩:kX) pf1 pf2 _ (Sv.kz (Le.refl _) (fun x hx=>(mT (mT (mT (mT (mT (mT (mT (mT (mT (mT (mT (mT (mT (mT (mT (mT (mT (bt _ hx)))))))))))))))))))) Wh) (aq call52 O) (fun u w' ⟨_,_,_,_,_,_,_,_,_,_,_,_,_,_,_,_,_,h⟩=>(Sv.call h.below).sub (sQ (sP (sP (sP (sP (sP (sP (sP (sP (sP (sP (sP (sP (sP (sP (sP (sP (sA sR)))))))))))))))))))<| ?_
  rintro _ w93 ⟨f1,f2,f3,a1,a2,a3,p94,auv,auw,aR7,auy,rfl,aHU,aAV,auz,auA,auB,aHV⟩
  obtain⟨aHW,aAW,P4⟩:∃Z,kA (AH fr) ids f (tl++auw) Z/\Hp _ _ (_::_::_::_::_::_::_::_::_::_::_::_::_::_::_::_::_::(Z++(auy++(IT++(F1.us.map (dr 3)++L2))))):=⟨_,hZ.app auB,Hp.aoN (A:=[_,_,_,_,_,_,_,_,_,_,_,_,_,_,_,_,_]) (Hp.Fj Sv aHV)⟩
  refine A1 4<|cJ O aH O P4 (sQ (sP (sP (sP (sP (sP (sP (sP (sP (sP (sP (sP (sP (sP (sP (sP (sP (sA (sA sR))))))))))))))))))) (ve (⟨p.tuple,q5.fv,q5.aY⟩:kX) _ (Wh.mono (P4.kz (Le.refl _) (fun x hx=>(mT (mT (mT (mT (mT (mT (mT (mT (mT (mT (mT (mT (mT (mT (mT (mT (mT (bt _ (bt _ hx)))))))))))))))))))))) (hT.hp P4)) (aq call53 O)<|fun aHX P9=>AQ 5 O (P9.sub (sQ (sP (sP (sP (sP (sP (sP (sP (sP (sP (sP (sP (sP (sP (sP (sP (sP (sA (sA sR)))))))))))))))))))) (dO (vs:=[(0,.agg (rD (⟨p.tuple,q5.fv,q5.aY⟩:kX))),(1,.agg #[jF f1 a1,jF f2 a2,jF f3 a3]),(2,.agg (jg (gZ (⟨p.tuple,q5.fv,q5.aY⟩:kX).sh eU)))]) O (xD _ _ _ _ (.base p94 auv) _))<|AD<|have hlx:Wf TX (Kz (Kw W0) (auy++(IT++(F1.us.map (dr 3)++L2)))) ids (tl++auw) ⟨(⟨p.tuple,q5.fv,q5.aY⟩:kX),_,_,_,.base p94 auv,gZ (⟨p.tuple,q5.fv,q5.aY⟩:kX).sh eU⟩:=⟨aHU.mono Le.kk,⟨auz,fun i hi q hq=>bt _ (auA i hi q hq)⟩,aAV,Wh.mono (Le.zz fun x hx=>bt _ hx),lW _⟩;bu P9 (i:=0) O (eC O O O (FM hlx) (P9.blk (i:=0) O) O)<|fun aR8 VZ=> ?_
  simp only[z2,gL,pull]at VZ
  refine aa ?_
  refine⟨((Fr.refl _ _)).u4.u1.u1.u1,(b90,aHW,auy,⟨(⟨p.tuple,q5.fv,q5.aY⟩:kX),_,_,_,.base p94 auv,gZ (⟨p.tuple,q5.fv,q5.aY⟩:kX).sh eU⟩,auw),(Hp.conv VZ Xo),rfl,?_,?_,aN,aN,aN⟩
  .exact aAW
  exact hlx
 rintro⟨q6,Z1,Zq,x1,PI⟩ aMr anM aAX Cs ⟨SJ,J2,hx1,hxp,hxd,XQ⟩
 simp only[Gm,wS,fH,er]at Cs
 have tF:=aAX.w1 2
 refine ah<|SR<|V (au cw O tF (Cs.cell (i:=4) O (v:=Pn _ _) O))<|V (af O)<|V (fA bM 0 O sizeOf74 O)<|lV underlying74 Cs 5 O O rfl<|V (ac1 hwr.fn underlying74 O O)<|aa<|bY O (fun atO=> ?_) (fun atO=> ?_)
 .obtain⟨mwf,fwf,cwf,hwf,aHY,aHZ,aH0⟩:=hwr.yes aR
  refine ez (z:=⟨none,_,_,_,_,none⟩) aM O aM Cs (sP (sP (sP (sP (sP (sP (sP (sP (sP (sP (sP (sP (sP (sP (sP (sP (sP (sA sR))))))))))))))))))<|fun auo DR=>have Qa:=DR.sub (sP (sP (sP (sP (sP (sP (sP (sP (sP (sP (sP (sP (sP (sP (sP (sP (sP (sA sR))))))))))))))))));AT 0 O Qa (fun w hS=>au cw O tF (hS.cell (i:=4) O (v:=Pn _ _) O))<|AQ 1 O Qa (af O)<|AQ 2 O Qa (fA bM 0 O sizeOf74 O)<|tV 3 O Qa underlying74 5 O O rfl<|AQ 4 O Qa (fA Bc 2 O sizeOf117 SJ)<|AT 5 O Qa (fun w hS=>iI (sub:=[_,_,_]) p9 O O O (hS.blk (i:=0) O) O)<|A1 6<|th O aH O (aH0 (Kz (Kw W0) (Zq++(IT++(F1.us.map (dr 3)++L2)))) x1.d x1.e x1.l x1.j _ (DR.kz (Le.refl _) (fun x hx=>(mT (mT (mT (mT (mT (mT (mT (mT (mT (mT (mT (mT (mT (mT (mT (mT (mT (bt _ hx)))))))))))))))))))) hx1.ops) (Yy aHZ (rfl.trans hwf) O) (fun u w' ⟨_,h,_⟩=>(DR.call h.below).sub (sP (sP (sP (sP (sP (sP (sP (sP (sP (sP (sP (sP (sP (sP (sP (sP (sP (sA sR)))))))))))))))))))<| ?_
  rintro _ aSa ⟨NM,auc,g1,g2,g3,c1,c2,c3,rfl,aAY⟩
  have IP:Hp _ _ (_::_::_::_::_::_::_::_::_::_::_::_::_::_::_::_::_::(Z1++(NM++(Zq++(IT++(F1.us.map (dr 3)++L2)))))):=Hp.swz (A:=[_,_,_,_,_,_,_,_,_,_,_,_,_,_,_,_,_]) (Hp.JI (L:=[_,_,_,_,_,_,_,_,_,_,_,_,_,_,_,_,_]) (L':=(Z1++(Zq++(IT++(F1.us.map (dr 3)++L2))))) (Hp.Fj DR auc))
  have hx2:Wf TX (Kz (Kw W0) (NM++(Zq++(IT++(F1.us.map (dr 3)++L2))))) ids (tl++PI) ⟨x1.p,jF g1 c1,jF g2 c2,jF g3 c3,.wrap mwf x1.d,x1.low⟩:=⟨aAY.mono Le.kk,⟨aHY,hx1.Ek⟩,hx1.sh,hx1.Aa.mono (Le.zz fun x hx=>bt _ hx),by show x1.d.dep+1<=1;omega⟩
  refine AQ 7 O (IP.sub (sP (sP (sP (sP (sP (sP (sP (sP (sP (sP (sP (sP (sP (sP (sP (sP (sP (sA (sA sR)))))))))))))))))))) (fA Bc 2 O sizeOf117 SJ)<|AD<|bu IP (i:=0) O (O0 (sub:=[jF g1 c1,jF g2 c2,jF g3 c3]) (c':=We ⟨x1.p,jF g1 c1,jF g2 c2,jF g3 c3,.wrap mwf x1.d,x1.low⟩) O O O (by simp[Value.oneCell',jF]) (IP.blk (i:=0) O) (by simp[o7]) O)<|fun aSb V0=> ?_
  simp only[z2,gL,pull]at V0
  refine aa<|SR<|V (au cw O tF (V0.cell (i:=4) O (v:=Pn _ _) O))<|V (af O)<|V (fA bM 1 O qd O)<|lV mN V0 5 O O rfl<|V (aA (V0.sl (i:=9) O) O mN O)<|oY V0 (bf Tryz.zeroValue3)<|fun an6 aSc aqf=>bu aqf (i:=0) O (bL O O (v:=I _) O O O (aqf.blk (i:=0) O) (by first|decide|simp))<|fun auf Gi=> ?_
  simp only[z2,gL,pull]at Gi
  refine aa<|ah<|ez (z:=⟨none,_,_,_,_,none⟩) aM O aM Gi (sP (sP (sP (sP (sP (sP (sP (sP (sP (sP (sQ (sP (sP (sP (sP (sP (sP (sP (sA sR)))))))))))))))))))<|fun aAZ NN=>have yt:=NN.sub (sP (sP (sP (sP (sP (sP (sP (sP (sP (sP (sQ (sP (sP (sP (sP (sP (sP (sP (sA sR)))))))))))))))))));AT 0 O yt (fun w hS=>au cw O tF (hS.cell (i:=5) O (v:=Pn _ _) O))<|AT 1 O yt (fun w hS=>au cw O tF (hS.cell (i:=5) O (v:=Pn _ _) O))<|AQ 2 O yt (af O)<|AQ 3 O yt (fA bM 1 O qd O)<|tV 4 O yt mN 6 O O rfl<|AT 5 O yt (fun w hS=>cN (cs:=We _) Bc O O SJ (bp (hS.blk (i:=1) O)))<|A1 6<|cY O aH O NN (sP (sP (sP (sP (sP (sP (sP (sP (sP (sP (sQ (sP (sP (sP (sP (sP (sP (sP (sA sR))))))))))))))))))) (f:=fun b=> .slice (some ⟨b,0,none⟩) 1 1) (nh o7 mN O O O (l:=[⟨x1.p,jF g1 c1,jF g2 c2,jF g3 c3,.wrap mwf x1.d,x1.low⟩]) O aD aD O)<|fun aH1 aH2 Gd=>A1 7<|RG (a:=⟨x1.p,jF g1 c1,jF g2 c2,jF g3 c3,.wrap mwf x1.d,x1.low⟩) O aH o7 aD O Gd (i:=11) O (fun _=>(sQ (sP (sP (sP (sP (sP (sP (sP (sP (sP (sP (sQ (sP (sP (sP (sP (sP (sP (sP (sA sR))))))))))))))))))))) (Hp.oy o7 Gd (i:=0) (l:=[⟨x1.p,jF g1 c1,jF g2 c2,jF g3 c3,.wrap mwf x1.d,x1.low⟩]) O kQ) O O mN O O (bytes:=120) O O O (fun u hu=>FM hx2 u qf) J aD<|fun aj3 an7 o4=> ?_
  simp only[z2,gL,pull]at o4
  refine AQ 8 O (o4.sub (sQ (sP (sP (sP (sP (sP (sP (sP (sP (sP (sP (sQ (sP (sP (sP (sP (sP (sP (sP (sA sR))))))))))))))))))))) (af O)<|AQ 9 O (o4.sub (sQ (sP (sP (sP (sP (sP (sP (sP (sP (sP (sP (sQ (sP (sP (sP (sP (sP (sP (sP (sA sR))))))))))))))))))))) (fA bM 1 O qd O)<|AD<|bu o4 (i:=7) O (bL O O (v:=aj3) O (aS (o4.get (i:=11) O)).1 (aS (o4.get (i:=11) O)).2 (o4.blk (i:=7) O) az)<|fun aA0 Cu=> ?_
  simp only[fO,gU,iZ,fg,Nat.reduceAdd]at Cu
  refine aa<|SR<|V (au cw O tF (Cu.cell (i:=6) O (v:=Pn _ _) O))<| ?_
  refine V (r6 tF bG) ?_
  refine bV O (iq _ _ (.aT s.an.length) Xg _ (Cu.pj [7,7,7,7,7,7,7,7,7,7,7,7])) (aJ yI O O) ?_
  rintro _ aSd ⟨rfl,aH3,aqg⟩
  simp only[nE]at aqg
  have aqh:=aqg.pk [12,12,12,12,12,12,12]
  refine aa<|SR<|lI bx aqh 1 O O rfl<|aI rfl<|aa<|aj<|have V1:=Hp.lN (A:=[_,_,_,_,_,_,_,_,_,_,_,_]) (B:=[_,_]) (R:=Z1) ((aqh.sub (sQ (sP (sQ (sQ (sQ (sQ sR))))))).pj [2,2,2,2,2,2,2,2,2,2,2,2,1]);have hmv:∀b o,a8.blk b o∈(NM++(Zq++(IT++(F1.us.map (dr 3)++L2))))->a8.blk b o∈([a8.blk b9 (.cells #[pt n] 31 (0,0)),a8.blk an6 (.cells #[I s.an.length] 3 (0,0))]++(NM++(Zq++(IT++L2)))):=(fun b o hb=>by have h2:=RR (A:=NM++Zq++IT) (gs:=F1.us) (t:=3) (B:=L2) (by simpa only[dg]using hb);simp only[dg]at h2;exact bt _ h2);iG (v:=I s.an.length) O O (.inr ⟨jV,⟨x1.p,jF g1 c1,jF g2 c2,jF g3 c3,.wrap mwf x1.d,x1.low⟩,(jF 54 #[pt b9,pt an6]),PI,([a8.blk b9 (.cells #[pt n] 31 (0,0)),a8.blk an6 (.cells #[I s.an.length] 3 (0,0))]++(NM++(Zq++(IT++L2)))),_,Z1,jV,rfl,?_,?_,⟨fun q=>absurd (q.symm.trans ‹ahQ s.wr=true›) J5,by show x1.d.dep+1<=1;omega⟩,(fun b o hb=>(fun e he=>bt _ (bt _ (bt _ (bt _ (he))))) _ (Ia b o hb)),hx2.mono (Le.zb hmv),?_,J2,UZ,⟨{F1 with vL:=aj3,vm:=v27,vd:=aH3},([a8.blk b9 (.cells #[pt n] 31 (0,0)),a8.blk an6 (.cells #[I s.an.length] 3 (0,0))]++(NM++(Zq++(IT++L2)))),⟨xI.fo.mono (fun e he=>bt _ (bt _ (bt _ (bt _ (he))))),xI.us⟩,fun _ _ q=>q,rfl⟩,Hp.us4 (A:=[_,_,_,_,_,_,_,_,_,_,_,_]) V1⟩)
  .show x1.p.sh=p.sh;rw[hxp];exact hps
  .show x1.low=_;rw[XQ,hxp];exact aK (fun q=>gZ q eU) hps
  exact⟨_,_,rfl,az,az⟩
 refine ak<|SR<|V (au cw O tF (Cs.cell (i:=4) O (v:=Pn _ _) O))<|V (af O)<|V (fA bM 1 O qd O)<|lV mN Cs 5 O O rfl<|V (aA (Cs.sl (i:=9) O) O mN O)<|oY Cs (bf Tryz.zeroValue3)<|fun an8 aGQ II=>bu II (i:=0) O (bL O O (v:=I _) O O O (II.blk (i:=0) O) (by first|decide|simp))<|fun aSe aqi=> ?_
 simp only[z2,gL,pull]at aqi
 refine aa<|ah<|ez (z:=⟨none,_,_,_,_,none⟩) aM O aM aqi (sP (sP (sP (sP (sP (sP (sP (sP (sP (sP (sQ (sP (sP (sP (sP (sP (sP (sP (sA sR)))))))))))))))))))<|fun aSf aqj=>have Qb:=aqj.sub (sP (sP (sP (sP (sP (sP (sP (sP (sP (sP (sQ (sP (sP (sP (sP (sP (sP (sP (sA sR)))))))))))))))))));AT 0 O Qb (fun w hS=>au cw O tF (hS.cell (i:=5) O (v:=Pn _ _) O))<|AT 1 O Qb (fun w hS=>au cw O tF (hS.cell (i:=5) O (v:=Pn _ _) O))<|AQ 2 O Qb (af O)<|AQ 3 O Qb (fA bM 1 O qd O)<|tV 4 O Qb mN 6 O O rfl<|AT 5 O Qb (fun w hS=>cN (cs:=We _) Bc O O SJ (bp (hS.blk (i:=1) O)))<|A1 6<|cY O aH O aqj (sP (sP (sP (sP (sP (sP (sP (sP (sP (sP (sQ (sP (sP (sP (sP (sP (sP (sP (sA sR))))))))))))))))))) (f:=fun b=> .slice (some ⟨b,0,none⟩) 1 1) (nh o7 mN O O O (l:=[x1]) O aD aD O)<|fun aSg aSh aqk=>A1 7<|RG (a:=x1) O aH o7 aD O aqk (i:=11) O (fun _=>(sQ (sP (sP (sP (sP (sP (sP (sP (sP (sP (sP (sQ (sP (sP (sP (sP (sP (sP (sP (sA sR))))))))))))))))))))) (Hp.oy o7 aqk (i:=0) (l:=[x1]) O kQ) O O mN O O (bytes:=120) O O O (fun u hu=>FM hx1 u qf) J aD<|fun aA1 aA2 Cv=> ?_
 simp only[z2,gL,pull]at Cv
 refine AQ 8 O (Cv.sub (sQ (sP (sP (sP (sP (sP (sP (sP (sP (sP (sP (sQ (sP (sP (sP (sP (sP (sP (sP (sA sR))))))))))))))))))))) (af O)<|AQ 9 O (Cv.sub (sQ (sP (sP (sP (sP (sP (sP (sP (sP (sP (sP (sQ (sP (sP (sP (sP (sP (sP (sP (sA sR))))))))))))))))))))) (fA bM 1 O qd O)<|AD<|bu Cv (i:=7) O (bL O O (v:=aA1) O (aS (Cv.get (i:=11) O)).1 (aS (Cv.get (i:=11) O)).2 (Cv.blk (i:=7) O) az)<|fun aSi aj4=> ?_
 simp only[fO,gU,iZ,fg,Nat.reduceAdd]at aj4
 refine aa<|SR<|V (au cw O tF (aj4.cell (i:=6) O (v:=Pn _ _) O))<| ?_
 refine V (r6 tF bG) ?_
 refine bV O (iq _ _ (.aT s.an.length) Xg _ (aj4.pj [7,7,7,7,7,7,7,7,7,7,7,7])) (aJ yI O O) ?_
 rintro _ aSj ⟨rfl,v175,aql⟩
 simp only[nE]at aql
 have aqm:=aql.pk [12,12,12,12,12,12,12]
 refine aa<|SR<|lI bx aqm 1 O O rfl<|aI rfl<|aa<|aj<|have aA3:=Hp.lN (A:=[_,_,_,_,_,_,_,_,_,_,_,_]) (B:=[_,_]) (R:=Z1) ((aqm.sub (sQ (sP (sQ (sQ (sQ (sQ sR))))))).pj [2,2,2,2,2,2,2,2,2,2,2,2,1]);have hmv:∀b o,a8.blk b o∈(Zq++(IT++(F1.us.map (dr 3)++L2)))->a8.blk b o∈([a8.blk b9 (.cells #[pt n] 31 (0,0)),a8.blk an8 (.cells #[I s.an.length] 3 (0,0))]++(Zq++(IT++L2))):=(fun b o hb=>by have h2:=RR (A:=Zq++IT) (gs:=F1.us) (t:=3) (B:=L2) (by simpa only[dg]using hb);simp only[dg]at h2;exact bt _ h2);iG (v:=I s.an.length) O O (.inr ⟨jV,x1,(jF 54 #[pt b9,pt an8]),PI,([a8.blk b9 (.cells #[pt n] 31 (0,0)),a8.blk an8 (.cells #[I s.an.length] 3 (0,0))]++(Zq++(IT++L2))),_,Z1,jV,rfl,?_,?_,⟨fun _=>hxd,J⟩,(fun b o hb=>(fun e he=>bt _ (bt _ (bt _ (he)))) _ (Ia b o hb)),hx1.mono (Le.zb hmv),?_,J2,UZ,⟨{F1 with vL:=aA1,vm:=v27,vd:=v175},([a8.blk b9 (.cells #[pt n] 31 (0,0)),a8.blk an8 (.cells #[I s.an.length] 3 (0,0))]++(Zq++(IT++L2))),⟨xI.fo.mono (fun e he=>bt _ (bt _ (bt _ (he)))),xI.us⟩,fun _ _ q=>q,rfl⟩,Hp.us3 (A:=[_,_,_,_,_,_,_,_,_,_,_,_]) aA3⟩)
 .show x1.p.sh=p.sh;rw[hxp];exact hps
 .show x1.low=_;rw[XQ,hxp];exact aK (fun q=>gZ q eU) hps
 exact⟨_,_,rfl,az,az⟩
theorem Jn(k:Int)(v:Value)(l:List dK)(t:ix)(w:World)(hb:w.heap[n]?=some (.cells #[wr,vL,vt,vv,vy,vu,vq,I sn,vW,vU,vT,I cn,B sk,U wy,vd,vm] 111 (0,0)))(hL:Sl w vL 13 an.length (an.flatMap We))(ht:Sl w vt 1 aT.length (aT.map I))(hc:Sl w v 10 l.length (l.flatMap kg))(hls:∀x∈an,lB (Kw w) x.p)(hT:oh w):Calls Tryz.prog 56 #[pt n,I k,v,.agg (jd t).toArray] w (Pure (B (vO an aT k l t)) w):=by
 have hm3:=hc.small
 unfold maxLen at hm3
 refine eH func56 rfl rfl fun hH=>SR<|iu hH (v:= .agg _) rfl<|fun b3 w1 aW=>va (v:=B false) rfl<|aa<|ah<|SR<|mI rfl<|V (aL O O)<|mB rfl<|bN 14 O (fun h5=> ?_) (fun h5=> ?_)
 .refine aE (v:=B true) rfl<|mB rfl<|cC O rfl<|aE (v:=B true) rfl<|aa<|cB rfl<|SR<|va (v:=B false) rfl<|aa<|aj<|oB O ?_ aW
  exact(Mq J).symm
 refine mI rfl<|aE (v:=Pn _ _) rfl<|V (af O)<|V (fA bM 1 O qd O)<|V (au mN O O (aW.ed hb O))<|V (aA (hL.hp aW) O mN O)<|V (dA O O)<|mB rfl<|mB rfl<|bN 23 O (fun h7=> ?_) (fun h7=> ?_)
 .refine aE (v:=B true) rfl<|aa<|cB rfl<|SR<|va (v:=B false) rfl<|aa<|aj<|oB O ?_ aW
  exact(Mq J).symm
 refine V (run_move bG) ?_
 refine aG O aW (F8 _ _ _ (hc.hp aW)) (aq call103 O)<|fun w8 iB=>V (bO O)<|mB rfl<|aa<|bY O (fun h12=> ?_) (fun h12=> ?_)
 .refine SR<|va (v:=B false) rfl<|aa<|aj<|oB O ?_ iB
  exact(ahS (nt ‹(!fX _)=true›)).symm
 refine ak<|SR<|aE (v:=Pn _ _) rfl<|V (af O)<|V (fA bM 1 O qd O)<|V (au mN O O (iB.ed hb O))<|mI rfl<|V (ag (hL.hp iB) mN KB O O J)<|V (fA Bc 0 O Bh O)<|V (oO (dv:=oK) (off:=0) (cs:=Aw _) o7 (hL.hp iB) dL O O O J (aga O))<|oY iB (bf Tryz.zeroValue56)<|fun b15 C7 cF=>have Il:0<=k/\k<an.length:=J;bu cF (i:=0) O (eC O O O (ahR (hls _ (dc Il.1 Il.2))) (cF.blk (i:=0) O) O)<|fun JZ dU=>aa<|ah<|SR<| ?_
 refine V (run_move bG) ?_
 refine V (aA (hc.hp dU) O iE O)<|aE (v:=I 0) rfl<|aa<|aC<|bj (G:=Int) (fun q s' w'=>(Fr (8::(11::(rg 38 28 []))) _ s')/\(Hp w w' _)/\(s' 38=I q)/\(0<=q)/\(q<=l.length)/\(∀j:Int,0<=j->j<q->EI an aT k (l.getD j.toNat cA)=true)) (fun q=>(l.length-q).toNat) (0) ⟨Fr.refl _ _,dU,rfl,J,J,fun j a b=>absurd b J⟩<| ?_
 rintro q asO PR ⟨xq,dS,Ie,h0,hq,hg⟩
 obtain⟨aqn,aa7,aj5,aj6,auC,auD⟩:=xq.w6 0 1 7 9 36 37
 refine SR<|V (aL Ie auD)<|aa<|ah<|aF O (fun NY=> ?_) (fun NY=> ?_)
 .refine ak<|ah<|aC<|SR<|V (ag (hc.hp dS) iE pn auC Ie J)<|V (dY (dv:=cA) gK (hc.hp dS) eR O O O J)<|oY dS (bf B4)<|fun b23 Og dm=>bu dm (i:=0) O (eC (c':=(kg _).toArray) O O O (xX _) (dm.blk (i:=0) O) O)<|fun Vv dD=>aa<|SR<|V (fA eR 0 O bz O)<|lI bx dD 0 O O rfl<|V (bX O O)<|mB rfl<|bN 45 O (fun qQ=> ?_) (fun qQ=> ?_)
  .refine aE aqn<|V (fA eR 1 O bz O)<|lI bx dD 0 O O rfl<|aE aa7<|aG O dD (DP _ _ _ (dD.ext hb) (ht.hp dD)) (bB call104 O O O)<|fun w30 l7=>V (uC O)<|mB rfl<|mB rfl<|bN 53 O (fun C9=> ?_) (fun C9=> ?_)
   .refine gX O O rfl<|gX O O rfl<|gX O O rfl<|gX O O rfl<|gX O O rfl<|Bx<|aE (v:=B true) rfl<|aa<|cB rfl<|SR<|va (v:=B false) rfl<|aa<|aj<|oB O ?_ l7
    exact(U0 h0 ‹q<_› (ahT ‹(List.getD l _ _).op=1› m6)).symm
   refine V (fA eR 0 O bz O)<|lI bx l7 0 O O rfl<|V (bX O O)<|mB rfl<|bN 57 O (fun h37=> ?_) (fun h37=> ?_)
   .refine V (cN (cs:=[B _,_]) dL O O aj6 (bp (l7.blk (i:=1) O)))<|V (fA eR 2 O gM O)<|V (rH cI O O O (l7.blk (i:=0) O) (Fu _))<|aG O l7 (zL _ _ _ ((hls _ (dc Il.1 Il.2)).mono l7.kw) (hT.hp l7)) (aJ call105 O O)<|fun w38 nR=>V (bO O)<|mB rfl<|mB rfl<|aa<|bY O (fun h42=> ?_) (fun h42=> ?_)
    .refine SR<|va (v:=B false) rfl<|aa<|aj<|oB O ?_ nR
     exact(Mq J).symm
    refine ak<|ax<|V (ay Ie O J)<|mI rfl<|aa<| ?_
    refine⟨q+1,aZ,xq.u4.u4.u4.u4.u4.u4.u4.u1,(nR.sub (sQ sR)),(aK I aN),J,J,?_⟩
    exact fun j a b=>if e:j=q then e▸BU aeN (by exact .inr (nf ‹(!cz _ _)=false›))else hg j a J
   refine aE (v:=B false) rfl<|mB rfl<|aa<|dh rfl<|ak<|ax<|V (ay Ie O J)<|mI rfl<|aa<| ?_
   refine⟨q+1,aZ,xq.u4.u4.u4.u4.u4.u4.u4.u1,(l7.sub (sQ sR)),(aK I aN),J,J,?_⟩
   exact fun j a b=>if e:j=q then e▸BU aeN (by exact .inl ‹¬(List.getD l _ _).op=2›)else hg j a J
  refine aE (v:=B false) rfl<|mB rfl<|cC O rfl<|V (fA eR 0 O bz O)<|lI bx dD 0 O O rfl<|V (bX O O)<|mB rfl<|bN 57 O (fun h44=> ?_) (fun h44=> ?_)
  .refine V (cN (cs:=[B _,_]) dL O O aj6 (bp (dD.blk (i:=1) O)))<|V (fA eR 2 O gM O)<|V (rH cI O O O (dD.blk (i:=0) O) (Fu _))<|aG O dD (zL _ _ _ ((hls _ (dc Il.1 Il.2)).mono dD.kw) (hT.hp dD)) (aJ call105 O O)<|fun w45 rT=>V (bO O)<|mB rfl<|mB rfl<|aa<|bY O (fun h49=> ?_) (fun h49=> ?_)
   .refine SR<|va (v:=B false) rfl<|aa<|aj<|oB O ?_ rT
    exact(U0 h0 ‹q<_› (ahU ‹(List.getD l _ _).op=2› (nt ‹(!cz _ _)=true›))).symm
   refine ak<|ax<|V (ay Ie O J)<|mI rfl<|aa<| ?_
   refine⟨q+1,aZ,xq.u4.u4.u4.u4.u4.u4.u4.u1,(rT.sub (sQ sR)),(aK I aN),J,J,?_⟩
   exact fun j a b=>if e:j=q then e▸BU aeL (by exact .inr (nf ‹(!cz _ _)=false›))else hg j a J
  refine aE (v:=B false) rfl<|mB rfl<|aa<|dh rfl<|ak<|ax<|V (ay Ie O J)<|mI rfl<|aa<| ?_
  refine⟨q+1,aZ,xq.u4.u4.u4.u4.u4.u4.u4.u1,(dD.sub (sQ sR)),(aK I aN),J,J,?_⟩
  exact fun j a b=>if e:j=q then e▸BU aeL (by exact .inl ‹¬(List.getD l _ _).op=2›)else hg j a J
 refine a7 (id:=0) rfl<|ah<|SR<|V (fA mY 0 O bz aj5)<|lI bx dS 1 O O rfl<|V (aL O O)<|aa<|aF O (fun h51=> ?_) (fun h51=> ?_)
 .refine SR<|V (cN (cs:=[B _,_]) dL O O aj6 (bp (dS.blk (i:=0) O)))<|V (fA mY 1 O gM aj5)<|V (rH cI O O O (dS.blk (i:=1) O) (T8 _))<|aG O dS (zL _ _ _ ((hls _ (dc Il.1 Il.2)).mono dS.kw) (hT.hp dS)) (aJ call105 O O)<|fun w52 jO=>aB rfl<|aa<|aj<|oB O ?_ jO
  (rw[Mr Il (nf ‹(!fX _)=false›) ‹¬q<_› hg];((rw[amI ‹t.var<0›];rfl)))
 refine ak<|SR<|aE aqn<|V (fA mY 0 O bz aj5)<|lI bx dS 1 O O rfl<|aE aa7<|aG O dS (DP _ _ _ (dS.ext hb) (ht.hp dS)) (bB call104 O O O)<|fun w55 oH=>aB rfl<|aa<|aj<|oB O ?_ oH
 (rw[Mr Il (nf ‹(!fX _)=false›) ‹¬q<_› hg];(rw[amJ ‹¬t.var<0›]))
theorem NO{s:NP}{R L0 Z:List a8}(l:Int)(hm:m<=90000)(hok:BS s)(hlg:lg.length<=550000000000)(htm:tm.length<=100000000)(w:World)(hZ:qU n m s lg tm R L0 Z)(hH:Hp W0 w Z):Calls Tryz.prog 18 #[pt n,I l] w (iA fun u w'=>(¬(s.sk=false/\0<=l/\l<s.an.length)/\u=I (-1)/\∃Z',qU n m s lg tm R L0 Z'/\Hp W0 w' Z')\/(s.sk=false/\(0<=l/\l<s.an.length)/\u=I s.ai.length/\∃(fv:Value) (L1 Z':List a8),(∀b o,a8.blk b o∈L0->a8.blk b o∈L1)/\ku NX n L1 (fv,.var s.ai.length ((s.cs.length:Int)-1))/\gh [(fv,.var s.ai.length ((s.cs.length:Int)-1))] s (pz s l (s.an.getD l.toNat oK).low)/\qU n (m+1) (pz s l (s.an.getD l.toNat oK).low) (lg++[(fv,.var s.ai.length ((s.cs.length:Int)-1))]) (tm++[(lg.length:Int)]) R L1 Z'/\Hp W0 w' Z')):=by
 have NV:=hok.NV
 have hlt:=hok.hlt
 have S2:=hok.S2
 have NU:=hok.NU
 have hgu:∀F:NF,mO F.us=s.us->F.us.length=s.us.length:=fun F e=>by rw[<-e,eM]
 refine enter func18 rfl ntmps18 rfl ?_
 obtain⟨F1,L2,xI,Ia,rfl⟩:=hZ
 have bU:=hH
 simp only[NZ,nE]at bU
 have gT:=bU
 rw[<-dg]at gT
 refine SR<|iu gT (v:=Pn _ _) rfl<|fun b9 w7 fq=>va (v:=I 0) rfl<|aa<|ah<|SR<|lP cw fq 0 O O rfl<|aG O fq (oe _ (fq.blk (i:=1) O)) (aq call40 O)<|fun Gk dF=>V (bO O)<|mB rfl<|gm 10 O (fun JY=> ?_) (fun JY=> ?_)
 .refine aE (v:=B true) rfl<|mB rfl<|cC O rfl<|aE (v:=B true) rfl<|aa<|cB rfl<|SR<|va (v:=I (-1)) rfl<|aa<|aj<|iG (v:=I (-1)) O O (.inl ⟨by simp_all;try omega,rfl,_,⟨F1,L2,xI,Ia,rfl⟩,by rw[dg]at*;exact(dF.sub (sQ sR))⟩)
 refine mI rfl<|V (aL O O)<|mB rfl<|mB rfl<|bN 14 O (fun yj=> ?_) (fun yj=> ?_)
 .refine aE (v:=B true) rfl<|aa<|cB rfl<|SR<|va (v:=I (-1)) rfl<|aa<|aj<|iG (v:=I (-1)) O O (.inl ⟨by simp_all;try omega,rfl,_,⟨F1,L2,xI,Ia,rfl⟩,by rw[dg]at*;exact(dF.sub (sQ sR))⟩)
 refine mI rfl<|lP cw dF 0 O O rfl<|V (af O)<|V (fA bM 1 O qd O)<|lV mN dF 1 O O rfl<|V (aA (dF.sl (i:=5) O) O mN O)<|V (dA O O)<|mB rfl<|aa<|aF O (fun pW=> ?_) (fun pW=> ?_)
 .refine SR<|va (v:=I (-1)) rfl<|aa<|aj<|iG (v:=I (-1)) O O (.inl ⟨by simp_all;try omega,rfl,_,⟨F1,L2,xI,Ia,rfl⟩,by rw[dg]at*;exact(dF.sub (sQ sR))⟩)
 refine ak<|SR<|lP cw dF 0 O O rfl<|bV O (o8 J _ (dF.pj [1,1,1,1,1,1,1,1,1,1,1,1])) (aq call41 O)<| ?_
 rintro _ Og ⟨rfl,v23,dm⟩
 simp only[nE]at dm
 have oF:=dm.pk [12]
 refine aa<|SR<|lP cw oF 0 O O rfl<|V (af O)<|V (fA bM 3 O lz O)<|lV dJ oF 1 O O rfl<|V (aA (oF.sl (i:=7) O) O dJ O)<|oY oF (bf Tryz.zeroValue3)<|fun b27 w25 kB=>bu kB (i:=0) O (bL O O (v:=I _) O O O (kB.blk (i:=0) O) aD)<|fun w30 l7=>aa<|ah<|ez (z:=⟨none,_,_,_,_,none⟩) aM O aM l7 (sP (sP (sP (sP (sP (sP (sP (sQ sR))))))))<|fun w32 jN=>have Nz:=jN.sub (sP (sP (sP (sP (sP (sP (sP (sQ sR))))))));tP 0 O Nz cw 1 O O rfl<|tP 1 O Nz cw 1 O O rfl<|AQ 2 O Nz (af O)<|AQ 3 O Nz (fA bM 2 O cP O)<|tV 4 O Nz bg 2 O O rfl<|AQ 5 O Nz (mV (I _) O)<|A1 6<|cY O aH O jN (sP (sP (sP (sP (sP (sP (sP (sQ sR)))))))) (f:=fun b=> .slice (some ⟨b,0,none⟩) 1 1) (ct bg O O (sz:=1) (vs:=[I _]) O O aD aD O O)<|fun b36 w34 yl=> ?_
 (try simp only[oX]at yl)
 refine A1 7<|RF O aH O yl (i:=8) O (fun _=>(sQ (sP (sP (sP (sP (sP (sP (sP (sQ sR)))))))))) (yl.dQ (i:=0) (n:=1) (sz:=1) O O aD) O O bg O O (bytes:=8) O O O O J aD<|fun v39 w40 jM=>AQ 8 O (jM.sub (sQ (sP (sP (sP (sP (sP (sP (sP (sQ sR)))))))))) (af O)<|AQ 9 O (jM.sub (sQ (sP (sP (sP (sP (sP (sP (sP (sQ sR)))))))))) (fA bM 2 O cP O)<|AD<|bu jM (i:=3) O (bL O O (v:=v39) O (aS (jM.get (i:=8) O)).1 (aS (jM.get (i:=8) O)).2 (jM.blk (i:=3) O) az)<|fun w42 mz=> ?_
 simp only[fO,gU,iZ,fg,Nat.reduceAdd]at mz
 refine aa<|ah<|ez (z:=⟨none,_,_,_,_,none⟩) aM O aM mz (sP (sP (sP (sP (sP (sP (sP (sP (sP (sQ sR))))))))))<|fun w44 qR=>have Ig:=qR.sub (sP (sP (sP (sP (sP (sP (sP (sP (sP (sQ sR))))))))));tP 0 O Ig cw 2 O O rfl<|tP 1 O Ig cw 2 O O rfl<|AQ 2 O Ig (af O)<|AQ 3 O Ig (fA bM 3 O lz O)<|tV 4 O Ig dJ 3 O O rfl<|tP 5 O Ig cw 2 O O rfl<|AQ 6 O Ig (af O)<|AQ 7 O Ig (fA bM 1 O qd O)<|tV 8 O Ig mN 3 O O rfl<|AQ 9 O Ig (mV (I _) O)<|AT 10 O Ig (fun w hS=>ag (hS.sl (i:=7) O) mN KB O O J)<|AQ 11 O Ig (fA Bc 5 O gM O)<|AT 12 O Ig (fun w hS=>aco (dv:=oK) (off:=5) o7 (hS.sl (i:=7) O) cI O O O J (asm _))<|A1 13<|cY O aH O qR (sP (sP (sP (sP (sP (sP (sP (sP (sP (sQ sR)))))))))) (f:=fun b=> .slice (some ⟨b,0,none⟩) 1 1) (rF dJ O O O O)<|fun b48 w46 oa=> ?_
 (try simp only[oX]at oa)
 refine A1 14<|RG (a:=(s.an.getD l.toNat oK).low) O aH fy aD O oa (i:=10) O (fun _=>(sQ (sP (sP (sP (sP (sP (sP (sP (sP (sP (sQ sR)))))))))))) (Hp.oy fy oa (i:=0) (l:=[_]) O kQ) O O dJ O O (bytes:=64) O O O (fun u hu=>wx _ u qf) J aD<|fun v51 w52 jO=>AQ 15 O (jO.sub (sQ (sP (sP (sP (sP (sP (sP (sP (sP (sP (sQ sR)))))))))))) (af O)<|AQ 16 O (jO.sub (sQ (sP (sP (sP (sP (sP (sP (sP (sP (sP (sQ sR)))))))))))) (fA bM 3 O lz O)<|AD<|bu jO (i:=4) O (bL O O (v:=v51) O (aS (jO.get (i:=10) O)).1 (aS (jO.get (i:=10) O)).2 (jO.blk (i:=4) O) az)<|fun w54 iY=> ?_
 simp only[fO,gU,iZ,fg,Nat.reduceAdd]at iY
 refine aa<|ah<|ez (z:=⟨none,_,_,_,_,none⟩) aM O aM iY (sP (sP (sP (sP (sP (sP (sP (sP (sP (sP (sP (sQ sR))))))))))))<|fun w56 Zz=>have aj7:=Zz.sub (sP (sP (sP (sP (sP (sP (sP (sP (sP (sP (sP (sQ sR))))))))))));tP 0 O aj7 cw 3 O O rfl<|tP 1 O aj7 cw 3 O O rfl<|AQ 2 O aj7 (af O)<|AQ 3 O aj7 (fA bM 4 O iN O)<|tV 4 O aj7 cS 4 O O rfl<|A1 5<|cY O aH O Zz (sP (sP (sP (sP (sP (sP (sP (sP (sP (sP (sP (sQ sR)))))))))))) (f:=fun b=> .slice (some ⟨b,0,none⟩) 1 1) (ct cS O O (sz:=1) (vs:=[U 0#64]) O O aD aD O O)<|fun b60 w58 sS=> ?_
 (try simp only[oX]at sS)
 refine A1 6<|RF O aH O sS (i:=12) O (fun _=>(sQ (sP (sP (sP (sP (sP (sP (sP (sP (sP (sP (sP (sQ sR)))))))))))))) (sS.dQ (i:=0) (n:=1) (sz:=1) O O aD) O O cS O O (bytes:=8) O O O O J aD<|fun v63 w64 AX=>AQ 7 O (AX.sub (sQ (sP (sP (sP (sP (sP (sP (sP (sP (sP (sP (sP (sQ sR)))))))))))))) (af O)<|AQ 8 O (AX.sub (sQ (sP (sP (sP (sP (sP (sP (sP (sP (sP (sP (sP (sQ sR)))))))))))))) (fA bM 4 O iN O)<|AD<|bu AX (i:=5) O (bL O O (v:=v63) O (aS (AX.get (i:=12) O)).1 (aS (AX.get (i:=12) O)).2 (AX.blk (i:=5) O) az)<|fun w66 adG=> ?_
 simp only[fO,gU,iZ,fg,Nat.reduceAdd]at adG
 refine aa<|ah<|ez (z:=⟨none,_,_,_,_,none⟩) aM O aM adG (sP (sP (sP (sP (sP (sP (sP (sP (sP (sP (sP (sP (sP (sQ sR))))))))))))))<|fun w68 Ot=>have aj8:=Ot.sub (sP (sP (sP (sP (sP (sP (sP (sP (sP (sP (sP (sP (sP (sQ sR))))))))))))));tP 0 O aj8 cw 4 O O rfl<|tP 1 O aj8 cw 4 O O rfl<|AQ 2 O aj8 (af O)<|AQ 3 O aj8 (fA bM 5 O qc O)<|tV 4 O aj8 kE 5 O O rfl<|A1 5<|cY O aH O Ot (sP (sP (sP (sP (sP (sP (sP (sP (sP (sP (sP (sP (sP (sQ sR)))))))))))))) (f:=fun b=> .slice (some ⟨b,0,none⟩) 1 1) (ct kE O O (sz:=1) (vs:=[.slice none 0 0]) O O aD aD O O)<|fun b72 w70 aja=> ?_
 (try simp only[oX]at aja)
 refine A1 6<|RF (a:=cD) O aH O aja (i:=14) O (fun _=>(sQ (sP (sP (sP (sP (sP (sP (sP (sP (sP (sP (sP (sP (sP (sQ sR)))))))))))))))) (aja.dQ (i:=0) (n:=1) (sz:=1) O O aD) O O kE O O (bytes:=24) O O O O (by have:=hgu _ ‹ay7 _ _ _ _ _›.us;omega) aD<|fun v75 w76 EX=>AQ 7 O (EX.sub (sQ (sP (sP (sP (sP (sP (sP (sP (sP (sP (sP (sP (sP (sP (sQ sR)))))))))))))))) (af O)<|AQ 8 O (EX.sub (sQ (sP (sP (sP (sP (sP (sP (sP (sP (sP (sP (sP (sP (sP (sQ sR)))))))))))))))) (fA bM 5 O qc O)<|AD<|bu EX (i:=6) O (bL O O (v:=v75) O (aS (EX.get (i:=14) O)).1 (aS (EX.get (i:=14) O)).2 (EX.blk (i:=6) O) az)<|fun w78 Jo=> ?_
 simp only[fO,gU,iZ,fg,Nat.reduceAdd]at Jo
 refine aa<|SR<|lP cw Jo 5 O O rfl<|V (af O)<|V (fA bM 8 O m4 O)<|aG O Jo (ajB xI.fo J (Jo.blk (i:=6) O) (Jo.xY (i:=7) O xI.fo.hW) (Jo.sl (i:=9) O)) (aq call46 O)<|fun w80 an9=>oY an9 (bf Tryz.zeroValue3)<|fun b84 w82 aj9=>bu aj9 (i:=0) O (bL O O (v:=I _) O O O (aj9.blk (i:=0) O) aD)<|fun w87 EO=>aa<|SR<|lP cw EO 6 O O rfl<|V (af O)<|V (fA bM 8 O m4 O)<|bV O (ay6 xI.fo J (R:=([_,_,_,_,_,_,_,_,_,_,_,_,_,_,_]++(F1.us.map (dr 3)++R))) (EO.pj [7,7,7,7])) (aq call47 O)<| ?_
 rintro _ aAh ⟨rfl,aH5,aH6,aH7,aH8,aH9,W96,aIa,aIb,aIc,ajx,auE,NE⟩
 have P6:=Hp.lN (A:=[_,_,_,_]) (R:=([_,_,_,_,_,_,_,_,_,_,_,_,_,_,_]++(F1.us.map (dr 3)++R))) NE
 simp only[fH,er]at P6
 have vz:=P6.pk [4,4,4,4,4,4,4]
 refine aa<|SR<|lP cw vz 6 O O rfl<| ?_
 refine V (KZ bG bG bG) ?_
 refine bV O (iq _ _ (.var s.ai.length ((s.cs.length:Int)-1)) J _ (vz.pj [7,7,7,7,7,7,7,7,7,7,7,7])) (aJ yI O O) ?_
 rintro _ aGd ⟨rfl,aId,P0⟩
 simp only[nE]at P0
 have Cs:=P0.pk [12,12,12,12,12,12,12]
 refine aa<|SR<|lI bx Cs 5 O O rfl<|aI rfl<|aa<|aj<|have aka:=(((Cs.sub (sP (sQ (sQ (sQ (sQ sR)))))).pj [3,3,3,3,3,3,3,3,3,3,3,3,2,1])).fD 3 1;have DM:=Hp.aEw (A:=[_,_,_,_,_,_,_,_,_,_,_,_]) (B:=[a8.blk b9 (.cells #[pt n] 31 (0,0)),a8.blk b27 (.cells #[I s.ai.length] 3 (0,0)),a8.blk b84 (.cells #[I ((s.cs.length:Int)-1)] 3 (0,0))]) (U:=(F1.us.map (dr 3))) (R:=R) aka;iG (v:=I s.ai.length) O O (.inr ⟨jV,J,rfl,(jF 48 #[pt b9,pt b27,pt b84]),([a8.blk b9 (.cells #[pt n] 31 (0,0)),a8.blk b27 (.cells #[I s.ai.length] 3 (0,0)),a8.blk b84 (.cells #[I ((s.cs.length:Int)-1)] 3 (0,0))]++(ajx++L2)),_,(fun b o hb=>bt _ (bt _ (Ia b o hb))),⟨_,_,_,rfl,az,az,az⟩,ahW hok.hlt hok.S2 hok.NU xI.fo.ne,⟨{F1 with vW:=aH5,vU:=aH6,vT:=aH7,cW:=aH8,cU:=aH9,W:=W96,ul:=aIa,ts:=aIb,cn:=aIc,vt:=v39,vv:=v51,vy:=v63,vu:=v75,vd:=aId,vm:=v23,us:=F1.us++[cD]},([a8.blk b9 (.cells #[pt n] 31 (0,0)),a8.blk b27 (.cells #[I s.ai.length] 3 (0,0)),a8.blk b84 (.cells #[I ((s.cs.length:Int)-1)] 3 (0,0))]++(ajx++L2)),⟨auE.mono fun e he=>bt _ he,ahX xI.us⟩,fun _ _ q=>q,rfl⟩,?_⟩)
 simp only[NZ,nE,pz,gA,lf,Bd];exact DM
theorem wN(v:Value)(l:List dK)(hl:l.length<=1000)(w:World)(hs:Sl w v 10 l.length (l.flatMap kg)):Calls Tryz.prog 57 #[v] w (rV 3 1 (dw l).length ((dw l).map I) w):=by
 have hm:=hs.small
 unfold maxLen at hm
 refine eH func57 rfl rfl fun hH=>SR<|va (v:= .slice none 0 0) rfl<|aa<|SR<|va (v:= .slice none 0 0) rfl<|have iL:=hH.fD 3 1;aa<|ah<|SR<| ?_
 refine V (run_move bG) ?_
 refine V (aA (hs.hp iL) O iE O)<|aE (v:=I 0) rfl<|aa<|aC<|bj (G:=Int×(List Int)×Value) (fun⟨k,m,v3⟩ s' w'=>(Fr (3::(5::6::(rg 9 57 []))) _ s')/\(Hp w w' (.row v3 3 1 (m.length) (m.map I)::_))/\(s' 3=v3)/\(s' 9=I k)/\(0<=k)/\(k<=l.length)/\(m=dw (l.take k.toNat))/\((m.length:Int)<=k)) (fun⟨k,m,v3⟩=>(l.length-k).toNat) ((0,[],(.slice none 0 0:Value))) ⟨Fr.refl _ _,iL,rfl,rfl,J,J,rfl,az⟩<| ?_
 rintro⟨k,m,v3⟩ sg2 w2 ⟨TY,aW,Vl,akb,h0,hk,hm,hml⟩
 obtain⟨aSo,aIe,aIf⟩:=TY.w3 2 7 8
 refine SR<|V (aL akb aIf)<|aa<|ah<|aF O (fun h4=> ?_) (fun h4=> ?_)
 .refine ak<|ah<|aC<|SR<|V (ag (hs.hp aW) iE pn aIe akb J)<|V (dY (dv:=cA) gK (hs.hp aW) eR O O O J)<|oY aW (bf B4)<|fun b7 w5 gT=>bu gT (i:=0) O (eC (c':=(kg _).toArray) O O O (xX _) (gT.blk (i:=0) O) O)<|fun w8 iB=>aa<|ah<|SR<|V (fA eR 0 O bz O)<|lI bx iB 0 O O rfl<|V (jB O O)<|mB rfl<|bN 16 O (fun h11=> ?_) (fun h11=> ?_)
  .refine aE (v:=B true) rfl<|aa<|cB rfl<|a7 (id:=1) rfl<|ax<|V (ay akb O J)<|mI rfl<|aa<| ?_
   refine⟨(k+1,m,v3),aZ,TY.u4.u4.u4.u1.u1,(Hp.conv (iB.sub (sQ sR)) aN),Vl,(aK I aN),J,J,?_,J⟩
   rw[ji h0 ‹k<_›,<-hm];((rw[aP J];done))
  refine V (fA eR 1 O bz O)<|lI bx iB 0 O O rfl<|V (aL O O)<|mB rfl<|aa<|aF O (fun Vn=> ?_) (fun Vn=> ?_)
  .refine a7 (id:=1) rfl<|ax<|V (ay akb O J)<|mI rfl<|aa<| ?_
   refine⟨(k+1,m,v3),aZ,TY.u4.u4.u4.u1.u1,(Hp.conv (iB.sub (sQ sR)) aN),Vl,(aK I aN),J,J,?_,J⟩
   rw[ji h0 ‹k<_›,<-hm];((rw[aP J];done))
  refine ak<|SR<|va (v:=I 0) rfl<|aa<|ah<|aC<|bj (G:=Int) (fun i s' w'=>(Fr (6::(rg 21 15 [])) _ s')/\(Hp w w' _)/\(s' 6=I i)/\(0<=i)/\(i<=m.length)/\(∀j:Nat,j<i.toNat->m.getD j 0<(l.getD k.toNat cA).n)) (fun i=>(m.length-i).toNat) (0) ⟨Fr.refl _ _,iB,rfl,J,J,fun j h=>absurd h J⟩<| ?_
  rintro i YQ PO ⟨l6,cF,lT,i0,hi,hlt⟩
  have wI:=l6.w1 5
  obtain⟨j8,Al⟩:=l6.t2 3 Vl 9 akb
  refine ah<|ah<|eF aM cF<|fun Wg cG=>have sO:=cG;AQ 0 O sO (run_move lT)<|AQ 1 O sO (run_move j8)<|AT 2 O sO (fun w hS=>aA (hS.sl (i:=1) O) O bg O)<|AQ 3 O sO (aL O O)<|AQ 4 O sO (mV (B _) O)<|Dl (dj:=25) O (fun pW=> ?_) (fun pW=> ?_)
  .refine BQ 5 O O (bT pW) cG (run_move j8)<|BQ 6 O O (bT pW) cG (run_move lT)<|AG 7 O O (bT pW) cG (fun w hS=>ag (hS.sl (i:=1) O) bg bz O O J)<|AG 8 O O (bT pW) cG (fun w hS=>au bx O O ((hS.sl (i:=1) O).cell _ _ (dZ J)))<|BQ 9 O O (bT pW) cG (fA eR 1 O bz wI)<|AG 10 O O (bT pW) cG (fun w hS=>au bx O O (hS.cell (i:=0) O (v:=I _) O))<|BQ 11 O O (bT pW) cG (aL O O)<|AQ 12 O sO (gI (bT pW) (v:=B _) O)<|AD<|aF O (fun NY=> ?_) (fun NY=> ?_)
   .refine ak<|aC<|ax<|aE lT<|V (ay O O J)<|aI rfl<|aa<| ?_
    refine⟨i+1,aZ,l6.u4.u4.u4.u4,cG,(aK I aN),J,J,?_⟩
    exact fun j hj=>if e:j=i.toNat then e▸‹_<_›else hlt j J
   refine a7 (id:=2) rfl<|ah<|ah<|eF aM cG<|fun Og dm=>have Jp:=dm;AQ 0 O Jp (run_move lT)<|AQ 1 O Jp (run_move j8)<|AT 2 O Jp (fun w hS=>aA (hS.sl (i:=1) O) O bg O)<|AQ 3 O Jp (aL O O)<|AQ 4 O Jp (mV (B _) O)<|Dl (dj:=40) O (fun Aj=> ?_) (fun Aj=> ?_)
   .refine BQ 5 O O (bT Aj) dm (run_move j8)<|BQ 6 O O (bT Aj) dm (run_move lT)<|AG 7 O O (bT Aj) dm (fun w hS=>ag (hS.sl (i:=1) O) bg bz O O J)<|AG 8 O O (bT Aj) dm (fun w hS=>au bx O O ((hS.sl (i:=1) O).cell _ _ (dZ J)))<|BQ 9 O O (bT Aj) dm (fA eR 1 O bz wI)<|AG 10 O O (bT Aj) dm (fun w hS=>au bx O O (hS.cell (i:=0) O (v:=I _) O))<|BQ 11 O O (bT Aj) dm (bX O O)<|AQ 12 O Jp (gI (bT Aj) (v:=B _) O)<|AD<|aF O (fun h26=> ?_) (fun h26=> ?_)
    .refine a7 (id:=1) rfl<|ax<|V (ay Al O J)<|mI rfl<|aa<| ?_
     refine⟨(k+1,m,v3),aZ,(((TY.u4.u4.u4.u1).t l6 O)).u4.u4.u4.u4.u4.u4.u4,(Hp.conv (dm.sub (sQ sR)) aN),j8,(aK I aN),J,J,?_,J⟩
     rw[ji h0 ‹k<_›,<-hm];((rw[aQ ⟨J,J⟩];exact(ahA (i:=i.toNat) J hlt J).symm))
    refine ak<|SR<|aE j8<|yd 1 1 dm (ct bg O O (sz:=1) (vs:=[I 0]) O O aD aD O O)<|fun b29 w27 jL=> ?_
    (try simp only[oX]at jL)
    refine jX O jL (i:=2) O (jL.dQ (i:=0) (n:=1) (sz:=1) O O aD) O O bg O O (size:=1) (bytes:=8) O O O aD kq J jU<|fun v30 w31 iV=> ?_
    refine V (run_assign bG) ?_
    refine aa<|ah<|gY aM iV (sP (sP (sQ sR)))<|fun w33 mS=>have akc:=mS.sub (sP (sP (sQ sR)));?_
    refine AQ 0 O akc (run_move bG) ?_
    refine AQ 1 O akc (run_move lT)<|AQ 2 O akc (ay O O J)<| ?_
    refine AQ 4 O akc (run_move bG) ?_
    refine AQ 5 O akc (run_move lT)<|iy 3 6 aM ?_ ?_
    .refine cf O aH O mS (sP (sP (sQ sR))) (fW (mS.sl (i:=2) O) bg bz O O J)<|A1 6<|cf O aH O mS (sP (sP (sQ sR))) (fW (mS.sl (i:=2) O) bg bz O O J)<|A1 7<|BH O aH O (pL (c:=m.length-i.toNat) (o:=(i+1).toNat) mS (i:=2) O J bg O O O (Sl.fr (mS.sl (i:=2) O) i.toNat J) Bp J (fun u hu=>sJ (xK hu))) (fun w' h=>h.sub (sP (sP (sQ sR))))<|fun w41 ym=>AD<|ax<| ?_
     refine V (run_move bG) ?_
     refine aE lT<|V (fA eR 1 O bz wI)<|lI bx ym 1 O O rfl<|V (ag (ym.sl (i:=2) O) bg bz O O J)<|za ym (i:=2) O J O (u:=I _) O O O O J<|fun w43 xC=>aa<|ax<|V (ay Al O J)<|mI rfl<|aa<| ?_
     refine⟨(k+1,(m.take i.toNat++(l.getD k.toNat cA).n::m.drop i.toNat),v30),aZ,(((TY.u4.u4.u4.u1).t l6 O)).u4.u4.u4.u4.u4.u4.u4.u4.u4.u4.u4.u1,(Hp.conv (xC.sub (sQ (sQ sR))) Bm),rfl,(aK I aN),J,J,?_,KJ⟩
     rw[ji h0 ‹k<_›,<-hm];((rw[aQ ⟨J,J⟩];exact(zu (i:=i.toNat) J hlt (fun _=>J)).symm))
    refine cf O aH O mS (sP (sP (sQ sR))) (fW (mS.sl (i:=2) O) bg bz O O J)<|A1 3<|cf O aH O mS (sP (sP (sQ sR))) (fW (mS.sl (i:=2) O) bg bz O O J)<|A1 7<|BH O aH O (pL (c:=m.length-i.toNat) (o:=(i+1).toNat) mS (i:=2) O J bg O O O (Sl.fr (mS.sl (i:=2) O) i.toNat J) Bp J (fun u hu=>sJ (xK hu))) (fun w' h=>h.sub (sP (sP (sQ sR))))<|fun w51 ajN=>AD<|ax<| ?_
    refine V (run_move bG) ?_
    refine aE lT<|V (fA eR 1 O bz wI)<|lI bx ajN 1 O O rfl<|V (ag (ajN.sl (i:=2) O) bg bz O O J)<|za ajN (i:=2) O J O (u:=I _) O O O O J<|fun w53 gy=>aa<|ax<|V (ay Al O J)<|mI rfl<|aa<| ?_
    refine⟨(k+1,(m.take i.toNat++(l.getD k.toNat cA).n::m.drop i.toNat),v30),aZ,(((TY.u4.u4.u4.u1).t l6 O)).u4.u4.u4.u4.u4.u4.u4.u4.u4.u4.u4.u1,(Hp.conv (gy.sub (sQ (sQ sR))) Bm),rfl,(aK I aN),J,J,?_,KJ⟩
    rw[ji h0 ‹k<_›,<-hm];((rw[aQ ⟨J,J⟩];exact(zu (i:=i.toNat) J hlt (fun _=>J)).symm))
   refine AK 5 O O (bF Aj) dm<|AK 6 O O (bF Aj) dm<|AK 7 O O (bF Aj) dm<|AK 8 O O (bF Aj) dm<|AK 9 O O (bF Aj) dm<|AK 10 O O (bF Aj) dm<|AK 11 O O (bF Aj) dm<|AQ 12 O Jp (dX (bF Aj) (v:=B false) O)<|AD<|dh rfl<|ak<|SR<|aE j8<|yd 1 1 dm (ct bg O O (sz:=1) (vs:=[I 0]) O O aD aD O O)<|fun b57 w55 oH=> ?_
   (try simp only[oX]at oH)
   refine jX O oH (i:=2) O (oH.dQ (i:=0) (n:=1) (sz:=1) O O aD) O O bg O O (size:=1) (bytes:=8) O O O aD kq J jU<|fun v58 w59 Gc=> ?_
   refine V (run_assign bG) ?_
   refine aa<|ah<|gY aM Gc (sP (sP (sQ sR)))<|fun w61 tB=>have akd:=tB.sub (sP (sP (sQ sR)));?_
   refine AQ 0 O akd (run_move bG) ?_
   refine AQ 1 O akd (run_move lT)<|AQ 2 O akd (ay O O J)<| ?_
   refine AQ 4 O akd (run_move bG) ?_
   refine AQ 5 O akd (run_move lT)<|iy 3 6 aM ?_ ?_
   .refine cf O aH O tB (sP (sP (sQ sR))) (fW (tB.sl (i:=2) O) bg bz O O J)<|A1 6<|cf O aH O tB (sP (sP (sQ sR))) (fW (tB.sl (i:=2) O) bg bz O O J)<|A1 7<|BH O aH O (pL (c:=m.length-i.toNat) (o:=(i+1).toNat) tB (i:=2) O J bg O O O (Sl.fr (tB.sl (i:=2) O) i.toNat J) Bp J (fun u hu=>sJ (xK hu))) (fun w' h=>h.sub (sP (sP (sQ sR))))<|fun w69 vk=>AD<|ax<| ?_
    refine V (run_move bG) ?_
    refine aE lT<|V (fA eR 1 O bz wI)<|lI bx vk 1 O O rfl<|V (ag (vk.sl (i:=2) O) bg bz O O J)<|za vk (i:=2) O J O (u:=I _) O O O O J<|fun w71 ajc=>aa<|ax<|V (ay Al O J)<|mI rfl<|aa<| ?_
    refine⟨(k+1,(m.take i.toNat++(l.getD k.toNat cA).n::m.drop i.toNat),v58),aZ,(((TY.u4.u4.u4.u1).t l6 O)).u4.u4.u4.u4.u4.u4.u4.u4.u4.u4.u4.u1,(Hp.conv (ajc.sub (sQ (sQ sR))) Bm),rfl,(aK I aN),J,J,?_,J⟩
    rw[ji h0 ‹k<_›,<-hm];((rw[aQ ⟨J,J⟩];exact(zu (i:=i.toNat) J hlt (fun _=>J)).symm))
   refine cf O aH O tB (sP (sP (sQ sR))) (fW (tB.sl (i:=2) O) bg bz O O J)<|A1 3<|cf O aH O tB (sP (sP (sQ sR))) (fW (tB.sl (i:=2) O) bg bz O O J)<|A1 7<|BH O aH O (pL (c:=m.length-i.toNat) (o:=(i+1).toNat) tB (i:=2) O J bg O O O (Sl.fr (tB.sl (i:=2) O) i.toNat J) Bp J (fun u hu=>sJ (xK hu))) (fun w' h=>h.sub (sP (sP (sQ sR))))<|fun w79 tA=>AD<|ax<| ?_
   refine V (run_move bG) ?_
   refine aE lT<|V (fA eR 1 O bz wI)<|lI bx tA 1 O O rfl<|V (ag (tA.sl (i:=2) O) bg bz O O J)<|za tA (i:=2) O J O (u:=I _) O O O O J<|fun w81 tC=>aa<|ax<|V (ay Al O J)<|mI rfl<|aa<| ?_
   refine⟨(k+1,(m.take i.toNat++(l.getD k.toNat cA).n::m.drop i.toNat),v58),aZ,(((TY.u4.u4.u4.u1).t l6 O)).u4.u4.u4.u4.u4.u4.u4.u4.u4.u4.u4.u1,(Hp.conv (tC.sub (sQ (sQ sR))) Bm),rfl,(aK I aN),J,J,?_,J⟩
   rw[ji h0 ‹k<_›,<-hm];((rw[aQ ⟨J,J⟩];exact(zu (i:=i.toNat) J hlt (fun _=>J)).symm))
  refine AK 5 O O (bF pW) cG<|AK 6 O O (bF pW) cG<|AK 7 O O (bF pW) cG<|AK 8 O O (bF pW) cG<|AK 9 O O (bF pW) cG<|AK 10 O O (bF pW) cG<|AK 11 O O (bF pW) cG<|AQ 12 O sO (dX (bF pW) (v:=B false) O)<|AD<|dh rfl<|a7 (id:=2) rfl<|ah<|ah<|eF aM cG<|fun w83 oc=>have qT:=oc;AQ 0 O qT (run_move lT)<|AQ 1 O qT (run_move j8)<|AT 2 O qT (fun w hS=>aA (hS.sl (i:=1) O) O bg O)<|AQ 3 O qT (aL O O)<|AQ 4 O qT (mV (B _) O)<|Dl (dj:=40) O (fun V2=> ?_) (fun V2=> ?_)
  .refine BQ 5 O O (bT V2) oc (run_move j8)<|BQ 6 O O (bT V2) oc (run_move lT)<|AG 7 O O (bT V2) oc (fun w hS=>ag (hS.sl (i:=1) O) bg bz O O J)<|AG 8 O O (bT V2) oc (fun w hS=>au bx O O ((hS.sl (i:=1) O).cell _ _ (dZ J)))<|BQ 9 O O (bT V2) oc (fA eR 1 O bz wI)<|AG 10 O O (bT V2) oc (fun w hS=>au bx O O (hS.cell (i:=0) O (v:=I _) O))<|BQ 11 O O (bT V2) oc (bX O O)<|AQ 12 O qT (gI (bT V2) (v:=B _) O)<|AD<|aF O (fun h88=> ?_) (fun h88=> ?_)
   .refine a7 (id:=1) rfl<|ax<|V (ay Al O J)<|mI rfl<|aa<| ?_
    refine⟨(k+1,m,v3),aZ,(((TY.u4.u4.u4.u1).t l6 O)).u4.u4.u4.u4.u4.u4.u4,(Hp.conv (oc.sub (sQ sR)) aN),j8,(aK I aN),J,J,?_,J⟩
    rw[ji h0 ‹k<_›,<-hm];((rw[aP J];done))
   refine ak<|SR<|aE j8<|yd 1 1 oc (ct bg O O (sz:=1) (vs:=[I 0]) O O aD aD O O)<|fun b91 w89 tD=> ?_
   (try simp only[oX]at tD)
   refine jX O tD (i:=2) O (tD.dQ (i:=0) (n:=1) (sz:=1) O O aD) O O bg O O (size:=1) (bytes:=8) O O O aD kq J jU<|fun v92 w93 vY=> ?_
   refine V (run_assign bG) ?_
   refine aa<|ah<|gY aM vY (sP (sP (sQ sR)))<|fun w95 vx=>have ake:=vx.sub (sP (sP (sQ sR)));?_
   refine AQ 0 O ake (run_move bG) ?_
   refine AQ 1 O ake (run_move lT)<|AQ 2 O ake (ay O O J)<| ?_
   refine AQ 4 O ake (run_move bG) ?_
   refine AQ 5 O ake (run_move lT)<|iy 3 6 aM ?_ ?_
   .refine cf O aH O vx (sP (sP (sQ sR))) (fW (vx.sl (i:=2) O) bg bz O O J)<|A1 6<|cf O aH O vx (sP (sP (sQ sR))) (fW (vx.sl (i:=2) O) bg bz O O J)<|A1 7<|BH O aH O (pL (c:=m.length-i.toNat) (o:=(i+1).toNat) vx (i:=2) O J bg O O O (Sl.fr (vx.sl (i:=2) O) i.toNat J) Bp J (fun u hu=>sJ (xK hu))) (fun w' h=>h.sub (sP (sP (sQ sR))))<|fun aIg Qc=>AD<|ax<| ?_
    refine V (run_move bG) ?_
    refine aE lT<|V (fA eR 1 O bz wI)<|lI bx Qc 1 O O rfl<|V (ag (Qc.sl (i:=2) O) bg bz O O J)<|za Qc (i:=2) O J O (u:=I _) O O O O J<|fun atN vz=>aa<|ax<|V (ay Al O J)<|mI rfl<|aa<| ?_
    refine⟨(k+1,(m.take i.toNat++(l.getD k.toNat cA).n::m.drop i.toNat),v92),aZ,(((TY.u4.u4.u4.u1).t l6 O)).u4.u4.u4.u4.u4.u4.u4.u4.u4.u4.u4.u1,(Hp.conv (vz.sub (sQ (sQ sR))) Bm),rfl,(aK I aN),J,J,?_,J⟩
    rw[ji h0 ‹k<_›,<-hm];((rw[aQ ⟨J,J⟩];exact(zu (i:=i.toNat) J hlt (fun _=>J)).symm))
   refine cf O aH O vx (sP (sP (sQ sR))) (fW (vx.sl (i:=2) O) bg bz O O J)<|A1 3<|cf O aH O vx (sP (sP (sQ sR))) (fW (vx.sl (i:=2) O) bg bz O O J)<|A1 7<|BH O aH O (pL (c:=m.length-i.toNat) (o:=(i+1).toNat) vx (i:=2) O J bg O O O (Sl.fr (vx.sl (i:=2) O) i.toNat J) Bp J (fun u hu=>sJ (xK hu))) (fun w' h=>h.sub (sP (sP (sQ sR))))<|fun aGe DM=>AD<|ax<| ?_
   refine V (run_move bG) ?_
   refine aE lT<|V (fA eR 1 O bz wI)<|lI bx DM 1 O O rfl<|V (ag (DM.sl (i:=2) O) bg bz O O J)<|za DM (i:=2) O J O (u:=I _) O O O O J<|fun auo DR=>aa<|ax<|V (ay Al O J)<|mI rfl<|aa<| ?_
   refine⟨(k+1,(m.take i.toNat++(l.getD k.toNat cA).n::m.drop i.toNat),v92),aZ,(((TY.u4.u4.u4.u1).t l6 O)).u4.u4.u4.u4.u4.u4.u4.u4.u4.u4.u4.u1,(Hp.conv (DR.sub (sQ (sQ sR))) Bm),rfl,(aK I aN),J,J,?_,J⟩
   rw[ji h0 ‹k<_›,<-hm];((rw[aQ ⟨J,J⟩];exact(zu (i:=i.toNat) J hlt (fun _=>J)).symm))
  refine AK 5 O O (bF V2) oc<|AK 6 O O (bF V2) oc<|AK 7 O O (bF V2) oc<|AK 8 O O (bF V2) oc<|AK 9 O O (bF V2) oc<|AK 10 O O (bF V2) oc<|AK 11 O O (bF V2) oc<|AQ 12 O qT (dX (bF V2) (v:=B false) O)<|AD<|dh rfl<|ak<|SR<|aE j8<|yd 1 1 oc (ct bg O O (sz:=1) (vs:=[I 0]) O O aD aD O O)<|fun aSq aoa yp=> ?_
  (try simp only[oX]at yp)
  refine jX O yp (i:=2) O (yp.dQ (i:=0) (n:=1) (sz:=1) O O aD) O O bg O O (size:=1) (bytes:=8) O O O aD kq J jU<|fun aA4 aF5 ajv=> ?_
  refine V (run_assign bG) ?_
  refine aa<|ah<|gY aM ajv (sP (sP (sQ sR)))<|fun aA5 q7=>have V3:=q7.sub (sP (sP (sQ sR)));?_
  refine AQ 0 O V3 (run_move bG) ?_
  refine AQ 1 O V3 (run_move lT)<|AQ 2 O V3 (ay O O J)<| ?_
  refine AQ 4 O V3 (run_move bG) ?_
  refine AQ 5 O V3 (run_move lT)<|iy 3 6 aM ?_ ?_
  .refine cf O aH O q7 (sP (sP (sQ sR))) (fW (q7.sl (i:=2) O) bg bz O O J)<|A1 6<|cf O aH O q7 (sP (sP (sQ sR))) (fW (q7.sl (i:=2) O) bg bz O O J)<|A1 7<|BH O aH O (pL (c:=m.length-i.toNat) (o:=(i+1).toNat) q7 (i:=2) O J bg O O O (Sl.fr (q7.sl (i:=2) O) i.toNat J) Bp J (fun u hu=>sJ (xK hu))) (fun w' h=>h.sub (sP (sP (sQ sR))))<|fun auf Gi=>AD<|ax<| ?_
   refine V (run_move bG) ?_
   refine aE lT<|V (fA eR 1 O bz wI)<|lI bx Gi 1 O O rfl<|V (ag (Gi.sl (i:=2) O) bg bz O O J)<|za Gi (i:=2) O J O (u:=I _) O O O O J<|fun aAZ NN=>aa<|ax<|V (ay Al O J)<|mI rfl<|aa<| ?_
   refine⟨(k+1,(m.take i.toNat++(l.getD k.toNat cA).n::m.drop i.toNat),aA4),aZ,(((TY.u4.u4.u4.u1).t l6 O)).u4.u4.u4.u4.u4.u4.u4.u4.u4.u4.u4.u1,(Hp.conv (NN.sub (sQ (sQ sR))) Bm),rfl,(aK I aN),J,J,?_,KJ⟩
   rw[ji h0 ‹k<_›,<-hm];((rw[aQ ⟨J,J⟩];exact(zu (i:=i.toNat) J hlt (fun _=>J)).symm))
  refine cf O aH O q7 (sP (sP (sQ sR))) (fW (q7.sl (i:=2) O) bg bz O O J)<|A1 3<|cf O aH O q7 (sP (sP (sQ sR))) (fW (q7.sl (i:=2) O) bg bz O O J)<|A1 7<|BH O aH O (pL (c:=m.length-i.toNat) (o:=(i+1).toNat) q7 (i:=2) O J bg O O O (Sl.fr (q7.sl (i:=2) O) i.toNat J) Bp J (fun u hu=>sJ (xK hu))) (fun w' h=>h.sub (sP (sP (sQ sR))))<|fun an7 o4=>AD<|ax<| ?_
  refine V (run_move bG) ?_
  refine aE lT<|V (fA eR 1 O bz wI)<|lI bx o4 1 O O rfl<|V (ag (o4.sl (i:=2) O) bg bz O O J)<|za o4 (i:=2) O J O (u:=I _) O O O O J<|fun aA0 Cu=>aa<|ax<|V (ay Al O J)<|mI rfl<|aa<| ?_
  refine⟨(k+1,(m.take i.toNat++(l.getD k.toNat cA).n::m.drop i.toNat),aA4),aZ,(((TY.u4.u4.u4.u1).t l6 O)).u4.u4.u4.u4.u4.u4.u4.u4.u4.u4.u4.u1,(Hp.conv (Cu.sub (sQ (sQ sR))) Bm),rfl,(aK I aN),J,J,?_,KJ⟩
  rw[ji h0 ‹k<_›,<-hm];((rw[aQ ⟨J,J⟩];exact(zu (i:=i.toNat) J hlt (fun _=>J)).symm))
 refine a7 (id:=0) rfl<|SR<|aE Vl<| ?_
 refine V (run_assign bG) ?_
 refine aa<|aj<|N1 O O aW (i:=0) O ((by rw[hm,iP J])) ((by rw[hm,iP J]))
theorem NQ{s:NP}{R L0 Z:List a8}(k:Int)(v:Value)(l:List dK)(t:ix)(y:BitVec 64)(hok:BS s)(hll:l.length<=1000)(hlg:lg.length<=550000000000)(htm:tm.length<=100000000)(w:World)(hT:oh W0)(hls:∀x∈s.an,lB (Kz (Kw W0) L0) x.p)(hc:pw (Kz (Kw W0) L0) v 10 l.length (l.flatMap kg))(hZ:qU n m s lg tm R L0 Z)(hH:Hp W0 w Z):Calls Tryz.prog 25 #[pt n,I k,v,.agg (jd t).toArray,U y] w (iA fun u w'=>(¬(s.sk=false/\vO s.an s.aT k l t=true)/\u=B false/\∃Z',qU n m s lg tm R L0 Z'/\Hp W0 w' Z')\/(s.sk=false/\vO s.an s.aT k l t=true/\u=B true/\∃(fv cv vv:Value) (L1 Z':List a8),(∀b o,a8.blk b o∈L0->a8.blk b o∈L1)/\zv (Kz (Kw W0) L1) (⟨k,cv,l,t,y,vv,dw l⟩:de)/\ku NX n L1 (fv,.add s.qs.length (⟨k,cv,l,t,y,vv,dw l⟩:de))/\gh [(fv,.add s.qs.length (⟨k,cv,l,t,y,vv,dw l⟩:de))] s (AB s (⟨k,cv,l,t,y,vv,dw l⟩:de))/\qU n m (AB s (⟨k,cv,l,t,y,vv,dw l⟩:de)) (lg++[(fv,.add s.qs.length (⟨k,cv,l,t,y,vv,dw l⟩:de))]) (tm++[(lg.length:Int)]) R L1 Z'/\Hp W0 w' Z')):=by
 have hqn:=hok.hqn
 refine enter func25 rfl ntmps25 rfl ?_
 obtain⟨F1,L2,xI,Ia,rfl⟩:=hZ
 have bU:=hH
 simp only[NZ,nE]at bU
 have XX:=hc.mono (Le.zb (K:=Kw W0) Ia)
 have aIh:∀x∈s.an,lB (Kz (Kw W0) L2) x.p:=fun x hx=>(hls x hx).mono (Le.zb Ia)
 have Jk:∀k:Nat,(F1.us.getD k cD).l.length<=1000:=fun k=>by rw[<-BT,xI.us];by_cases c:k<s.us.length;exact(hok.vN k c).1;rw[eE,mX J];simp
 refine SR<|iu bU (v:=Pn _ _) rfl<|fun b8 w6 eD=>iu eD (v:= .agg _) rfl<|fun b11 w9 bW=>va (v:=B false) rfl<|aa<|ah<|SR<|lP cw bW 1 O O rfl<|aG O bW (oe _ (bW.blk (i:=2) O)) (aq call40 O)<|fun B7 cm=>V (bO O)<|mB rfl<|gm 18 O (fun yj=> ?_) (fun yj=> ?_)
 .refine aE (v:=B true) rfl<|aa<|cB rfl<|SR<|va (v:=B false) rfl<|aa<|aj<|iG (v:=B false) O O (.inl ⟨jV,rfl,_,⟨F1,L2,xI,Ia,rfl⟩,(cm.sub (sQ (sQ sR)))⟩)
 refine lP cw cm 1 O O rfl<|mI rfl<| ?_
 refine V (run_move bG) ?_
 refine V (cN (cs:=jd _) mY O O O (bp (cm.blk (i:=0) O)))<|aG O cm (Jn _ _ _ _ _ (cm.blk (i:=2) O) (cm.sl (i:=6) O) (cm.sl (i:=7) O) (XX.mono (cm.kz (Le.refl _) (fun x hx=>(mT (mT (mT (mT (mT (mT (mT (mT (mT (mT (mT (mT (mT (mT (bt _ (bt _ hx))))))))))))))))))).sl (fun x hx=>(aIh x hx).mono (cm.kz (Le.refl _) (fun x hx=>(mT (mT (mT (mT (mT (mT (mT (mT (mT (mT (mT (mT (mT (mT (bt _ (bt _ hx))))))))))))))))))) (hT.hp cm)) (jb call56 O O O O)<|fun Sa dS=>V (bO O)<|mB rfl<|aa<|bY O (fun Sb=> ?_) (fun Sb=> ?_)
 .refine SR<|va (v:=B false) rfl<|aa<|aj<|iG (v:=B false) O O (.inl ⟨jV,rfl,_,⟨F1,L2,xI,Ia,rfl⟩,(dS.sub (sQ (sQ sR)))⟩)
 refine ak<|SR<|lP cw dS 1 O O rfl<|bV O (o8 J _ (dS.pj [2,2,2,2,2,2,2,2,2,2,2,2])) (aq call41 O)<| ?_
 rintro _ w24 ⟨rfl,v26,oG⟩
 simp only[nE]at oG
 have dD:=oG.pk [12,12]
 refine aa<|SR<|lP cw dD 1 O O rfl<|V (af O)<|V (fA bM 6 O s4 O)<|lV mj dD 2 O O rfl<|V (aA (dD.sl (i:=11) O) O mj O)<|oY dD (bf Tryz.zeroValue3)<|fun b30 w28 gx=>bu gx (i:=0) O (bL O O (v:=I _) O O O (gx.blk (i:=0) O) aD)<|fun w33 mS=> ?_
 simp only[z2,gL,pull]at mS
 refine aa<|Et (G:=(Nat)×(Value)×(Value)×(List a8)) mS (12::(rg 33 9 [])) (fun(L:List a8) (⟨q12,cv,vv,Zq⟩:(Nat)×(Value)×(Value)×(List a8))=> .blk q12 (.cells (oT (⟨k,cv,l,t,y,vv,dw l⟩:de)).toArray 128 (0,0))::(L.take 15++((F1.us.map (dr 3))++(Zq++(R++L2))))) (fun(⟨q12,cv,vv,Zq⟩:(Nat)×(Value)×(Value)×(List a8)) s'=>(s' 12= .pointer (some ⟨q12,0,none⟩))/\(zv (Kz (Kw W0) Zq) (⟨k,cv,l,t,y,vv,dw l⟩:de))) ?_ ?_
 .refine ez (z:=⟨none,_,_,_,_,none⟩) aM O aM mS sR<|fun w35 nO=>have rU:=nO.sub sR;AQ 0 O rU (mV (I _) O)<| ?_
  refine AQ 2 O rU (run_move bG) ?_
  refine AT 4 O rU (fun w hS=>cN (cs:=jd _) mY O O O (bp (hS.blk (i:=1) O)))<|AQ 5 O rU (mV (U _) O)<| ?_
  refine AQ 6 O rU (run_move bG) ?_
  refine iy 1 9 aM ?_ ?_
  .refine cY O aH O nO sR (f:=fun b=> .slice (some ⟨b,0,none⟩) 0 0) (Jz iE pn)<|fun b39 w37 vV=> ?_
   (try simp only[oX]at vV)
   have n8:=vV.Ei 0 10 O aD
   refine iy 3 9 aM ?_ ?_
   .refine lA O aH O n8 (j:=0) O (fun _=>(sQ sR)) (XX.mono (n8.kz (Le.refl _) (fun x hx=>(mT (mT (mT (mT (mT (mT (mT (mT (mT (mT (mT (mT (mT (mT (mT (mT (bt _ (bt _ hx))))))))))))))))))))).sl O O iE O O (size:=10) (bytes:=80) O O O aD (Mt _) J jU<|fun v43 w44 qR=> ?_
    simp only[z2,gL,pull]at qR
    refine iy 7 9 aM ?_ ?_
    .refine KX O aH O qR (sQ sR) (wN _ _ J _ (XX.mono (qR.kz (Le.refl _) (fun x hx=>(mT (mT (mT (mT (mT (mT (mT (mT (mT (mT (mT (mT (mT (mT (mT (mT (bt _ (bt _ hx))))))))))))))))))))).sl) (aq call57 O)<|fun v48 w46 oa=>AQ 8 O (oa.sub (sQ (sQ sR))) (dO (vs:=[(0,I k),(1,v43),(2,.agg (jd t).toArray),(3,U y),(4,v48)]) O (zT k l t y (dw l) (aS (oa.get (i:=1) O)).1 (aS (oa.get (i:=0) O)).1))<|A1 9<|cY O aH O oa (sQ (sQ sR)) (f:=fun b=> .pointer (some ⟨b,0,none⟩)) (bf Tryz.zeroValue128)<|fun b51 w49 eS=>AD<| ?_
     obtain⟨Z52,aIi,aIj,-⟩:=(eS.pj [2]).XJ (Kw W0)
     have iY:Hp _ w49 (_::_::_::_::_::_::_::_::_::_::_::_::_::_::_::_::_::(Z52++((F1.us.map (dr 3))++(R++L2)))):=aIi.JI (L:=[_,_,_,_,_,_,_,_,_,_,_,_,_,_,_,_,_]) (L':=((F1.us.map (dr 3))++(R++L2)))
     have oH:=Hp.lN (A:=[_,_,_,_,_,_,_,_,_,_,_,_,_,_,_,_,_]) (B:=Z52) (R:=(F1.us.map (dr 3))) iY
     simp only[fH,er]at oH
     obtain⟨Z57,aIk,aIl,-⟩:=(oH.pj [1]).XJ (Kw W0)
     have Gc:Hp _ w49 (_::_::_::_::_::_::_::_::_::_::_::_::_::_::_::_::(Z57++((F1.us.map (dr 3))++(Z52++(R++L2))))):=aIk.JI (L:=[_,_,_,_,_,_,_,_,_,_,_,_,_,_,_,_]) (L':=((F1.us.map (dr 3))++(Z52++(R++L2))))
     have vi:=Hp.lN (A:=[_,_,_,_,_,_,_,_,_,_,_,_,_,_,_,_]) (B:=Z57) (R:=(F1.us.map (dr 3))) Gc
     simp only[fH,er]at vi
     have uf:zv (Kz (Kw W0) (Z57++Z52)) (⟨k,v43,l,t,y,v48,dw l⟩:de):=⟨pw.mono (by simpa using aIj) (Le.zz fun x hx=>bt _ hx),aIl.mono (Le.zz fun x hx=>dx _ hx)⟩
     refine bu vi (i:=0) O (eC O O O (sK uf) (vi.blk (i:=0) O) O)<|fun w62 pC=> ?_
     simp only[z2,gL,pull]at pC
     refine aa ?_
     refine⟨((Fr.refl _ _)).u4.u4.u1.u1,(b51,v43,v48,(Z57++Z52)),(Hp.conv pC QT),rfl,?_⟩
     exact uf
    refine cY O aH O qR (sQ sR) (f:=fun b=> .pointer (some ⟨b,0,none⟩)) (bf Tryz.zeroValue128)<|fun b66 w64 AX=>A1 7<|KX O aH O AX (sQ (sQ sR)) (wN _ _ J _ (XX.mono (AX.kz (Le.refl _) (fun x hx=>(mT (mT (mT (mT (mT (mT (mT (mT (mT (mT (mT (mT (mT (mT (mT (mT (mT (bt _ (bt _ hx)))))))))))))))))))))).sl) (aq call57 O)<|fun v69 w67 mA=>AQ 8 O (mA.sub (sQ (sQ (sQ sR)))) (dO (vs:=[(0,I k),(1,v43),(2,.agg (jd t).toArray),(3,U y),(4,v69)]) O (zT k l t y (dw l) (aS (mA.get (i:=2) O)).1 (aS (mA.get (i:=0) O)).1))<|AD<| ?_
    obtain⟨Z70,aIm,aIn,-⟩:=(mA.pj [2]).XJ (Kw W0)
    have vS:Hp _ w67 (_::_::_::_::_::_::_::_::_::_::_::_::_::_::_::_::_::(Z70++((F1.us.map (dr 3))++(R++L2)))):=aIm.JI (L:=[_,_,_,_,_,_,_,_,_,_,_,_,_,_,_,_,_]) (L':=((F1.us.map (dr 3))++(R++L2)))
    have zS:=Hp.lN (A:=[_,_,_,_,_,_,_,_,_,_,_,_,_,_,_,_,_]) (B:=Z70) (R:=(F1.us.map (dr 3))) vS
    simp only[fH,er]at zS
    obtain⟨Z75,aIo,aIp,-⟩:=zS.XJ (Kw W0)
    have Jf:Hp _ w67 (_::_::_::_::_::_::_::_::_::_::_::_::_::_::_::_::(Z75++((F1.us.map (dr 3))++(Z70++(R++L2))))):=aIo.JI (L:=[_,_,_,_,_,_,_,_,_,_,_,_,_,_,_,_]) (L':=((F1.us.map (dr 3))++(Z70++(R++L2))))
    have Jo:=Hp.lN (A:=[_,_,_,_,_,_,_,_,_,_,_,_,_,_,_,_]) (B:=Z75) (R:=(F1.us.map (dr 3))) Jf
    simp only[fH,er]at Jo
    have uf:zv (Kz (Kw W0) (Z75++Z70)) (⟨k,v43,l,t,y,v69,dw l⟩:de):=⟨pw.mono (by simpa using aIn) (Le.zz fun x hx=>bt _ hx),aIp.mono (Le.zz fun x hx=>dx _ hx)⟩
    refine bu Jo (i:=0) O (eC O O O (sK uf) (Jo.blk (i:=0) O) O)<|fun w80 an9=> ?_
    simp only[z2,gL,pull]at an9
    refine aa ?_
    refine⟨((Fr.refl _ _)).u4.u4.u1.u1,(b66,v43,v69,(Z75++Z70)),(Hp.conv an9 QT),rfl,?_⟩
    exact uf
   refine cY O aH O n8 (sQ sR) (f:=fun b=> .pointer (some ⟨b,0,none⟩)) (bf Tryz.zeroValue128)<|fun b84 w82 aj9=>A1 3<|lA O aH O aj9 (j:=1) O (fun _=>(sQ (sQ sR))) (XX.mono (aj9.kz (Le.refl _) (fun x hx=>(mT (mT (mT (mT (mT (mT (mT (mT (mT (mT (mT (mT (mT (mT (mT (mT (mT (bt _ (bt _ hx)))))))))))))))))))))).sl O O iE O O (size:=10) (bytes:=80) O O O aD (Mt _) J jU<|fun v87 w88 Sv=> ?_
   simp only[z2,gL,pull]at Sv
   refine A1 7<|KX O aH O Sv (sQ (sQ sR)) (wN _ _ J _ (XX.mono (Sv.kz (Le.refl _) (fun x hx=>(mT (mT (mT (mT (mT (mT (mT (mT (mT (mT (mT (mT (mT (mT (mT (mT (mT (bt _ (bt _ hx)))))))))))))))))))))).sl) (aq call57 O)<|fun v92 w90 Np=>AQ 8 O (Np.sub (sQ (sQ (sQ sR)))) (dO (vs:=[(0,I k),(1,v87),(2,.agg (jd t).toArray),(3,U y),(4,v92)]) O (zT k l t y (dw l) (aS (Np.get (i:=2) O)).1 (aS (Np.get (i:=0) O)).1))<|AD<| ?_
   obtain⟨Z93,aIq,aIr,-⟩:=(Np.pj [2]).XJ (Kw W0)
   have vx:Hp _ w90 (_::_::_::_::_::_::_::_::_::_::_::_::_::_::_::_::_::(Z93++((F1.us.map (dr 3))++(R++L2)))):=aIq.JI (L:=[_,_,_,_,_,_,_,_,_,_,_,_,_,_,_,_,_]) (L':=((F1.us.map (dr 3))++(R++L2)))
   have SB:=Hp.lN (A:=[_,_,_,_,_,_,_,_,_,_,_,_,_,_,_,_,_]) (B:=Z93) (R:=(F1.us.map (dr 3))) vx
   simp only[fH,er]at SB
   obtain⟨Z98,aIs,aA6,-⟩:=SB.XJ (Kw W0)
   have DQ:Hp _ w90 (_::_::_::_::_::_::_::_::_::_::_::_::_::_::_::_::(Z98++((F1.us.map (dr 3))++(Z93++(R++L2))))):=aIs.JI (L:=[_,_,_,_,_,_,_,_,_,_,_,_,_,_,_,_]) (L':=((F1.us.map (dr 3))++(Z93++(R++L2))))
   have IE:=Hp.lN (A:=[_,_,_,_,_,_,_,_,_,_,_,_,_,_,_,_]) (B:=Z98) (R:=(F1.us.map (dr 3))) DQ
   simp only[fH,er]at IE
   have uf:zv (Kz (Kw W0) (Z98++Z93)) (⟨k,v87,l,t,y,v92,dw l⟩:de):=⟨pw.mono (by simpa using aIr) (Le.zz fun x hx=>bt _ hx),aA6.mono (Le.zz fun x hx=>dx _ hx)⟩
   refine bu IE (i:=0) O (eC O O O (sK uf) (IE.blk (i:=0) O) O)<|fun aIg Qc=> ?_
   simp only[z2,gL,pull]at Qc
   refine aa ?_
   refine⟨((Fr.refl _ _)).u4.u4.u1.u1,(b84,v87,v92,(Z98++Z93)),(Hp.conv Qc QT),rfl,?_⟩
   exact uf
  refine cY O aH O nO sR (f:=fun b=> .pointer (some ⟨b,0,none⟩)) (bf Tryz.zeroValue128)<|fun aIt atN vz=>A1 1<|cY O aH O vz (sQ sR) (f:=fun b=> .slice (some ⟨b,0,none⟩) 0 0) (Jz iE pn)<|fun aSs aHX P9=> ?_
  (try simp only[oX]at P9)
  have VZ:=P9.Ei 0 10 O aD
  refine A1 3<|lA O aH O VZ (j:=0) O (fun _=>(sQ (sQ sR))) (XX.mono (VZ.kz (Le.refl _) (fun x hx=>(mT (mT (mT (mT (mT (mT (mT (mT (mT (mT (mT (mT (mT (mT (mT (mT (mT (bt _ (bt _ hx)))))))))))))))))))))).sl O O iE O O (size:=10) (bytes:=80) O O O aD (Mt _) J jU<|fun auF auo DR=> ?_
  simp only[z2,gL,pull]at DR
  refine A1 7<|KX O aH O DR (sQ (sQ sR)) (wN _ _ J _ (XX.mono (DR.kz (Le.refl _) (fun x hx=>(mT (mT (mT (mT (mT (mT (mT (mT (mT (mT (mT (mT (mT (mT (mT (mT (mT (bt _ (bt _ hx)))))))))))))))))))))).sl) (aq call57 O)<|fun auG aoa yp=>AQ 8 O (yp.sub (sQ (sQ (sQ sR)))) (dO (vs:=[(0,I k),(1,auF),(2,.agg (jd t).toArray),(3,U y),(4,auG)]) O (zT k l t y (dw l) (aS (yp.get (i:=1) O)).1 (aS (yp.get (i:=0) O)).1))<|AD<| ?_
  obtain⟨adM,aA7,aA8,-⟩:=(yp.pj [1]).XJ (Kw W0)
  have IP:Hp _ aoa (_::_::_::_::_::_::_::_::_::_::_::_::_::_::_::_::_::(adM++((F1.us.map (dr 3))++(R++L2)))):=aA7.JI (L:=[_,_,_,_,_,_,_,_,_,_,_,_,_,_,_,_,_]) (L':=((F1.us.map (dr 3))++(R++L2)))
  have q7:=Hp.lN (A:=[_,_,_,_,_,_,_,_,_,_,_,_,_,_,_,_,_]) (B:=adM) (R:=(F1.us.map (dr 3))) IP
  simp only[fH,er]at q7
  obtain⟨aob,aA9,akf,-⟩:=q7.XJ (Kw W0)
  have akg:Hp _ aoa (_::_::_::_::_::_::_::_::_::_::_::_::_::_::_::_::(aob++((F1.us.map (dr 3))++(adM++(R++L2))))):=aA9.JI (L:=[_,_,_,_,_,_,_,_,_,_,_,_,_,_,_,_]) (L':=((F1.us.map (dr 3))++(adM++(R++L2))))
  have Ns:=Hp.lN (A:=[_,_,_,_,_,_,_,_,_,_,_,_,_,_,_,_]) (B:=aob) (R:=(F1.us.map (dr 3))) akg
  simp only[fH,er]at Ns
  have uf:zv (Kz (Kw W0) (aob++adM)) (⟨k,auF,l,t,y,auG,dw l⟩:de):=⟨pw.mono (by simpa using aA8) (Le.zz fun x hx=>bt _ hx),akf.mono (Le.zz fun x hx=>dx _ hx)⟩
  refine bu Ns (i:=0) O (eC O O O (sK uf) (Ns.blk (i:=0) O) O)<|fun aGf abf=> ?_
  simp only[z2,gL,pull]at abf
  refine aa ?_
  refine⟨((Fr.refl _ _)).u4.u4.u1.u1,(aIt,auF,auG,(aob++adM)),(Hp.conv abf QT),rfl,?_⟩
  exact uf
 rintro⟨q12,cv,vv,Zq⟩ aMv aBa aBb Gi ⟨SK,adN⟩
 simp only[Gm,wS,fH,er]at Gi
 obtain⟨ZA,aC0,aoc⟩:=aBb.w3 5 10 11
 have hfb:vO s.an s.aT k l t=true:=nf ‹(!vO _ _ _ _ _)=false›
 have hvs:=ac2 hfb
 have NV:=U1 l
 have hvl:∀v∈dw l,0<=v/\v<s.us.length:=fun v hv=>by have:=hvs v hv;have:=hok.hlt;have:=hok.NU;omega
 have hvc:(dw l).length<=1000:=jP (Pz l) hll
 have hvw:(⟨k,cv,l,t,y,vv,dw l⟩:de).vars.length=(dw l).length:=rfl
 refine ah<|ez (z:=⟨none,_,_,_,_,none⟩) aM O aM Gi (sP (sP (sP (sP (sP (sP (sP (sP (sP (sP (sP (sP (sP (sQ sR))))))))))))))<|fun aAZ NN=>have yt:=NN.sub (sP (sP (sP (sP (sP (sP (sP (sP (sP (sP (sP (sP (sP (sQ sR))))))))))))));AT 0 O yt (fun w hS=>au cw O ZA (hS.cell (i:=3) O (v:=Pn _ _) O))<|AT 1 O yt (fun w hS=>au cw O ZA (hS.cell (i:=3) O (v:=Pn _ _) O))<|AQ 2 O yt (af O)<|AQ 3 O yt (fA bM 6 O s4 O)<|tV 4 O yt mj 4 O O rfl<|AT 5 O yt (fun w hS=>cN (cs:=oT _) iM O O SK (bp (hS.blk (i:=0) O)))<|A1 6<|cY O aH O NN (sP (sP (sP (sP (sP (sP (sP (sP (sP (sP (sP (sP (sP (sQ sR)))))))))))))) (f:=fun b=> .slice (some ⟨b,0,none⟩) 1 1) (nh nM mj O O O (l:=[(⟨k,cv,l,t,y,vv,dw l⟩:de)]) O aD aD O)<|fun aH1 aH2 Gd=>A1 7<|RG (a:=(⟨k,cv,l,t,y,vv,dw l⟩:de)) O aH nM aD O Gd (i:=14) O (fun _=>(sQ (sP (sP (sP (sP (sP (sP (sP (sP (sP (sP (sP (sP (sP (sQ sR)))))))))))))))) (Hp.oy nM Gd (i:=0) (l:=[(⟨k,cv,l,t,y,vv,dw l⟩:de)]) O kQ) O O mj O O (bytes:=136) O O O (fun u hu=>sK adN u qf) J aD<|fun aj3 an7 o4=> ?_
 simp only[z2,gL,pull]at o4
 refine AQ 8 O (o4.sub (sQ (sP (sP (sP (sP (sP (sP (sP (sP (sP (sP (sP (sP (sP (sQ sR)))))))))))))))) (af O)<|AQ 9 O (o4.sub (sQ (sP (sP (sP (sP (sP (sP (sP (sP (sP (sP (sP (sP (sP (sQ sR)))))))))))))))) (fA bM 6 O s4 O)<|AD<|bu o4 (i:=5) O (bL O O (v:=aj3) O (aS (o4.get (i:=14) O)).1 (aS (o4.get (i:=14) O)).2 (o4.blk (i:=5) O) az)<|fun aA0 Cu=> ?_
 simp only[fO,gU,iZ,fg,Nat.reduceAdd]at Cu
 refine aa<|ah<|SR<|V (fA iM 12 O cP SK)<|V (bZ (adN.vars.mono (Cu.kz (Le.refl _) (fun x hx=>(mT (mT (mT (mT (mT (mT (mT (mT (mT (mT (mT (mT (mT (mT (mT (mT (mT (bt _ (dx _ hx)))))))))))))))))))))).sl bg O O (Cu.cell (i:=1) O O))<|V (aA (adN.vars.mono (Cu.kz (Le.refl _) (fun x hx=>(mT (mT (mT (mT (mT (mT (mT (mT (mT (mT (mT (mT (mT (mT (mT (mT (mT (bt _ (dx _ hx)))))))))))))))))))))).sl O bg O)<|aE (v:=I 0) rfl<|aa<|aC<|bj (G:=Int×(List iW)×(List a8)) (fun⟨j,sV,Z1⟩ s' w'=>(Fr (14::(rg 55 21 [])) _ s')/\(Hp W0 w' (_::_::_::_::_::_::_::_::_::_::_::_::_::jq iW.v F1.vu 99 sV::_::_::_::Z1))/\(s' 55=I j)/\(0<=j)/\(j<=(dw l).length)/\(Z1=sV.map (dr 3)++(Zq++(R++L2)))/\(mO sV=((dw l).take j.toNat).foldl (EJ s.qs.length) s.us)) (fun⟨j,sV,Z1⟩=>((dw l).length-j).toNat) ((0,F1.us,((F1.us.map (dr 3))++(Zq++(R++L2))))) ⟨Fr.refl _ _,Cu,rfl,J,J,rfl,xI.us⟩<| ?_
 rintro⟨j,sV,Z1⟩ aMw aSt ⟨akh,V4,SL,h0,hj,hz,S4⟩
 obtain⟨aod,aoe⟩:=akh.w2 53 54
 obtain⟨SM,abl,aof⟩:=akh.t3 5 ZA 11 aoc 12 SK
 subst hz
 have hgn:sV.length=s.us.length:=by have:=aK List.length S4;rwa[eM,oW]at this
 have hub:∀k:Nat,(sV.getD k cD).l.length<=1001:=fun k=>by rw[<-BT,S4];exact amK (NV.sublist (List.take_sublist _ _)) (fun v hv=>hvl v (uu hv)) (by rw[<-xI.us,BT];exact Jk k)
 refine SR<|V (aL SL aoe)<|aa<|ah<|aF O (fun aIv=> ?_) (fun aIv=> ?_)
 .refine ak<|ah<|aC<|SR<|V (ag (adN.vars.mono (V4.kz (Le.refl _) (fun x hx=>(mT (mT (mT (mT (mT (mT (mT (mT (mT (mT (mT (mT (mT (mT (mT (mT (mT (bt _ (dx _ hx)))))))))))))))))))))).sl bg bz aod SL J)<|V (au bx O O ((adN.vars.mono (V4.kz (Le.refl _) (fun x hx=>(mT (mT (mT (mT (mT (mT (mT (mT (mT (mT (mT (mT (mT (mT (mT (mT (mT (bt _ (dx _ hx)))))))))))))))))))))).sl.cell _ _ (dZ J)))<|V (run_assign (show _=I ((dw l).getD j.toNat 0)from O))<|aa<|have hvj:=hvl _ (dc (d:=0) h0 ‹j<_›);?_
  rw[<-hgn]at hvj
  refine ez (z:=⟨none,_,_,_,_,none⟩) aM O aM V4 (sP (sP (sP (sP (sP (sP (sP (sP (sP (sP (sP (sP (sP (sP (sP (sP (sP (sA sR))))))))))))))))))<|fun aSv aqq=>have yu:=aqq.sub (sP (sP (sP (sP (sP (sP (sP (sP (sP (sP (sP (sP (sP (sP (sP (sP (sP (sA sR))))))))))))))))));AT 0 O yu (fun w hS=>au cw O SM (hS.cell (i:=4) O (v:=Pn _ _) O))<|AQ 1 O yu (af O)<|AQ 2 O yu (fA bM 5 O qc O)<|tV 3 O yu kE 5 O O rfl<|AQ 4 O yu (mV (I _) O)<|AT 5 O yu (fun w hS=>au cw O SM (hS.cell (i:=4) O (v:=Pn _ _) O))<|AQ 6 O yu (af O)<|AQ 7 O yu (fA bM 5 O qc O)<|tV 8 O yu kE 5 O O rfl<|AQ 9 O yu (mV (I _) O)<|AT 10 O yu (fun w hS=>ag (hS.sl (i:=13) O) kE cP O (show _=I ((dw l).getD j.toNat 0)from O) J)<|AT 11 O yu (fun w hS=>au bg O O ((hS.sl (i:=13) O).cell _ _ (ke (dv:=cD) J)))<|AT 12 O yu (fun w hS=>au bx O abl (hS.cell (i:=2) O (v:=I _) O))<|A1 13<|cY O aH O aqq (sP (sP (sP (sP (sP (sP (sP (sP (sP (sP (sP (sP (sP (sP (sP (sP (sP (sA sR)))))))))))))))))) (f:=fun b=> .slice (some ⟨b,0,none⟩) 1 1) (ct bg O O (sz:=1) (vs:=[I _]) O O aD aD O O)<|fun aSw aSx V1=> ?_
  (try simp only[oX]at V1)
  refine A1 14<|ahk (A:=[_,_,_,_,_,_,_,_,_,_,_,_,_,_,_,_,_,_]) (gs:=sV) (q:=((dw l).getD j.toNat 0)) (a:=(s.qs.length:Int)) (R:=(Zq++(R++L2))) O aH O V1 (fun _=>(sQ (sP (sP (sP (sP (sP (sP (sP (sP (sP (sP (sP (sP (sP (sP (sP (sP (sP (sA (sA sR))))))))))))))))))))) hvj (V1.dQ (i:=0) (n:=1) (sz:=1) O O aD) O O bg O O (bytes:=8) O O O (by have:=hub (((dw l).getD j.toNat 0)).toNat;omega) aD<|fun auH aSy abm=> ?_
  simp only[fH,er]at abm
  refine AT 15 O (abm.sub (sQ (sP (sP (sP (sP (sP (sP (sP (sP (sP (sP (sP (sP (sP (sP (sP (sP (sP (sA sR)))))))))))))))))))) (fun w hS=>ag (hS.sl (i:=13) O) kE cP O (show _=I ((dw l).getD j.toNat 0)from O) J)<|AD<|have aqr:=Hp.ar5 (A:=[_,_,_,_,_,_,_,_,_,_,_,_,_,_,_,_,_,_]) (gs:=sV) (q:=((dw l).getD j.toNat 0)) (R:=(Zq++(R++L2))) abm J;px (f:=iW.v) (a:=⟨auH,(sV.getD (((dw l).getD j.toNat 0)).toNat cD).l++[(s.qs.length:Int)]⟩) abm (i:=14) O J O O aqr.1 aqr.2 rfl<|fun aSz aqs=> ?_
  simp only[z2,gL,pull]at aqs
  refine aa<|ax<|V (ay SL O J)<|mI rfl<|aa<| ?_
  refine⟨(j+1,(sV.set (((dw l).getD j.toNat 0)).toNat ⟨auH,(sV.getD (((dw l).getD j.toNat 0)).toNat cD).l++[(s.qs.length:Int)]⟩),(((sV.set (((dw l).getD j.toNat 0)).toNat ⟨auH,(sV.getD (((dw l).getD j.toNat 0)).toNat cD).l++[(s.qs.length:Int)]⟩).map (dr 3))++(Zq++(R++L2)))),aZ,akh.u4.u4.u4.u4.u4.u1.u1,(Hp.conv (aqs.sub (sQ sR)) aN),(aK I aN),J,J,aN,?_⟩
  (rw[mE h0 ‹j<_›,<-S4];unfold EJ;rw[RO,zm])
 refine a7 (id:=0) rfl<|SR<|V (au cw O SM (V4.cell (i:=4) O (v:=Pn _ _) O))<|V (KZ SM abl aof)<|bV O (iq _ _ (.add s.qs.length (⟨k,cv,l,t,y,vv,dw l⟩:de)) J _ (V4.pj [5,5,5,5,5,5,5,5,5,5,5,5])) (aJ yI O O)<| ?_
 rintro _ aIw ⟨rfl,aIx,abn⟩
 simp only[nE]at abn
 have aBc:=abn.pk [12,12,12,12,12]
 refine aa<|SR<|va (v:=B true) rfl<|aa<|aj<|have ajA:=((aBc.sub (sQ (sP (sP (sQ sR))))).pj [3,3,3,3,3,3,3,3,3,3,3,3,2,1]);have Cv:=Hp.aEx (A:=[_,_,_,_,_,_,_,_,_,_,_,_]) (B:=[a8.blk b8 (.cells #[pt n] 31 (0,0)),a8.blk b30 (.cells #[I s.qs.length] 3 (0,0)),a8.blk q12 (.cells (oT (⟨k,cv,l,t,y,vv,dw l⟩:de)).toArray 128 (0,0))]) (U:=(sV.map (dr 3))) (Q:=Zq) (R:=R) ajA;?_
 rw[iP J]at S4
 refine iG (v:=B true) O O (.inr ⟨jV,hfb,rfl,(jF 58 #[pt b8,pt b30,pt q12]),cv,vv,([a8.blk b8 (.cells #[pt n] 31 (0,0)),a8.blk b30 (.cells #[I s.qs.length] 3 (0,0)),a8.blk q12 (.cells (oT (⟨k,cv,l,t,y,vv,dw l⟩:de)).toArray 128 (0,0))]++(Zq++L2)),_,(fun b o hb=>bt _ (bt _ (Ia b o hb))),adN.mono (Le.zz fun x hx=>bt _ (dx _ hx)),⟨_,_,_,rfl,az,az,az⟩,ahZ NV hvl,⟨{F1 with vu:=F1.vu,vq:=aj3,vd:=aIx,vm:=v26,us:=sV},([a8.blk b8 (.cells #[pt n] 31 (0,0)),a8.blk b30 (.cells #[I s.qs.length] 3 (0,0)),a8.blk q12 (.cells (oT (⟨k,cv,l,t,y,vv,dw l⟩:de)).toArray 128 (0,0))]++(Zq++L2)),⟨xI.fo.mono fun e he=>bt _ (bt _ he),S4⟩,fun _ _ q=>q,rfl⟩,?_⟩)
 simp only[NZ,nE,AB];exact Cv
section
variable{W0 w:World}{n:Nat}{s:NP}{lg:List (Value×jj)}{tm:List Int}{ids:List Nat}{f:Ct}{tl:List (Nat×Rl)}{b c:Nat}{A R Z:List a8}
theorem vD(hT:oh W0)(hW:n5 s)(hb:b<=70)(hc:c<=1000)(hZ:gQ fr W0 n s lg tm ids f tl b c Z)(hH:Hp W0 w (A++(Z++R))):Calls Tryz.prog 15 #[pt n] w (iA fun u w'=>∃(ok:Bool) (s':NP) (new:List (Value×jj)) (f':Ct) (a j:Nat) (Z':List a8),u=B ok/\ac6 s s' ok/\gh new s s'/\oV f f' a a (a+j)/\a<=muM s/\j<=s.ai.length/\gQ fr W0 n s' (lg++new) (tmS s lg tm) ids f' tl (b+1) c Z'/\Hp W0 w' (A++(Z'++R))):=by
 obtain⟨Z2,hM,aW⟩:=hZ.anJ hH
 obtain⟨m,L0,Zf,⟨b1,b2,b3,b4⟩,ZB,hlv,uf,hch,hN⟩:=hM
 have hmu:=hW.mu
 have hnv:=hW.nv
 refine(Gh (JB s) (muB s) (muM s) J hW.ns.ok hW.wy J J b4 J (axh hW) w hT hlv ZB uf hN aW).mono fun e w' hr=>iA.mono ?_ hr
 rintro u w' (⟨h1,rfl,Z3,Oy,rY⟩|⟨tL,us,ok,cc,S3,a,s',new,L1,Z3,Zf',f',vN,rfl,hR,hJ,ha,hs',hnc,hnl,hbk,hL,auI,hk,Oy,rY⟩)
 .obtain⟨Zo,ho,hh⟩:=gQ.out (A:=A) (R:=R) (fr:=fr) (b:=b+1) (c:=c) ⟨m,L0,Zf,⟨J,J,J,b4.mono J⟩,ZB,hlv,uf,hch,Oy⟩ rY
  refine⟨false,s,[],f,0,0,Zo,rfl,⟨fun _=>⟨rfl,rfl⟩,fun q=>(by rw[h1]at q;cases q)⟩,gh.nil s,oV.refl f,J,J,?_,hh⟩
  rw[kV,ao7 h1];exact ho
 have hal:=ail hW vN hR ha
 have hS:=asA hW tL vN hR (by unfold JN;rw[aaT];exact hJ)
 have hj:(rP s.cs us s.an s.aT s.qs s.sn s.ai.length ⟨s.ai,s.aX,[],List.replicate s.qs.length false⟩).j<=s.ai.length:=(RZ hW.ns vN).2.2.2
 rw[<-hs']at hS
 have hlt:s'.an=s.an:=hS.an
 obtain⟨Zo,ho,hh⟩:=gQ.out (A:=A) (R:=R) (fr:=fr) (b:=b+1) (c:=c) ⟨m+s.ai.length,L1,Zf',⟨J,by simp only[cV];omega,by simp only[cV,gk];omega,(hk.ok b4).mono J⟩,auI,by rw[hlt];exact hlv.mono (Le.zb hL),by rw[hS.qs];exact uf.mono (Le.zb hL),fun x hx=>by rcases eP.1 hx with q|q;exact⟨(hch x q).1.Dy hL,(hch x q).2.mono (Le.zb hL)⟩;exact⟨(hnc x q).1,AdV.na (hnc x q).2⟩,Oy⟩ rY
 rw[<-ao8 (lg:=lg) (tm:=tm) tL]at ho
 exact⟨ok,s',new,f',a,_,Zo,rfl,⟨fun q=>(by rw[tL]at q;cases q),fun _=>hS⟩,hbk,hk,hal,hj,ho,hh⟩
end
section
variable{W0 w:World}{n:Nat}{s:NP}{lg:List (Value×jj)}{tm:List Int}{ids:List Nat}{f:Ct}{tl:List (Nat×Rl)}{b c:Nat}{A R Z:List a8}
theorem abo(l:Int)(hok:BS s)(hb:b<=70)(hc:c<=1000)(hZ:gQ fr W0 n s lg tm ids f tl b c Z)(hH:Hp W0 w (A++(Z++R))):Calls Tryz.prog 18 #[pt n,I l] w (iA fun u w'=>(¬(s.sk=false/\0<=l/\l<s.an.length)/\u=I (-1)/\∃Z',gQ fr W0 n s lg tm ids f tl b c Z'/\Hp W0 w' (A++(Z'++R)))\/(s.sk=false/\(0<=l/\l<s.an.length)/\u=I s.ai.length/\∃(fv:Value) (Z':List a8),gh [(fv,jj.var s.ai.length ((s.cs.length:Int)-1))] s (pz s l (s.an.getD l.toNat oK).low)/\gQ fr W0 n (pz s l (s.an.getD l.toNat oK).low) (lg++[(fv,jj.var s.ai.length ((s.cs.length:Int)-1))]) (tm++[(lg.length:Int)]) ids f tl b (c+1) Z'/\Hp W0 w' (A++(Z'++R)))):=by
 obtain⟨Z2,hM,aW⟩:=hZ.anJ hH
 obtain⟨m,L0,Zf,⟨b1,b2,b3,b4⟩,ZB,hlv,uf,hch,hN⟩:=hM
 refine(NO l J hok J J w hN aW).mono fun e w' hr=>iA.mono ?_ hr
 rintro u w' (⟨h1,rfl,Z3,Oy,rY⟩|⟨h1,h2,rfl,fv,L1,Z3,hL,hC,hbk,Oy,rY⟩)
 .refine .inl ⟨h1,rfl,?_⟩
  obtain⟨Zo,ho,hh⟩:=gQ.out (A:=A) (R:=R) (fr:=fr) ⟨m,L0,Zf,⟨b1,b2,b3,b4⟩,ZB,hlv,uf,hch,Oy⟩ rY
  exact⟨Zo,ho,hh⟩
 obtain⟨Zo,ho,hh⟩:=gQ.out (A:=A) (R:=R) (fr:=fr) (s:=pz s l (s.an.getD l.toNat oK).low) (lg:=lg++[(fv,jj.var s.ai.length ((s.cs.length:Int)-1))]) (tm:=tm++[(lg.length:Int)]) (b:=b) (c:=c+1) ⟨m+1,L1,Zf,⟨J,by simp only[cV,gk];omega,by simp only[cV,gk];omega,b4⟩,ZB,hlv.mono (Le.zb hL),uf.mono (Le.zb hL),fun x hx=>by rcases eP.1 hx with q|q;exact⟨(hch x q).1.Dy hL,(hch x q).2.mono (Le.zb hL)⟩;rw[fZ.1 q];exact⟨hC,trivial⟩,Oy⟩ rY
 exact .inr ⟨h1,h2,rfl,fv,Zo,hbk,ho,hh⟩
end
section
variable{W0 w:World}{n:Nat}{s:NP}{lg:List (Value×jj)}{tm:List Int}{ids:List Nat}{f:Ct}{tl:List (Nat×Rl)}{b c:Nat}{A R Z:List a8}
theorem abp(k:Int)(v:Value)(l:List dK)(t:ix)(y:BitVec 64)(hok:BS s)(hll:l.length<=1000)(hb:b<=70)(hc:c<=1000)(hT:oh W0){X:List a8}(hcv:pw (Kz (Kw W0) X) v 10 l.length (l.flatMap kg))(hZ:gQ fr W0 n s lg tm ids f tl b c Z)(hH:Hp W0 w (A++(Z++X))):Calls Tryz.prog 25 #[pt n,I k,v,.agg (jd t).toArray,U y] w (iA fun u w'=>∃(ok:Bool) (s':NP) (new:List (Value×jj)) (u9:List Int) (Z':List a8),u=B ok/\R3 s s' k l t y ok/\gh new s s'/\TmA ok lg tm u9/\gQ fr W0 n s' (lg++new) u9 ids f tl b (c+1) Z'/\Hp W0 w' (A++(Z'++[]))):=by
 obtain⟨m,L0,Zf,Z2,⟨b1,b2,b3,b4⟩,ZB,hlv,uf,hch,hN,aW,hXL⟩:=hZ.ay9 hH
 refine(NQ k v l t y hok hll J J w hT (fun x hx=>(hlv x hx).Aa) (hcv.mono (Le.zb hXL)) hN aW).mono fun e w' hr=>iA.mono ?_ hr
 rintro u w' (⟨h1,rfl,Z3,Oy,rY⟩|⟨h1,h2,rfl,fv,cv,vv,L1,Z3,hL,hq,hC,hbk,Oy,rY⟩)
 .obtain⟨Zo,ho,hh⟩:=gQ.out (A:=A) (R:=[]) (fr:=fr) (b:=b) (c:=c+1) ⟨m,L0,Zf,⟨J,J,J,b4⟩,ZB,hlv,uf,hch,Oy⟩ rY
  refine⟨false,s,[],tm,Zo,rfl,R3.no h1,gh.nil s,rfl,?_,hh⟩
  rw[kV];exact ho
 obtain⟨Zo,ho,hh⟩:=gQ.out (A:=A) (R:=[]) (fr:=fr) (s:=AB s (⟨k,cv,l,t,y,vv,dw l⟩:de)) (lg:=lg++[(fv,jj.add s.qs.length (⟨k,cv,l,t,y,vv,dw l⟩:de))]) (tm:=tm++[(lg.length:Int)]) (b:=b) (c:=c+1) ⟨m,L1,Zf,⟨J,by simp only[cV,gk];omega,by simp only[cV,gk];omega,b4⟩,ZB,hlv.mono (Le.zb hL),fun x hx=>by rcases eP.1 hx with q|q;exact(uf.mono (Le.zb hL)) x q;rw[fZ.1 q];exact hq,fun x hx=>by rcases eP.1 hx with q|q;exact⟨(hch x q).1.Dy hL,(hch x q).2.mono (Le.zb hL)⟩;rw[fZ.1 q];exact⟨hC,hq,jP (Pz l) hll⟩,Oy⟩ rY
 exact⟨true,_,_,_,Zo,rfl,R3.yes h1 h2,hbk,rfl,ho,hh⟩
end
section
variable{W0 w:World}{n:Nat}{s:NP}{lg:List (Value×jj)}{tm:List Int}{ids:List Nat}{f:Ct}{tl:List (Nat×Rl)}{b c:Nat}{A R Z:List a8}
theorem aqt(p:kX)(hfn:p.aY.length<=1000)(hnn:∀f∈p.aY,f.names.length<=1000)(hll:s.an.length<=1000)(hwr:WrF s.wr ids)(hb:b<=70)(hc:c<=1000)(hT:oh W0){X:List a8}(hsh:lB (Kz (Kw W0) X) p)(hZ:gQ fr W0 n s lg tm ids f tl b c Z)(hH:Hp W0 w (A++(Z++X))):Calls Tryz.prog 19 #[pt n,.agg (rD p)] w (iA fun u w'=>((s.sk=true\/qY p.sh=false)/\u=I (-1)/\∃Z',gQ fr W0 n s lg tm ids f tl b c Z'/\Hp W0 w' (A++(Z'++[])))\/(s.sk=false/\∃(x:oJ) (fv:Value) (PI:List (Nat×Rl)) (Z':List a8),qY p.sh=true/\u=I s.an.length/\x.p.sh=p.sh/\x.low=gZ p.sh eU/\WrD s.wr x.d/\gh [(fv,jj.aT s.an.length)] s {s with an:=s.an++[x]}/\gQ fr W0 n {s with an:=s.an++[x]} (lg++[(fv,jj.aT s.an.length)]) (tm++[(lg.length:Int)]) ids f (tl++PI) b (c+1) Z'/\Hp W0 w' (A++(Z'++[])))):=by
 obtain⟨m,L0,Zf,Z2,⟨b1,b2,b3,b4⟩,ZB,hlv,uf,hch,hN,aW,hXL⟩:=hZ.ay9 hH
 refine(NL p hfn hnn hll J J hwr w hT (hsh.mono (Le.zb hXL)) ZB hN aW).mono fun e w' hr=>iA.mono ?_ hr
 rintro u w' (⟨h1,rfl,Z3,Oy,rY⟩|⟨h1,x,fv,PI,L1,Z3,Zf',h2,rfl,h3,h4,h5,hL,hx,hC,auI,hbk,Oy,rY⟩)
 .refine .inl ⟨h1,rfl,?_⟩
  obtain⟨Zo,ho,hh⟩:=gQ.out (A:=A) (R:=[]) (fr:=fr) ⟨m,L0,Zf,⟨b1,b2,b3,b4⟩,ZB,hlv,uf,hch,Oy⟩ rY
  exact⟨Zo,ho,hh⟩
 obtain⟨Zo,ho,hh⟩:=gQ.out (A:=A) (R:=[]) (fr:=fr) (s:={s with an:=s.an++[x]}) (lg:=lg++[(fv,jj.aT s.an.length)]) (tm:=tm++[(lg.length:Int)]) (tl:=tl++PI) (b:=b) (c:=c+1) ⟨m,L1,Zf',⟨J,by simp only[cV,gk];omega,by simp only[cV,gk];omega,b4⟩,auI,UQ.snoc (fun y hy=>((hlv y hy).mono (Le.zb hL)).more) hx,uf.mono (Le.zb hL),fun x hx=>by rcases eP.1 hx with q|q;exact⟨(hch x q).1.Dy hL,(hch x q).2.mono (Le.zb hL)⟩;rw[fZ.1 q];exact⟨hC,trivial⟩,Oy⟩ rY
 exact .inr ⟨h1,x,fv,PI,Zo,h2,rfl,h3,h4,h5,hbk,ho,hh⟩
end
section
variable{W0 w:World}{n:Nat}{s:NP}{lg:List (Value×jj)}{tm:List Int}{ids:List Nat}{f:Ct}{tl:List (Nat×Rl)}{b c:Nat}{A R Z:List a8}
theorem SO(v:Int)(hZ:gQ fr W0 n s lg tm ids f tl b c Z){L:List a8}(hH:Hp W0 w L)(hs:∀x,x∈Z->x∈L):Calls Tryz.prog 23 #[pt n,I v] w (Pure (.agg (jg (if 0<=v/\v<s.ai.length then s.ai.getD v.toNat dy else dy))) w):=by
 obtain⟨m,L0,Zf,_,_,_,_,_,F,L1,hI,hL,rfl⟩:=hZ
 exact Ic v w (hH.acB (hs _ (tG ..))) (Sl.KV (hH.ok (uV sU 8 F.vv 37 s.ai) (hs _ az)))
end
section
variable{W0 w:World}{n:Nat}{s:NP}{lg:List (Value×jj)}{tm:List Int}{ids:List Nat}{f:Ct}{tl:List (Nat×Rl)}{b c:Nat}{A R Z:List a8}
theorem aBd(v:Int)(hZ:gQ fr W0 n s lg tm ids f tl b c Z){L:List a8}(hH:Hp W0 w L)(hs:∀x,x∈Z->x∈L):Calls Tryz.prog 21 #[pt n,I v] w (Pure (U (if 0<=v/\v<s.aX.length then s.aX.getD v.toNat 0 else 0)) w):=by
 obtain⟨m,L0,Zf,_,_,_,_,_,F,L1,hI,hL,rfl⟩:=hZ
 exact NG v w (hH.acB (hs _ (tG ..))) ((show Sl w F.vy 1 s.aX.length (s.aX.map U)from Sl.KV (hH.ok (jq U F.vy 35 s.aX) (hs _ az))))
end
section
variable{W0 w:World}{n:Nat}{s:NP}{lg:List (Value×jj)}{tm:List Int}{ids:List Nat}{f:Ct}{tl:List (Nat×Rl)}{b c:Nat}{A R Z:List a8}
theorem SP(hZ:gQ fr W0 n s lg tm ids f tl b c Z){L:List a8}(hH:Hp W0 w L)(hs:∀x,x∈Z->x∈L):Calls Tryz.prog 16 #[pt n] w (Pure (.tuple #[U s.wy,B s.sk]) w):=by
 obtain⟨m,L0,Zf,_,_,_,_,_,F,L1,hI,hL,rfl⟩:=hZ
 exact Ib w (hH.acB (hs _ (tG ..)))
end
section
variable{W0 w:World}{n:Nat}{s:NP}{lg:List (Value×jj)}{tm:List Int}{ids:List Nat}{f:Ct}{tl:List (Nat×Rl)}{b c:Nat}{A R Z:List a8}
theorem SQ(hZ:gQ fr W0 n s lg tm ids f tl b c Z){L:List a8}(hH:Hp W0 w L)(hs:∀x,x∈Z->x∈L):Calls Tryz.prog 24 #[pt n] w (Pure (I (tm.length:Int)) w):=by
 obtain⟨m,L0,Zf,_,_,_,_,_,F,L1,hI,hL,rfl⟩:=hZ
 exact Jl w (hH.acB (hs _ (tG ..))) ((show Sl w F.vm 1 tm.length (tm.map I)from Sl.KV (hH.ok (jq I F.vm 3 tm) (hs _ az))))
end
theorem zU{ids:List Nat}{f:Ct}{Zf:List a8}(p:lM)(x:Value)(hrs:iJ p=true)(hwr:WrF x ids)(hf:EC 0 f)(w:World)(hT:oh W0)(hs:Eu (Kw W0) p)(hZ:kA (AH fr) ids f [] Zf)(hH:Hp W0 w Zf):Calls Tryz.prog 12 #[.agg (TZ p),x] w (iA fun u w'=>∃(n:Nat) (s:NP) (lg:List (Value×jj)) (tm:List Int) (tl:List (Nat×Rl)) (Z:List a8) (c:Nat),u= .tuple #[pt n,B true]/\mR p s/\n5 s/\s.qs=[]/\s.sk=false/\s.wr=x/\(∀y∈s.an,WrD x y.d)/\c<=100/\tm.length=p.an.length+p.vars.length/\gQ fr W0 n s lg tm ids f tl 0 c Z/\Hp W0 w' Z):=by
 obtain⟨⟨hs1,hs2⟩,hsl,hsv⟩:=BX hrs
 have hsm:=aim hrs
 refine en func12 rfl rfl<|SR<|iu hH (v:= .agg _) rfl<|fun b3 w1 aW=>va (v:= .pointer none) rfl<|va (v:=B false) rfl<|aa<|SR<|V (run_move (show _=x from O))<|bV O (NK _ hwr.cells _) (aq call36 O)<| ?_
 rintro _ C7 ⟨n6,Zn7,rfl,h10,hn9⟩
 obtain⟨Z8,aus,cK⟩:=gQ.new (A:=[_]) (fr:=fr) hn9 hZ hf (Hp.Fj aW h10)
 simp only[fH,er]at cK
 refine va (v:=Pn _ _) rfl<|aa<|ah<|SR<|V (fA iD 0 O rh O)<|V (bZ (hs.an.sl.hp cK) kW O O (cK.cell (i:=0) O O))<|V (aA (hs.an.sl.hp cK) O kW O)<|aE (v:=I 0) rfl<|aa<|aC<|bj (G:=Int×(List oJ)×(List a8)) (fun⟨k,ls,Z1⟩ s' w'=>(Fr (4::5::(7::8::(rg 16 13 []))) _ s')/\(Hp W0 w' (_::Z1))/\(s' 16=I k)/\(0<=k)/\(k<=p.an.length)/\(MC p k.toNat ls)/\(∀y∈ls,WrD x y.d)/\(∃lg tm tl CZ,Z1=CZ++[]/\tm.length=k.toNat/\gQ fr W0 n6 (npL ls x) lg tm ids f tl 0 k.toNat CZ)) (fun⟨k,ls,Z1⟩=>(p.an.length-k).toNat) ((0,[],(Z8++[]))) ⟨Fr.refl _ _,cK,rfl,J,J,⟨az,fun x hx=>by cases hx⟩,(fun y hy=>by cases hy),⟨_,_,_,_,rfl,rfl,aus⟩⟩<| ?_
 rintro⟨k,ls,Z1⟩ YQ PO ⟨l6,cF,SS,h0,hk,hB,hwd,hS⟩
 obtain⟨Ak,lT,auJ,auK⟩:=l6.w4 2 6 14 15
 obtain⟨lg1,Ji,PI,CZ,rfl,ht1,J2⟩:=hS
 have hln:=hB.len J
 refine SR<|V (aL SS auK)<|aa<|ah<|aF O (fun yj=> ?_) (fun yj=> ?_)
 .refine ak<|ah<|aC<|SR<|aE SS<|V (ag (hs.an.sl.hp cF) kW D7 auJ SS J)<|V (dY (dv:=nj) sC (hs.an.sl.hp cF) wZ O O O J)<|oY cF (bf Vh)<|fun YU Sa dS=>aI rfl<|bu dS (i:=0) O (eC (c':=(LI _).toArray) O O O (T0 (hs.at J J)) (dS.blk (i:=0) O) O)<|fun S5 eN=>aa<|SR<|have hlm:=dc (d:=nj) h0 ‹k<_›;aE lT<|V (fA wZ 1 O Bh O)<|V (iI (sub:=Aw _) dL O O O (eN.blk (i:=0) O) O)<|bV O (aqt (p.an.getD k.toNat nj).Aa (hsm _ hlm).1 (hsm _ hlm).2 (by show ls.length<=1000;omega) hwr J J hT ((hs.at h0 ‹k<_›).mono (Le.z _ _)) (A:=[_,_]) (X:=[]) J2 eN) (aJ call19 O O)<| ?_
  rintro _ w37 (⟨hno,-⟩|⟨-,x26,aSE,aSF,Z29,aIB,rfl,aIC,aID,aIE,aSG,auL,h36⟩)
  .exact absurd hno (by rintro(q|q);cases q;rw[hsl _ hlm]at q;cases q)
  have vV:Hp _ w37 (_::_::(Z29++[])):=h36
  refine mI rfl<|V (jB O O)<|aa<|dh (bF ((fun h=>h (by show(ls.length:Int)=k;omega))))<|ak<|ax<|V (ay SS O J)<|mI rfl<|aa<| ?_
  refine⟨(k+1,ls++[x26],(Z29++[])),aZ,l6.u4.u4.u4.u1.u1,(vV.sub (sQ sR)),(aK I qe),J,J,?_,?_,?_⟩
  .exact hB.next h0 ‹k<_› aIB aIC aID
  ·(intro y hy;rcases eP.1 hy with q|q;exact hwd y q;rw[fZ.1 q];exact aIE)
  (rw[show(k+1).toNat=k.toNat+1 by omega];exact⟨_,_,_,_,rfl,(by rw[cV,gk,ht1]),auL⟩)
 refine a7 (id:=0) rfl<|ah<|SR<|V (fA iD 1 O xe Ak)<|V (bZ (hs.vars.sl.hp cF) og O O (cF.cell (i:=0) O O))<|V (aA (hs.vars.sl.hp cF) O og O)<|aE (v:=I 0) rfl<|aa<|aC<|have hkl:k.toNat=p.an.length:=J;?_
 rw[hkl]at J2 ht1
 refine bj (G:=Int×NP×(List a8)) (fun⟨j,s,Z2⟩ s' w'=>(Fr (4::5::(9::10::(rg 32 13 []))) _ s')/\(Hp W0 w' (_::Z2))/\(s' 32=I j)/\(0<=j)/\(j<=p.vars.length)/\(I6 p x j.toNat s)/\(∀y∈s.an,WrD x y.d)/\(∃lg tm tl VU,Z2=VU++[]/\tm.length=p.an.length+j.toNat/\gQ fr W0 n6 s lg tm ids f tl 0 (p.an.length+j.toNat) VU)) (fun⟨j,s,Z2⟩=>(p.vars.length-j).toNat) ((0,npL ls x,(CZ++[]))) ⟨Fr.refl _ _,cF,rfl,J,J,hB.fin h0 ‹¬k<_›,hwd,⟨_,_,_,_,rfl,ht1,J2⟩⟩ ?_
 rintro⟨j,s,Z2⟩ aSH w40 ⟨auM,n8,SU,j0,hj,hI,aBe,hS2⟩
 obtain⟨auN,auO⟩:=auM.w2 30 31
 have aqu:=auM.t1 6 lT
 obtain⟨lg2,tm2,tl2,VU,rfl,ht2,hZ2⟩:=hS2
 have NV:=hI.nv
 have aIF:=hI.len
 refine SR<|V (aL SU auO)<|aa<|ah<|aF O (fun h42=> ?_) (fun h42=> ?_)
 .refine ak<|ah<|aC<|SR<|aE SU<|V (ag (hs.vars.sl.hp n8) og KC auN SU J)<|V (dY (dv:=gD) xU (hs.vars.sl.hp n8) pc O O O J)<|oY n8 (bf Tryz.zeroValue63)<|fun b45 w43 xC=>aI rfl<|bu xC (i:=0) O (eC (c':=(Tc _).toArray) O O O Xl (xC.blk (i:=0) O) O)<|fun w48 HT=>aa<|SR<|have hvl:=(hsv _ (dc (d:=gD) j0 ‹j<_›)).2;?_
  rw[<-aIF]at hvl
  refine aE aqu<|V (fA pc 2 O bz O)<|lI bx HT 0 O O rfl<|bV O (abo (p.vars.getD j.toNat gD).aT hI.nw.ns.ok J J (A:=[_,_]) (R:=[]) hZ2 HT) (aJ call18 O O)<| ?_
  rintro _ w57 (⟨hno,-⟩|⟨-,-,rfl,aSJ,Z53,aSK,aIG,Jd⟩)
  .exact absurd ⟨hI.sk,hvl.1,hvl.2⟩ hno
  have vh:Hp _ w57 (_::_::(Z53++[])):=Jd
  refine mI rfl<|V (jB O O)<|aa<|dh (bF ((fun h=>h J)))<|ak<|ax<|V (ay SU O J)<|mI rfl<|aa<| ?_
  refine⟨(j+1,pz s (p.vars.getD j.toNat gD).aT (s.an.getD (p.vars.getD j.toNat gD).aT.toNat oK).low,(Z53++[])),aZ,auM.u4.u4.u4.u1.u1,(vh.sub (sQ sR)),(aK I qe),J,J,?_,?_,?_⟩
  .exact hI.next j0 ‹j<_› hs2 hvl
  .exact aBe
  (rw[show(j+1).toNat=j.toNat+1 by omega,<-s0];exact⟨_,_,_,_,rfl,(by rw[cV,gk,ht2]),aIG⟩)
 refine a7 (id:=2) rfl<|SR<|aE aqu<|va (v:=Pn _ _) rfl<|va (v:=B true) rfl<|aa<|aj<|avN O O O ⟨n6,s,_,_,_,_,p.an.length+j.toNat,rfl,hI.fin j0 hj ‹¬j<_›,hI.nw,hI.qs,hI.sk,hI.wr,aBe,J,(ht2.trans J),hZ2,by simpa using(n8.sub (sQ sR))⟩
theorem Cw{s:NP}{ids:List Nat}{f:Ct}{tl:List (Nat×Rl)}{b c:Nat}{Z:List a8}(x:ia)(i:Int)(hok:BS s)(ni:x.code.length<=1000)(hi:0<=i/\i<=1000)(hb:b<=70)(hc:c<=1000)(w:World)(hT:oh W0)(hx:IY (Kw W0) x)(hZ:gQ fr W0 n s lg tm ids f tl b c Z)(hH:Hp W0 w Z):Calls Tryz.prog 13 #[pt n,.agg (Ay x).toArray,I i] w (iA fun u w'=>∃(ok:Bool) (s':NP) (new:List (Value×jj)) (u9:List Int) (Z':List a8),u=B ok/\FQ s s' x i.toNat ok/\gh new s s'/\YF x.op ok lg tm u9/\gQ fr W0 n s' (lg++new) u9 ids f tl b (c+1) Z'/\Hp W0 w' Z'):=by
 refine en func13 rfl rfl<|have hH:=(show Hp W0 w (Z++[])by simpa using hH);SR<|iu hH (v:= .agg _) rfl<|fun b3 w1 aW=>va (v:=B false) rfl<|aa<|SR<|V (fA iv 0 O bz O)<|lI bx aW 0 O O rfl<|V (jB O O)<|mB rfl<|bN 10 O (fun h5=> ?_) (fun h5=> ?_)
 .refine aE (v:=B true) rfl<|aB rfl<|aa<|aj<|iG (v:=B true) O O ⟨true,s,[],tm,Z,rfl,⟨fun _=>⟨rfl,rfl⟩,fun q=>absurd q m6⟩,gh.nil s,YF.no m6,by rw[kV];exact gQ.more hZ (eG _) (Gx _),(by simpa using(aW.sub (sQ sR)))⟩
 refine aE (v:=Pn _ _) rfl<|V (fA iv 1 O bz O)<|lI bx aW 0 O O rfl<|V (fA iv 2 O Bi O)<|V (bZ (hx.code.sl.hp aW) iE O O (aW.cell (i:=0) O O))<|V (fA iv 3 O po O)<|V (iI (sub:=jd _) mY O O O (aW.blk (i:=0) O) (aae _))<|mI rfl<|V (jW bx Be O)<|V (E5 (a:=1#64) O O)<|bV O (abp x.aT x.cv x.code x.to _ hok ni hb hc hT (A:=[_]) (X:=[]) (hx.code.mono (Le.z _ _)) hZ aW) (ru call25 O O O O O)<| ?_
 rintro _ PR ⟨ok8,s9,aIH,aII,Z12,rfl,aBf,aIJ,atC,aIK,Om⟩
 have jy:Hp _ PR (_::(Z12++[])):=Om
 refine mB rfl<|aB rfl<|aa<|aj<|iG (v:=B ok8) O O ⟨ok8,s9,aIH,aII,Z12,rfl,⟨fun q=>absurd J q,fun _=>by rw[aEF hi]at aBf;exact aBf⟩,aIJ,YF.yes J atC,aIK,(by simpa using(jy.sub (sQ sR)))⟩
theorem mc(w:World)(hT:oh w):Calls Tryz.prog 11 #[] w (Pure (B true) w):=by
 have hwr:WrF .nilFunc []:= .inl O
 have hZ:=kA.nil (T:=AH [])
 have hf:=EC.zero
 obtain⟨-,hal⟩:=MB (aEH N_ N_ N_ N_ N_ N_ N_ N_)
 have ni:=aEI N_ N_ N_
 refine eH func11 rfl rfl fun hH=>SR<|va (v:=B false) rfl<|aa<|SR<|bV O (NK _ hwr.cells _) (aq call36 (show _=Value.nilFunc from O))<| ?_
 rintro _ Gk ⟨n3,Zn4,rfl,h7,hn6⟩
 obtain⟨Z5,hZ8,iB⟩:=gQ.new (A:=[]) (fr:=[]) hn6 hZ hf (by simpa using Hp.Fj hH h7)
 simp only[fH,er]at iB
 refine va (v:=Pn _ _) rfl<|aa<|SR<|aE (v:=Pn _ _) rfl<|yd 2 2 iB (ct dP O O (sz:=1) (vs:=[.string ⟨#[108,111]⟩,.string ⟨#[104,105]⟩]) O O aD aD O O)<|fun MY ID cK=>have cF:Hp _ ID (([a8.blk MY (.cells (Ir vJ).toArray 9 (0,0))]++(Z5++[]))):=Hp.JI (Z:=[a8.blk MY (.cells (Ir vJ).toArray 9 (0,0))]) (L:=[]) (L':=(Z5++[])) cK;have aIL:pw (Kz (Kw w) [a8.blk MY (.cells (Ir vJ).toArray 9 (0,0))]) (.slice (some ⟨MY,0,none⟩) 2 2) 1 2 (Ir vJ):=Fk (tG ..) O kQ;have cG:=Hp.lN (A:=[]) (B:=[a8.blk MY (.cells (Ir vJ).toArray 9 (0,0))]) (R:=Z5) cF;V (dO (vs:=[(0,I 1),(1,.slice (some ⟨MY,0,none⟩) 2 2)]) O (adb 1 MY 2 vJ))<|yd 1 1 cG (yX dG O O O (l:=[_]) O aD aD O)<|fun YU Sa dS=>have cL:Hp _ Sa (([a8.blk YU (.cells ([(⟨1,.slice (some ⟨MY,0,none⟩) 2 2,vJ,Rl.none⟩:pU)].flatMap rC).toArray 88 (0,0))]++(Z5++([a8.blk MY (.cells (Ir vJ).toArray 9 (0,0))]++[])))):=Hp.JI (Z:=[a8.blk YU (.cells ([(⟨1,.slice (some ⟨MY,0,none⟩) 2 2,vJ,Rl.none⟩:pU)].flatMap rC).toArray 88 (0,0))]) (L:=[]) (L':=(Z5++([a8.blk MY (.cells (Ir vJ).toArray 9 (0,0))]++[]))) dS;have aIM:pw (Kz (Kw w) [a8.blk YU (.cells ([(⟨1,.slice (some ⟨MY,0,none⟩) 2 2,vJ,Rl.none⟩:pU)].flatMap rC).toArray 88 (0,0))]) (.slice (some ⟨YU,0,none⟩) 1 1) 67 1 ([(⟨1,.slice (some ⟨MY,0,none⟩) 2 2,vJ,Rl.none⟩:pU)].flatMap rC):=Fk (tG ..) (fh fJ _) kQ;have dm:=Hp.lN (A:=[]) (B:=[a8.blk YU (.cells ([(⟨1,.slice (some ⟨MY,0,none⟩) 2 2,vJ,Rl.none⟩:pU)].flatMap rC).toArray 88 (0,0))]) (R:=Z5) cL;V (dO (vs:=[(1,.slice (some ⟨YU,0,none⟩) 1 1)]) O (YL O))<|have hsh:lB (Kz (Kw w) ([a8.blk YU (.cells ([(⟨1,.slice (some ⟨MY,0,none⟩) 2 2,vJ,Rl.none⟩:pU)].flatMap rC).toArray 88 (0,0))]++([a8.blk MY (.cells (Ir vJ).toArray 9 (0,0))]++[]))) (⟨false,.slice (some ⟨YU,0,none⟩) 1 1,[(⟨1,.slice (some ⟨MY,0,none⟩) 2 2,vJ,Rl.none⟩:pU)]⟩:kX):=⟨(aIM.mono (Le.zz (fun x hx=>(dx _ hx)))),fun x hx=>by rw[fZ.1 hx];exact⟨(aIL.mono (Le.zz (fun x hx=>(bt _ (dx _ hx)))))⟩⟩;bV O (aqt (⟨false,.slice (some ⟨YU,0,none⟩) 1 1,[(⟨1,.slice (some ⟨MY,0,none⟩) 2 2,vJ,Rl.none⟩:pU)]⟩:kX) (show 1<=1000 by decide) (fun f hf=>by rw[fZ.1 hf];exact(by decide:vJ.length<=1000)) aD hwr J J hT hsh (A:=[]) (X:=([a8.blk YU (.cells ([(⟨1,.slice (some ⟨MY,0,none⟩) 2 2,vJ,Rl.none⟩:pU)].flatMap rC).toArray 88 (0,0))]++([a8.blk MY (.cells (Ir vJ).toArray 9 (0,0))]++[]))) hZ8 dm) (aJ call19 O O)<| ?_
 rintro _ w36 (⟨hno,-⟩|⟨-,x25,aSO,aSP,Z28,aIN,rfl,aIO,aIP,atX,aSR,atY,C9⟩)
 .exact absurd hno (by rintro(q|q);cases q;exact absurd (q.symm.trans aEJ) aD)
 have vP:Hp _ w36 ((Z28++[])):=C9
 refine V (run_assign (show _=I 0 from O))<|aa<|SR<|have hB1:MC (qz N_ N_ N_ N_) 1 [x25]:=MC.next (p:=(qz N_ N_ N_ N_)) (k:=0) (ls:=[]) ⟨rfl,fun x hx=>by cases hx⟩ J aD aIN aIO aIP;have hI0:=MC.fin (p:=(qz N_ N_ N_ N_)) (k:=1) (x:= .nilFunc) hB1 J aD;aE (v:=Pn _ _) rfl<|mI rfl<|bV O (abo 0 hI0.nw.ns.ok J J (A:=[]) (R:=[]) atY vP) (aJ call18 O O)<| ?_
 rintro _ w45 (⟨hno,-⟩|⟨-,-,rfl,aST,Z41,aSV,aIQ,h44⟩)
 .exact absurd ⟨hI0.sk,aD,(show(0:Int)<((1:Nat):Int)by decide)⟩ hno
 have rT:Hp _ w45 ((Z41++[])):=h44
 have hI1:=I6.next (j:=0) hI0 J aD aD ⟨aD,(show(0:Int)<((1:Nat):Int)by decide)⟩
 refine aE (v:=Pn _ _) rfl<|mI rfl<|bV O (abo 0 hI1.nw.ns.ok J J (A:=[]) (R:=[]) aIQ rT) (aJ call18 O O)<| ?_
 rintro _ w54 (⟨hno,-⟩|⟨-,-,rfl,aSW,Z50,aSX,aIR,h53⟩)
 .exact absurd ⟨hI1.sk,aD,(show(0:Int)<((1:Nat):Int)by decide)⟩ hno
 have iY:Hp _ w54 ((Z50++[])):=h53
 refine V (run_assign (show _=I 0 from O))<|V (run_assign (show _=I 1 from O))<|aa<|SR<|have hI2:=I6.next (j:=1) hI1 J aD aD ⟨aD,(show(0:Int)<((1:Nat):Int)by decide)⟩;have hL0:=BY.start (l:=(Af N_ N_ N_)) (I6.fin (j:=2) hI2 J aD aD) hI2.nw hI2.qs;aE (v:=Pn _ _) rfl<|mI rfl<|V (dO (vs:=[(0,U 1#64)]) O (PM _))<|V (dO (vs:=[(0,I 2),(2,.agg (jg wG))]) O (Zl 2 wG))<|yd 1 1 iY (nh gK iE O O O (l:=[_]) O aD aD O)<|fun b58 w56 Zz=>have sS:Hp _ w56 (([a8.blk b58 (.cells ([⟨2,0,wG⟩].flatMap kg).toArray 90 (0,0))]++(Z50++[]))):=Hp.JI (Z:=[a8.blk b58 (.cells ([⟨2,0,wG⟩].flatMap kg).toArray 90 (0,0))]) (L:=[]) (L':=(Z50++[])) Zz;have aIS:pw (Kz (Kw w) [a8.blk b58 (.cells ([⟨2,0,wG⟩].flatMap kg).toArray 90 (0,0))]) (.slice (some ⟨b58,0,none⟩) 1 1) 10 1 ([⟨2,0,wG⟩].flatMap kg):=Fk (tG ..) (fh gK _) kQ;have vi:=Hp.lN (A:=[]) (B:=[a8.blk b58 (.cells ([⟨2,0,wG⟩].flatMap kg).toArray 90 (0,0))]) (R:=Z50) sS;mI rfl<|V (dO (vs:=[(0,I 0)]) O (Cr 0))<|bV O (abp 0 _ [⟨2,0,wG⟩] ⟨0,dy⟩ 1#64 hI2.nw.ns.ok aD J J hT (A:=[]) (X:=([a8.blk b58 (.cells ([⟨2,0,wG⟩].flatMap kg).toArray 90 (0,0))]++[])) (aIS.mono (Le.zz (fun x hx=>(dx _ hx)))) aIR vi) (ru call25 O O O O (show _=U 1#64 from O))<| ?_
 rintro _ w74 ⟨aIT,s65,aS0,aS1,Z68,rfl,aIU,aS2,aS3,an5,h73⟩
 have F7:Hp _ w74 ((Z68++[])):=h73
 refine aB rfl<|aa<|SR<|have hX0:FQ _ s65 ((Af N_ N_ N_).getD 0 gz) 0 aIT:=⟨fun q=>absurd O q,fun _=>aIU⟩;?_
 obtain⟨aIV,hL1,aIW,-⟩:=BY.add hL0 aD aD hal ni hI2.sk hX0
 subst aIV
 refine aE (v:=Pn _ _) rfl<|mI rfl<|mI rfl<|V (dO (vs:=[(0,I 1),(1,I 0)]) O (Ny 1 0))<|yd 1 1 F7 (nh gK iE O O O (l:=[_]) O aD aD O)<|fun b79 w77 Jf=>have tA:Hp _ w77 (([a8.blk b79 (.cells ([⟨1,0,dy⟩].flatMap kg).toArray 90 (0,0))]++(Z68++[]))):=Hp.JI (Z:=[a8.blk b79 (.cells ([⟨1,0,dy⟩].flatMap kg).toArray 90 (0,0))]) (L:=[]) (L':=(Z68++[])) Jf;have aIX:pw (Kz (Kw w) [a8.blk b79 (.cells ([⟨1,0,dy⟩].flatMap kg).toArray 90 (0,0))]) (.slice (some ⟨b79,0,none⟩) 1 1) 10 1 ([⟨1,0,dy⟩].flatMap kg):=Fk (tG ..) (fh gK _) kQ;have tC:=Hp.lN (A:=[]) (B:=[a8.blk b79 (.cells ([⟨1,0,dy⟩].flatMap kg).toArray 90 (0,0))]) (R:=Z68) tA;mI rfl<|V (dO (vs:=[(0,I 1)]) O (Cr 1))<|bV O (abp 0 _ [⟨1,0,dy⟩] ⟨1,dy⟩ 2#64 hL1.nw.ns.ok aD J J hT (A:=[]) (X:=([a8.blk b79 (.cells ([⟨1,0,dy⟩].flatMap kg).toArray 90 (0,0))]++[])) (aIX.mono (Le.zz (fun x hx=>(dx _ hx)))) an5 tC) (ru call25 O O O O (show _=U 2#64 from O))<| ?_
 rintro _ w95 ⟨aIY,s86,aS7,aS8,Z89,rfl,aIZ,aTa,aTb,aI0,h94⟩
 have vx:Hp _ w95 ((Z89++[])):=h94
 refine aB rfl<|aa<|SR<|have hX1:FQ s65 s86 ((Af N_ N_ N_).getD 1 gz) 1 aIY:=⟨fun q=>absurd O q,fun _=>aIZ⟩;?_
 obtain⟨Zw,hL2,aI1,-⟩:=BY.add hL1 aD aD hal ni aIW hX1
 subst Zw
 refine aE (v:=Pn _ _) rfl<|bV O (vD hT hL2.nw J J (A:=[]) (R:=[]) aI0 vx) (aq Ea O)<| ?_
 rintro _ aI2 ⟨aBh,adO,aME,f103,aTe,aTf,aog,rfl,aBi,aMF,aMG,aMH,aMI,aki,aub⟩
 have DO:Hp _ aI2 ((aog++[])):=aub
 have hP1:=BY.set hL2 aD (aBi.go aI1)
 have aI3:aBh=true:=hP1.is.2 asD
 subst aI3
 have Pd:adO.ai.length=2:=hP1.net.np.nv
 have hy2:adO.aX.length=2:=hP1.net.nw.ns.ok.S2.trans Pd
 have hv1:qL (adO.ai.getD 1 dy) wG:=amX (hP1.low O) (hP1.all O)
 have hy1:adO.aX.getD 1 0&&&3#64=3#64:=axn (x:=vQ adO.ai) hv1 (hP1.why O 1 aD)
 refine mB rfl<|cC O rfl<|aE (v:=Pn _ _) rfl<|mI rfl<|aG O DO (SO _ aki DO (fun x hx=>(dx _ hx))) (aJ call23 O O)<|fun aoa yp=>V (dO (vs:=[(0,U 1#64)]) O (PM _))<|V (Hl B3 O O)<|mB rfl<|mB rfl<|cC O (bT ((by rw[(aQ (show(0:Int)<=1/\(1:Int)<_ from⟨J,J⟩))];exact hv1)))<|aE (v:=Pn _ _) rfl<|mI rfl<|aG O yp (aBd _ aki yp (fun x hx=>(dx _ hx))) (aJ call21 O O)<|fun aTh aBj=>V (mq O (b:=3#64) O)<|V (js O (b:=3#64) O)<|mB rfl<|aB rfl<|aa<|SR<|aE (v:=Pn _ _) rfl<|mI rfl<|mI rfl<|V (dO (vs:=[(0,I 1),(1,I 1)]) O (Ny 1 1))<|yd 1 1 aBj (nh gK iE O O O (l:=[_]) O aD aD O)<|fun adP aA5 q7=>have aBk:Hp _ aA5 (([a8.blk adP (.cells ([⟨1,1,dy⟩].flatMap kg).toArray 90 (0,0))]++(aog++[]))):=Hp.JI (Z:=[a8.blk adP (.cells ([⟨1,1,dy⟩].flatMap kg).toArray 90 (0,0))]) (L:=[]) (L':=(aog++[])) q7;have akf:pw (Kz (Kw w) [a8.blk adP (.cells ([⟨1,1,dy⟩].flatMap kg).toArray 90 (0,0))]) (.slice (some ⟨adP,0,none⟩) 1 1) 10 1 ([⟨1,1,dy⟩].flatMap kg):=Fk (tG ..) (fh gK _) kQ;have akg:=Hp.lN (A:=[]) (B:=[a8.blk adP (.cells ([⟨1,1,dy⟩].flatMap kg).toArray 90 (0,0))]) (R:=aog) aBk;V (dO (vs:=[(0,I (-1))]) O (Cr (-1)))<|bV O (abp 0 _ [⟨1,1,dy⟩] ⟨-1,dy⟩ 4#64 hP1.net.nw.ns.ok aD J J hT (A:=[]) (X:=([a8.blk adP (.cells ([⟨1,1,dy⟩].flatMap kg).toArray 90 (0,0))]++[])) (akf.mono (Le.zz (fun x hx=>(dx _ hx)))) aki akg) (ru call25 O O O O (show _=U 4#64 from O))<| ?_
 rintro _ an7 ⟨aBl,aI5,aMJ,aMK,aI6,rfl,aBm,aML,aMM,aBn,aI7⟩
 have o4:Hp _ an7 ((aI6++[])):=aI7
 refine aB rfl<|aa<|SR<|have hX2:FQ adO aI5 ((Af N_ N_ N_).getD 2 gz) 2 aBl:=⟨fun q=>absurd O q,fun _=>aBm⟩;?_
 obtain⟨Vr,hL3,aI8,-⟩:=BY.add hP1.net aD aD hal ni hP1.sk hX2
 subst Vr
 refine aE (v:=Pn _ _) rfl<|bV O (vD hT hL3.nw J J (A:=[]) (R:=[]) aBn o4) (aq Ea O)<| ?_
 rintro _ aI9 ⟨aqv,aTj,aMO,f149,aTk,aTl,aJa,rfl,aBo,aMP,aMQ,aMR,aMS,aBp,aJb⟩
 have aqw:Hp _ aI9 ((aJa++[])):=aJb
 refine aB rfl<|aa<|SR<|have hP2:=BY.set hL3 aD (aBo.go aI8);have aJd:aqv=false:=(by cases h:aqv;rfl;exact absurd (hP2.is.1 h) axo);?_
 subst aJd
 refine aE (v:=Pn _ _) rfl<|aG O aqw (SP aBp aqw (fun x hx=>(dx _ hx))) (aq call16 O)<|fun aIw abn=> ?_
 refine V (run_move bG) ?_
 refine V (bA O (v:=U _) O)<|V (bA O (v:=B _) O)<|aU rfl<|aB rfl<|aa<|SR<|mB rfl<|mB rfl<|cC O rfl<|mB rfl<|mB rfl<|mB rfl<|cC O rfl<|mB rfl<|mB rfl<|mB rfl<|cC O (bT ((by rw[(aQ (show(0:Int)<=1/\(1:Int)<_ from⟨J,J⟩))];exact hy1)))<|mB rfl<|mB rfl<|mB rfl<|cC O rfl<|mB rfl<|V (bO O)<|mB rfl<|mB rfl<|cC O rfl<|mB rfl<|mB rfl<|mB rfl<|cC O (bR (c:=true) (hP2.sk))<|mU rfl<|V (mq O (b:=7#64) O)<|V (js O (b:=7#64) O)<|mB rfl<|aB rfl<|aa<|aj<|oB O ?_ abn
 exact gB (amY (hP2.no O))
theorem zV(p:pM)(w:World)(hp:xW (Kw w) p):Calls Tryz.prog 10 #[.agg (Iv p).toArray] w (Pure (B (nn p)) w):=by
 have HR:=hp.bE.small
 unfold maxLen at HR
 refine eH func10 rfl rfl fun hH=>SR<|iu hH (v:= .agg _) rfl<|fun b3 w1 aW=>va (v:=B false) rfl<|aa<|ah<|SR<|V (fA kN 0 O GF O)<|V (iI (sub:=C3 _) iD O O O (aW.blk (i:=0) O) (Fv _))<|aG O aW (zM _ _ (hp.s.mono aW.kw)) (aq call34 O)<|fun w4 bU=>V (bO O)<|mB rfl<|gm 8 O (fun h8=> ?_) (fun h8=> ?_)
 .refine aE (v:=B true) rfl<|aa<|cB rfl<|SR<|va (v:=B false) rfl<|aa<|aj<|oB O ?_ bU
  (rw[agA (nt ‹(!iJ p.s)=true›)];done)
 refine V (fA kN 2 O rj O)<|V (bZ (hp.bE.sl.hp bU) lj O O (bU.cell (i:=0) O O))<|V (aA (hp.bE.sl.hp bU) O lj O)<|V (dz O O)<|mB rfl<|aa<|aF O (fun h10=> ?_) (fun h10=> ?_)
 .refine SR<|va (v:=B false) rfl<|aa<|aj<|oB O ?_ bU
  (rw[agB J];done)
 refine ak<|ah<|SR<|va (v:=I 0) rfl<|aa<|aC<|have hsz:¬64<p.bE.length:=J;bj (G:=Int) (fun k s' w'=>(Fr (2::3::(rg 14 16 [])) _ s')/\(Hp w w' _)/\(s' 3=I k)/\(0<=k)/\(k<=p.bE.length)/\(∀j:Int,0<=j->j<k->j5 p.s (p.bE.getD j.toNat gz)=true)) (fun k=>(p.bE.length-k).toNat) (0) ⟨Fr.refl _ _,bU,rfl,J,J,fun j a b=>absurd b J⟩<| ?_
 rintro k aEQ ID ⟨aiN,dF,akj,h0,hk,hg⟩
 have akk:=aiN.w1 1
 refine ah<|SR<|aE akj<|V (fA kN 2 O rj akk)<|V (bZ (hp.bE.sl.hp dF) lj O O (dF.cell (i:=0) O O))<|V (aA (hp.bE.sl.hp dF) O lj O)<|V (aL O O)<|aa<|aF O (fun Vn=> ?_) (fun Vn=> ?_)
 .refine ak<|ah<|aC<|ah<|eF aM dF<|fun PO iX=>have ZC:=iX;AQ 0 O ZC (fA kN 0 O GF akk)<|AT 1 O ZC (fun w hS=>iI (sub:=C3 _) iD O O O (hS.blk (i:=0) O) (Fv _))<|AQ 2 O ZC (fA kN 2 O rj akk)<|AT 3 O ZC (fun w hS=>bZ (hp.bE.sl.hp hS) lj O O (hS.cell (i:=0) O O))<|AQ 4 O ZC (run_move akj)<|AT 5 O ZC (fun w hS=>ag (hp.bE.sl.hp hS) lj D8 O O J)<|AT 6 O ZC (fun w hS=>dY (dv:=gz) qv (hp.bE.sl.hp hS) iv O O O J)<|A1 7<|cJ O aH O iX sR (zO _ _ _ (hp.s.mono iX.kw) ((hp.at J J).mono iX.kw)) (aJ call35 O O)<|fun JZ dU=>AQ 8 O dU (bO O)<|AD<|bY O (fun NY=> ?_) (fun NY=> ?_)
  .refine SR<|va (v:=B false) rfl<|aa<|aj<|oB O ?_ dU
   (rw[agC h0 ‹k<_› (nt ‹(!j5 p.s _)=true›)];done)
  refine ak<|ax<|aE akj<|V (ay O O J)<|aI rfl<|aa<| ?_
  refine⟨k+1,aZ,aiN.u4.u4.u4.u4.u1,dU,(aK I aN),J,J,?_⟩
  exact fun j u v=>if e:j=k then e▸nf ‹(!j5 _ _)=false›else hg j u J
 refine a7 (id:=0) rfl<|SR<|va (v:=B true) rfl<|aa<|aj<|oB O ?_ dF
 (rw[agD (nf ‹(!iJ p.s)=false›) J ‹¬k<_› hg];done)
theorem A4(x:ia)(w:World)(hx:IY (Kw w) x):Calls Tryz.prog 33 #[.agg (Ay x).toArray] w (Pure (B (wA x)) w):=by
 have HR:=hx.code.small
 have N8:=hx.a.fields.small
 have hm3:=hx.b.fields.small
 unfold maxLen at HR N8 hm3
 refine eH func33 rfl rfl fun hH=>SR<|iu hH (v:= .agg _) rfl<|fun b3 w1 aW=>va (v:=B false) rfl<|aa<|ah<|SR<|V (fA iv 2 O Bi O)<|V (bZ (hx.code.sl.hp aW) iE O O (aW.cell (i:=0) O O))<|V (aA (hx.code.sl.hp aW) O iE O)<|V (dz O O)<|mB rfl<|bN 9 O (fun h5=> ?_) (fun h5=> ?_)
 .refine aE (v:=B true) rfl<|mB rfl<|cC O rfl<|aE (v:=B true) rfl<|mB rfl<|cC O rfl<|aE (v:=B true) rfl<|aa<|cB rfl<|SR<|va (v:=B true) rfl<|aa<|aj<|oB O ?_ aW
  exact(CP J).symm
 refine V (fA iv 12 O GD O)<|V (fA pe 0 O ux O)<|V (bZ (hx.a.fields.sl.hp aW) mo O O (aW.cell (i:=0) O O))<|V (aA (hx.a.fields.sl.hp aW) O mo O)<|V (dz O O)<|mB rfl<|mB rfl<|bN 16 O (fun h7=> ?_) (fun h7=> ?_)
 .refine aE (v:=B true) rfl<|mB rfl<|cC O rfl<|aE (v:=B true) rfl<|aa<|cB rfl<|SR<|va (v:=B true) rfl<|aa<|aj<|oB O ?_ aW
  exact(CP J).symm
 refine V (fA iv 14 O GD O)<|V (fA pe 0 O ux O)<|V (bZ (hx.b.fields.sl.hp aW) mo O O (aW.cell (i:=0) O O))<|V (aA (hx.b.fields.sl.hp aW) O mo O)<|V (dz O O)<|mB rfl<|mB rfl<|bN 23 O (fun h9=> ?_) (fun h9=> ?_)
 .refine aE (v:=B true) rfl<|aa<|cB rfl<|SR<|va (v:=B true) rfl<|aa<|aj<|oB O ?_ aW
  exact(CP J).symm
 refine V (fA iv 17 O jT O)<|V (au gS O O (aW.cell (i:=0) O (v:= .string _) O))<|V (kR O gS O)<|V (dz O O)<|mB rfl<|aa<|aF O (fun h11=> ?_) (fun h11=> ?_)
 .refine SR<|va (v:=B true) rfl<|aa<|aj<|oB O ?_ aW
  exact(CP J).symm
 refine ak<|ah<|ah<|eF aM aW<|fun B7 cm=>have ZD:=cm;AQ 1 O ZD (fA iv 12 O GD O)<|AQ 2 O ZD (fA pe 0 O ux O)<|AT 3 O ZD (fun w hS=>bZ (hx.a.fields.sl.hp hS) mo O O (hS.cell (i:=0) O O))<|AQ 5 O ZD (fA iv 14 O GD O)<|AQ 6 O ZD (fA pe 0 O ux O)<|AT 7 O ZD (fun w hS=>bZ (hx.b.fields.sl.hp hS) mo O O (hS.cell (i:=0) O O))<|AQ 10 O ZD (mV (I 0) O)<|A1 0<|cY O aH O cm sR (f:=fun b=> .slice (some ⟨b,0,none⟩) 0 0) (Jz mo Gy)<|fun b16 PO iX=> ?_
 (try simp only[oX]at iX)
 have dU:=iX.Ei 0 10 O aD
 refine A1 4<|lA O aH O dU (j:=0) O (fun _=>(sQ sR)) (hx.a.fields.sl.hp dU) O O mo O O (size:=10) (bytes:=88) O O O aD (LZ _) (by show(0+_)*_<=_;omega) (by show 0+_<=_;simp only[maxLen];omega)<|fun v20 PR jy=>A1 8<|lA O aH O jy (j:=0) O (fun _=>(sQ sR)) (hx.b.fields.sl.hp jy) O O mo O O (size:=10) (bytes:=88) O O O aD (LZ _) (by show(_+_)*_<=_;omega) (by show _+_<=_;simp only[maxLen];omega)<|fun v23 Og dm=>A1 9<|cf O aH O dm (sQ sR) (aA (dm.sl (i:=0) O) O mo O)<|AD<|aC<|have hap:(x.a.fields++x.b.fields).length=x.a.fields.length+x.b.fields.length:=cV;?_
 simp only[fg,er,<-DT,<-cV]at dm
 refine bj (G:=Int) (fun k s' w'=>(Fr (2::(4::(rg 39 9 []))) _ s')/\(Hp w w' _)/\(s' 39=I k)/\(0<=k)/\(k<=(x.a.fields++x.b.fields).length)/\(∀j:Int,0<=j->j<k->decide (40<((x.a.fields++x.b.fields).getD j.toNat mJ).name.size)=false)) (fun k=>((x.a.fields++x.b.fields).length-k).toNat) (0) ⟨Fr.refl _ _,dm,rfl,J,J,fun j a b=>absurd b J⟩ ?_
 rintro k aEZ Vv ⟨ai3,kB,ZE,h0,hk,hg⟩
 obtain⟨auP,auQ⟩:=ai3.w2 37 38
 refine SR<|V (aL ZE auQ)<|aa<|ah<|aF O (fun h28=> ?_) (fun h28=> ?_)
 .refine ak<|ah<|aC<|SR<|V (ag (kB.sl (i:=0) O) mo Gy auP ZE J)<|V (dY (dv:=mJ) rG (kB.sl (i:=0) O) Gv O O O J)<|oY kB (bf YN)<|fun b31 w29 jx=>bu jx (i:=0) O (eC (c':=(tj _).toArray) O O O (LR _) (jx.blk (i:=0) O) O)<|fun w32 jN=>aa<|SR<|V (fA Gv 0 O jT O)<|V (au gS O O (jN.cell (i:=0) O (v:= .string _) O))<|V (kR O gS O)<|V (dz O O)<|aa<|aF O (fun C9=> ?_) (fun C9=> ?_)
  .refine SR<|va (v:=B true) rfl<|aa<|aj<|oB O ?_ jN
   exact(acs O h0 J J).symm
  refine ak<|ax<|V (ay ZE O J)<|mI rfl<|aa<| ?_
  refine⟨k+1,aZ,ai3.u4.u4.u1.u1,(jN.sub (sQ sR)),(aK I aN),J,J,?_⟩
  exact fun j u v=>if e:j=k then e▸gF (by omega)else hg j u J
 refine a7 (id:=0) rfl<|SR<|va (v:=B false) rfl<|aa<|aj<|oB O ?_ kB
 exact(al0 O J J hg).symm
theorem Cx(p:pM)(w:World)(hp:xW (Kw w) p):Calls Tryz.prog 9 #[.agg (Iv p).toArray] w (Pure (B (N4 p)) w):=by
 have HR:=hp.bE.small
 unfold maxLen at HR
 refine eH func9 rfl rfl fun hH=>SR<|iu hH (v:= .agg _) rfl<|fun b3 w1 aW=>va (v:=B false) rfl<|aa<|ah<|SR<|V (fA kN 0 O GF O)<|V (iI (sub:=C3 _) iD O O O (aW.blk (i:=0) O) (Fv _))<|aG O aW (Cf _ _ (hp.s.mono aW.kw)) (aq call32 O)<|fun w4 bU=>mB rfl<|gm 8 O (fun h7=> ?_) (fun h7=> ?_)
 .refine aE (v:=B true) rfl<|aa<|cB rfl<|SR<|va (v:=B true) rfl<|aa<|aj<|oB O ?_ bU
  exact(Pc (.inl aR)).symm
 refine V (fA kN 2 O rj O)<|V (bZ (hp.bE.sl.hp bU) lj O O (bU.cell (i:=0) O O))<|V (aA (hp.bE.sl.hp bU) O lj O)<|V (dz O O)<|mB rfl<|aa<|aF O (fun h9=> ?_) (fun h9=> ?_)
 .refine SR<|va (v:=B true) rfl<|aa<|aj<|oB O ?_ bU
  exact(Pc (.inr J)).symm
 refine ak<|ah<|SR<|V (fA kN 2 O rj O)<|V (bZ (hp.bE.sl.hp bU) lj O O (bU.cell (i:=0) O O))<|V (aA (hp.bE.sl.hp bU) O lj O)<|aE (v:=I 0) rfl<|aa<|aC<|bj (G:=Int) (fun k s' w'=>(Fr (2::(4::(rg 17 7 []))) _ s')/\(Hp w w' _)/\(s' 17=I k)/\(0<=k)/\(k<=p.bE.length)/\(∀j:Int,0<=j->j<k->wA (p.bE.getD j.toNat gz)=false)) (fun k=>(p.bE.length-k).toNat) (0) ⟨Fr.refl _ _,bU,rfl,J,J,fun j a b=>absurd b J⟩<| ?_
 rintro k Y2 Gk ⟨rS,bW,ZF,h0,hk,hg⟩
 obtain⟨auR,auS⟩:=rS.w2 15 16
 refine SR<|V (aL ZF auS)<|aa<|ah<|aF O (fun h12=> ?_) (fun h12=> ?_)
 .refine ak<|ah<|aC<|SR<|V (ag (hp.bE.sl.hp bW) lj D8 auR ZF J)<|V (dY (dv:=gz) qv (hp.bE.sl.hp bW) iv O O O J)<|oY bW (bf aiK)<|fun b15 C7 cF=>bu cF (i:=0) O (eC (c':=(Ay _).toArray) O O O (agt (hp.at J J)) (cF.blk (i:=0) O) O)<|fun JZ dU=>aa<|SR<|V (cN (cs:=Ay _) iv O O O (bp (dU.blk (i:=0) O)))<|aG O dU (A4 _ _ ((hp.at J J).mono dU.kw)) (aq call33 O)<|fun PR jy=>aa<|bY O (fun Sb=> ?_) (fun Sb=> ?_)
  .refine SR<|va (v:=B true) rfl<|aa<|aj<|oB O ?_ jy
   exact(acu h0 ‹k<_› aR).symm
  refine ak<|ax<|V (ay ZF O J)<|mI rfl<|aa<| ?_
  refine⟨k+1,aZ,rS.u4.u4,(jy.sub (sQ sR)),(aK I aN),J,J,?_⟩
  exact fun j u v=>if e:j=k then e▸‹wA _=false›else hg j u J
 refine a7 (id:=0) rfl<|SR<|va (v:=B false) rfl<|aa<|aj<|oB O ?_ bW
 exact(agM aR J ‹¬k<_› hg).symm
section
variable{W0 w:World}{n:Nat}{s:NP}{lg:List (Value×jj)}{tm:List Int}{ids:List Nat}{f:Ct}{tl:List (Nat×Rl)}{b c:Nat}{A R Z fr:List a8}
theorem V5(x:ia)(i:Int)(hok:BS s)(ni:x.code.length<=1000)(hi:0<=i/\i<=1000)(hb:b<=70)(hc:c<=1000)(hT:oh W0)(hx:IY (Kw W0) x)(hZ:gQ fr W0 n s lg tm ids f tl b c Z)(hH:Hp W0 w (A++(Z++R))):Calls Tryz.prog 13 #[pt n,.agg (Ay x).toArray,I i] w (iA fun u w'=>∃(ok:Bool) (s':NP) (new:List (Value×jj)) (u9:List Int) (Z':List a8),u=B ok/\FQ s s' x i.toNat ok/\gh new s s'/\YF x.op ok lg tm u9/\gQ fr W0 n s' (lg++new) u9 ids f tl b (c+1) Z'/\Hp W0 w' (A++(Z'++R))):=by
 obtain⟨Z2,hM,aW⟩:=hZ.anJ hH
 refine(Cw x i hok ni hi hb hc w hT hx hM aW).mono fun e w' hr=>iA.mono ?_ hr
 rintro u w' ⟨ok,s',new,u9,Z3,rfl,h1,h2,h3,h4,h5⟩
 obtain⟨Zo,ho,hh⟩:=gQ.out h4 h5
 exact⟨ok,s',new,u9,Zo,rfl,h1,h2,h3,ho,hh⟩
end
section
variable{W0 w:World}{n:Nat}{s:NP}{lg:List (Value×jj)}{tm:List Int}{ids:List Nat}{f:Ct}{tl:List (Nat×Rl)}{b c:Nat}{A R Z fr:List a8}
theorem V6(p:lM)(hrs:iJ p=true)(hT:oh W0)(hs:Eu (Kw W0) p)(hH:Hp W0 w A):Calls Tryz.prog 12 #[.agg (TZ p),.nilFunc] w (iA fun u w'=>∃(n:Nat) (s:NP) (lg:List (Value×jj)) (tm:List Int) (tl:List (Nat×Rl)) (Z:List a8) (c:Nat),u= .tuple #[pt n,B true]/\mR p s/\n5 s/\s.qs=[]/\s.sk=false/\s.wr= .nilFunc/\c<=100/\tm.length=p.an.length+p.vars.length/\gQ [] W0 n s lg tm [] ct0 tl 0 c Z/\Hp W0 w' (A++(Z++[]))):=by
 refine(zU (fr:=A++([]++[])) p .nilFunc hrs (.inl O) EC.zero w hT hs kA.nil (by simpa using hH)).mono fun e w' hr=>iA.mono ?_ hr
 rintro u w' ⟨n,s,lg,tm,tl,Z,c,rfl,h1,h2,h3,h4,h5,h6,h7,ht,h8,h9⟩
 obtain⟨Zo,ho,hh⟩:=gQ.out (A:=A) (R:=[]) (fr:=[]) h8 h9
 exact⟨n,s,lg,tm,tl,Zo,c,rfl,h1,h2,h3,h4,h5,h7,ht,ho,hh⟩
end
end
section
open Go Go.RowKit Go.Proofs.YtlhjdflgjbkpmaaGreatDoor.E Go.Proofs.YtlhjdflgjbkpmaaGreatDoor.M
set_option maxRecDepth 100000
open Go.Proofs.Tryz
variable{fr:List a8}
variable{W0 w:World}{n m:Nat}{cs:List (List Nat)}{wr:Value}{vL:Value}{vt:Value}{vv:Value}{vy:Value}{vu:Value}{vq:Value}{sn:Int}{vW:Value}{vU:Value}{vT:Value}{cn:Int}{sk:Bool}{wy:BitVec 64}{vd:Value}{vm:Value}{cW:Option (Nat×Array Value)}{cU:Option (Nat×Array Value)}{W:List (BitVec 64)}{ul:List (Value×jo)}{ts:List Int}{an:List oJ}{aT:List Int}{ai:List El}{aX:List (BitVec 64)}{us:List iW}{qs:List de}{lg:List (Value×jj)}{tm:List Int}{L:List a8}
theorem Ih{bn bi bm:Nat}{i k:Int}{R:List a8}(hm:m<=100000)(hi:0<=i/\i<=aT.length/\i<=ai.length/\i<=aX.length/\i<=us.length)(w:World)(Gl:a8.blk bn (.cells #[pt n] 31 (0,0))∈(R++L))(hbi:a8.blk bi (.cells #[I i] 3 (0,0))∈(R++L))(hbm:a8.blk bm (.cells #[I k] 3 (0,0))∈(R++L))(h:vF FX n m cs vW vU cW cU W ul ts cn L)(hH:Hp W0 w (nE n wr vL vt vv vy vu vq sn vW vU vT cn sk wy vd vm cW cU W ul ts an aT ai aX us qs lg tm ((R++L)))):Calls Tryz.prog 48 #[.pointer (some ⟨bn,0,none⟩),.pointer (some ⟨bi,0,none⟩),.pointer (some ⟨bm,0,none⟩)] w (iA fun u w'=>u= .tuple #[]/\∃(vt' vv' vy' vu':Value) (IJ IK S7:Value) (Nu Nv:Option (Nat×Array Value)) (W':List (BitVec 64)) (wK:List (Value×jo)) (ts':List Int) (Nw:Int) (Lb:List a8),vF FX n (m) ((Ac cs k).1) IJ IK Nu Nv W' wK ts' Nw (Lb++L)/\Hp W0 w' (nE n wr vL (vt') (vv') (vy') (vu') vq sn (IJ) (IK) (S7) (Nw) sk wy vd vm (Nu) (Nv) (W') (wK) (ts') an (aT.take i.toNat) (ai.take i.toNat) (aX.take i.toNat) (us.take i.toNat) qs lg tm ((R++(Lb++L))))):=by
 simp only[nE]at hH
 refine en func48 rfl rfl<|ah<|ez (z:=⟨none,_,_,_,_,none⟩) aM O aM hH (sQ (sP (sP (sP (sP (sQ (sQ (sQ sR))))))))<|fun w1 aW=>have fK:=aW.sub (sQ (sP (sP (sP (sP (sQ (sQ (sQ sR))))))));AT 0 O fK (fun w hS=>au cw O O (hS.gP (mT (mT (mT (mT (mT (mT (mT (mT Gl)))))))) (v:=Pn _ _) O))<|AT 1 O fK (fun w hS=>au cw O O (hS.gP (mT (mT (mT (mT (mT (mT (mT (mT Gl)))))))) (v:=Pn _ _) O))<|AT 2 O fK (fun w hS=>au cw O O (hS.gP (mT (mT (mT (mT (mT (mT (mT (mT Gl)))))))) (v:=Pn _ _) O))<|AT 3 O fK (fun w hS=>au cw O O (hS.gP (mT (mT (mT (mT (mT (mT (mT (mT Gl)))))))) (v:=Pn _ _) O))<|AT 4 O fK (fun w hS=>au cw O O (hS.gP (mT (mT (mT (mT (mT (mT (mT (mT Gl)))))))) (v:=Pn _ _) O))<|AQ 5 O fK (af O)<|AQ 6 O fK (fA bM 2 O cP O)<|AT 8 O fK (fun w hS=>au bx O O (hS.gP (mT (mT (mT (mT (mT (mT (mT (mT hbi)))))))) (v:=I _) O))<|AT 10 O fK (fun w hS=>au cw O O (hS.gP (mT (mT (mT (mT (mT (mT (mT (mT Gl)))))))) (v:=Pn _ _) O))<|AQ 11 O fK (af O)<|AQ 12 O fK (fA bM 3 O lz O)<|AT 14 O fK (fun w hS=>au bx O O (hS.gP (mT (mT (mT (mT (mT (mT (mT (mT hbi)))))))) (v:=I _) O))<|AT 16 O fK (fun w hS=>au cw O O (hS.gP (mT (mT (mT (mT (mT (mT (mT (mT Gl)))))))) (v:=Pn _ _) O))<|AQ 17 O fK (af O)<|AQ 18 O fK (fA bM 4 O iN O)<|AT 20 O fK (fun w hS=>au bx O O (hS.gP (mT (mT (mT (mT (mT (mT (mT (mT hbi)))))))) (v:=I _) O))<|AT 22 O fK (fun w hS=>au cw O O (hS.gP (mT (mT (mT (mT (mT (mT (mT (mT Gl)))))))) (v:=Pn _ _) O))<|AQ 23 O fK (af O)<|AQ 24 O fK (fA bM 5 O qc O)<|AT 26 O fK (fun w hS=>au bx O O (hS.gP (mT (mT (mT (mT (mT (mT (mT (mT hbi)))))))) (v:=I _) O))<|R6 7 O O aM aM aM aM (aW.sub (sQ (sP (sP (sP (sP (sQ (sQ (sQ sR))))))))) (au bg O O (aW.cell (i:=0) O O))<|AT 9 O fK (fun w _=>B0 (aW.sl (i:=5) O) bg bz O O J)<|R6 13 O O aM aM aM aM (aW.sub (sQ (sP (sP (sP (sP (sQ (sQ (sQ sR))))))))) (au dJ O O (aW.cell (i:=0) O O))<|AT 15 O fK (fun w _=>B0 (aW.sl (i:=6) O) dJ gM O O J)<|R6 19 O O aM aM aM aM (aW.sub (sQ (sP (sP (sP (sP (sQ (sQ (sQ sR))))))))) (au cS O O (aW.cell (i:=0) O O))<|AT 21 O fK (fun w _=>B0 (aW.sl (i:=7) O) cS c8 O O J)<|R6 25 O O aM aM aM aM (aW.sub (sQ (sP (sP (sP (sP (sQ (sQ (sQ sR))))))))) (au kE O O (aW.cell (i:=0) O O))<|AQ 28 O fK (af O)<|AQ 29 O fK (fA bM 2 O cP O)<|AT 27 O fK (fun w _=>B0 (aW.sl (i:=8) O) kE cP O O J)<|A1 30<|have eD:=Hp.acK aW (i:=5) O (m:=i.toNat) J;ec O aH eD (j:=0) O (sQ (sP (sP (sP (sP (sQ (sQ (sQ sR)))))))) (bL O O (v:=(kS vt (i.toNat))) O (aS (eD.get (i:=5) O)).1 (aS (eD.get (i:=5) O)).2 (eD.blk (i:=0) O) az)<|fun w5 gT=> ?_
 simp only[fO,gU,iZ,fg,Nat.reduceAdd]at gT
 refine AQ 31 O (gT.sub (sQ (sP (sP (sP (sP (sQ (sQ (sQ sR))))))))) (af O)<|AQ 32 O (gT.sub (sQ (sP (sP (sP (sP (sQ (sQ (sQ sR))))))))) (fA bM 3 O lz O)<|A1 33<|have cK:=Hp.ahh fy gT (i:=6) O (m:=i.toNat) J;ec O aH cK (j:=0) O (sQ (sP (sP (sP (sP (sQ (sQ (sQ sR)))))))) (bL O O (v:=(kS vv (i.toNat))) O (aS (cK.get (i:=6) O)).1 (aS (cK.get (i:=6) O)).2 (cK.blk (i:=0) O) az)<|fun Gk dF=> ?_
 simp only[fO,gU,iZ,fg,Nat.reduceAdd]at dF
 refine AQ 34 O (dF.sub (sQ (sP (sP (sP (sP (sQ (sQ (sQ sR))))))))) (af O)<|AQ 35 O (dF.sub (sQ (sP (sP (sP (sP (sQ (sQ (sQ sR))))))))) (fA bM 4 O iN O)<|A1 36<|have dU:=Hp.acK dF (i:=7) O (m:=i.toNat) J;ec O aH dU (j:=0) O (sQ (sP (sP (sP (sP (sQ (sQ (sQ sR)))))))) (bL O O (v:=(kS vy (i.toNat))) O (aS (dU.get (i:=7) O)).1 (aS (dU.get (i:=7) O)).2 (dU.blk (i:=0) O) az)<|fun Wg cG=> ?_
 simp only[fO,gU,iZ,fg,Nat.reduceAdd]at cG
 refine AQ 37 O (cG.sub (sQ (sP (sP (sP (sP (sQ (sQ (sQ sR))))))))) (af O)<|AQ 38 O (cG.sub (sQ (sP (sP (sP (sP (sQ (sQ (sQ sR))))))))) (fA bM 5 O qc O)<|AD<|have cL:=Hp.acK cG (i:=8) O (m:=i.toNat) J;bu cL (i:=0) O (bL O O (v:=(kS vu (i.toNat))) O (aS (cL.get (i:=8) O)).1 (aS (cL.get (i:=8) O)).2 (cL.blk (i:=0) O) az)<|fun PR jy=> ?_
 simp only[fO,gU,iZ,fg,Nat.reduceAdd]at jy
 refine aa<|ez (z:=⟨some _,_,_,_,_,none⟩) aM O aM jy sR<|fun Og dm=>have Jp:=dm;AT 0 O Jp (fun w hS=>au cw O O (hS.gP (mT (mT (mT (mT (mT (mT (mT (mT (mT (mT (mT (mT Gl)))))))))))) (v:=Pn _ _) O))<|AQ 1 O Jp (af O)<|AQ 2 O Jp (fA bM 8 O m4 O)<|AT 3 O Jp (fun w hS=>au bx O O (hS.gP (mT (mT (mT (mT (mT (mT (mT (mT (mT (mT (mT (mT hbm)))))))))))) (v:=I _) O))<|AD<|bV O (ajC _ h J (R:=([_,_,_,_,_,_,_,_]++R)) dm) (aJ call49 O O)<| ?_
 rintro _ w36 ⟨rfl,aJf,aJg,aJh,aJi,aJj,W30,aJk,aJl,aJm,aJn,aBq,vP⟩
 have nR:=Hp.lN (A:=[_,_,_,_]) (R:=([_,_,_,_,_,_,_,_]++R)) vP
 simp only[fH,er]at nR
 refine aa<|nW O ⟨rfl,(kS vt (i.toNat)),(kS vv (i.toNat)),(kS vy (i.toNat)),(kS vu (i.toNat)),aJf,aJg,aJh,aJi,aJj,W30,aJk,aJl,aJm,aJn,aBq,(nR)⟩
theorem Ii{bn bi bq:Nat}{i:Int}{q:de}{R:List a8}(hi:0<=i/\i<=qs.length)(hvc:q.vars.length<=1000)(hvl:∀v∈q.vars,0<=v/\v<us.length)(hnd:q.vars.Nodup)(hne:∀v∈q.vars,(mO us).getD v.toNat []≠[])(w:World)(Gl:a8.blk bn (.cells #[pt n] 31 (0,0))∈L)(hbi:a8.blk bi (.cells #[I i] 3 (0,0))∈L)(hbq:a8.blk bq (.cells (oT q).toArray 128 (0,0))∈L)(uf:zv (Kz (Kw W0) L) q)(hH:Hp W0 w (nE n wr vL vt vv vy vu vq sn vW vU vT cn sk wy vd vm cW cU W ul ts an aT ai aX us qs lg tm ((us.map (dr 3)++(R++L))))):Calls Tryz.prog 58 #[.pointer (some ⟨bn,0,none⟩),.pointer (some ⟨bi,0,none⟩),.pointer (some ⟨bq,0,none⟩)] w (iA fun u w'=>u= .tuple #[]/\∃(vq' vu':Value) (N5:List iW),mO N5=q.vars.foldl uY (mO us)/\Hp W0 w' (nE n wr vL vt vv vy (vu') (vq') sn vW vU vT cn sk wy vd vm cW cU W ul ts an aT ai aX (N5) (qs.take i.toNat) lg tm ((N5.map (dr 3)++(R++L))))):=by
 simp only[nE]at hH
 refine en func58 rfl rfl<|ah<|ez (z:=⟨none,_,_,_,_,none⟩) aM O aM hH sR<|fun w1 aW=>have fK:=aW;AT 0 O fK (fun w hS=>au cw O O (hS.gP (mT (mT (mT (mT (mT (mT (mT (mT (mT (mT (mT (mT (bt _ (bt _ Gl)))))))))))))) (v:=Pn _ _) O))<|AT 1 O fK (fun w hS=>au cw O O (hS.gP (mT (mT (mT (mT (mT (mT (mT (mT (mT (mT (mT (mT (bt _ (bt _ Gl)))))))))))))) (v:=Pn _ _) O))<|AQ 2 O fK (af O)<|AQ 3 O fK (fA bM 6 O s4 O)<|tV 4 O fK mj 0 O O rfl<|AT 5 O fK (fun w hS=>au bx O O (hS.gP (mT (mT (mT (mT (mT (mT (mT (mT (mT (mT (mT (mT (bt _ (bt _ hbi)))))))))))))) (v:=I _) O))<|AT 6 O fK (fun w _=>B0 (aW.sl (i:=9) O) mj GC O O J)<|AQ 7 O fK (af O)<|AQ 8 O fK (fA bM 6 O s4 O)<|AD<|have bU:=Hp.ahh nM aW (i:=9) O (m:=i.toNat) J;bu bU (i:=0) O (bL O O (v:=(kS vq (i.toNat))) O (aS (bU.get (i:=9) O)).1 (aS (bU.get (i:=9) O)).2 (bU.blk (i:=0) O) az)<|fun w3 gE=> ?_
 simp only[fO,gU,iZ,fg,Nat.reduceAdd]at gE
 refine aa<|SR<|V (fA iM 12 O cP O)<|V (bZ (uf.vars.mono (gE.kz (Le.refl _) (fun x hx=>(mT (mT (mT (mT (mT (mT (mT (mT (mT (mT (mT (mT (bt _ (bt _ hx))))))))))))))))).sl bg O O (gE.gP (mT (mT (mT (mT (mT (mT (mT (mT (mT (mT (mT (mT (bt _ (bt _ hbq)))))))))))))) O))<|V (aA (uf.vars.mono (gE.kz (Le.refl _) (fun x hx=>(mT (mT (mT (mT (mT (mT (mT (mT (mT (mT (mT (mT (bt _ (bt _ hx))))))))))))))))).sl O bg O)<|aE (v:=I 0) rfl<|aa<|aC<|bj (G:=Int×(List iW)×(List a8)) (fun⟨j,sV,Z1⟩ s' w'=>(Fr (4::(rg 17 28 [])) _ s')/\(Hp W0 w' (_::_::_::_::_::_::_::_::jq iW.v vu 99 sV::_::_::_::Z1))/\(s' 17=I j)/\(0<=j)/\(j<=q.vars.length)/\(Z1=sV.map (dr 3)++(R++L))/\(mO sV=(q.vars.take j.toNat).foldl uY (mO us))) (fun⟨j,sV,Z1⟩=>(q.vars.length-j).toNat) ((0,us,(us.map (dr 3)++(R++L)))) ⟨Fr.refl _ _,gE,rfl,J,J,rfl,rfl⟩<| ?_
 rintro⟨j,sV,Z1⟩ sg6 w6 ⟨MH,gT,IN,h0,hj,hz,S4⟩
 obtain⟨auT,ajH,ajI⟩:=MH.w3 0 15 16
 subst hz
 have hgn:sV.length=us.length:=by have:=aK List.length S4;rwa[eM,CY,eM]at this
 refine SR<|V (aL IN ajI)<|aa<|ah<|aF O (fun h8=> ?_) (fun h8=> ?_)
 .refine ak<|ah<|aC<|SR<|V (ag (uf.vars.mono (gT.kz (Le.refl _) (fun x hx=>(mT (mT (mT (mT (mT (mT (mT (mT (mT (mT (mT (mT (bt _ (bt _ hx))))))))))))))))).sl bg bz ajH IN J)<|V (au bx O O ((uf.vars.mono (gT.kz (Le.refl _) (fun x hx=>(mT (mT (mT (mT (mT (mT (mT (mT (mT (mT (mT (mT (bt _ (bt _ hx))))))))))))))))).sl.cell _ _ (dZ J)))<|aI rfl<|aa<|have hvj:=hvl _ (dc (d:=0) h0 ‹j<_›);?_
  rw[<-hgn]at hvj
  have hnv:=am5 hnd hvl hne h0 ‹j<_› S4
  have hsm:=(Hp.ar4 (A:=[_,_,_,_,_,_,_,_,_,_,_,_]) (gs:=sV) (q:=(q.vars.getD j.toNat 0)) (R:=(R++L)) gT hvj).small
  unfold maxLen at hsm
  refine ez (z:=⟨none,_,_,_,_,none⟩) aM O aM gT sR<|fun w9 bW=>have kU:=bW;AT 0 O kU (fun w hS=>au cw O auT (hS.gP (mT (mT (mT (mT (mT (mT (mT (mT (mT (mT (mT (mT (bt _ (bt _ Gl)))))))))))))) (v:=Pn _ _) O))<|AQ 1 O kU (af O)<|AQ 2 O kU (fA bM 5 O qc O)<|tV 3 O kU kE 0 O O rfl<|AQ 4 O kU (mV (I _) O)<|AT 5 O kU (fun w hS=>au cw O auT (hS.gP (mT (mT (mT (mT (mT (mT (mT (mT (mT (mT (mT (mT (bt _ (bt _ Gl)))))))))))))) (v:=Pn _ _) O))<|AQ 6 O kU (af O)<|AQ 7 O kU (fA bM 5 O qc O)<|tV 8 O kU kE 0 O O rfl<|AQ 9 O kU (mV (I _) O)<|AT 10 O kU (fun w hS=>ag (hS.sl (i:=8) O) kE cP O O J)<|AT 11 O kU (fun w hS=>au bg O O ((hS.sl (i:=8) O).cell _ _ (ke (dv:=cD) J)))<|AT 12 O kU (fun w hS=>au cw O auT (hS.gP (mT (mT (mT (mT (mT (mT (mT (mT (mT (mT (mT (mT (bt _ (bt _ Gl)))))))))))))) (v:=Pn _ _) O))<|AQ 13 O kU (af O)<|AQ 14 O kU (fA bM 5 O qc O)<|tV 15 O kU kE 0 O O rfl<|AQ 16 O kU (mV (I _) O)<|AT 17 O kU (fun w hS=>ag (hS.sl (i:=8) O) kE cP O O J)<|AT 18 O kU (fun w hS=>au bg O O ((hS.sl (i:=8) O).cell _ _ (ke (dv:=cD) J)))<|AT 19 O kU (fun w hS=>aA (Hp.ar4 (A:=[_,_,_,_,_,_,_,_,_,_,_,_]) (gs:=sV) (q:=(q.vars.getD j.toNat 0)) (R:=(R++L)) hS hvj) O bg O)<|AQ 20 O kU (fG O O J)<|AT 21 O kU (fun w hS=>tT (Hp.ar4 (A:=[_,_,_,_,_,_,_,_,_,_,_,_]) (gs:=sV) (q:=(q.vars.getD j.toNat 0)) (R:=(R++L)) hS hvj) bg bz O O J)<|AT 22 O kU (fun w hS=>ag (hS.sl (i:=8) O) kE cP O O J)<|AD<|have dF:=Hp.av0 (A:=[_,_,_,_,_,_,_,_,_,_,_,_]) (gs:=sV) (q:=(q.vars.getD j.toNat 0)) (m:=(((sV.getD (q.vars.getD j.toNat 0).toNat cD).l.length:Int)-1).toNat) (R:=(R++L)) bW hvj J;?_
  simp only[fH,er]at dF
  have aBr:=Hp.ar5 (A:=[_,_,_,_,_,_,_,_,_,_,_,_]) (gs:=sV) (q:=(q.vars.getD j.toNat 0)) (R:=(R++L)) dF J
  refine px (f:=iW.v) (a:=⟨kS (sV.getD (q.vars.getD j.toNat 0).toNat cD).v (((sV.getD (q.vars.getD j.toNat 0).toNat cD).l.length:Int)-1).toNat,(sV.getD (q.vars.getD j.toNat 0).toNat cD).l.take (((sV.getD (q.vars.getD j.toNat 0).toNat cD).l.length:Int)-1).toNat⟩) dF (i:=8) O J O O aBr.1 aBr.2 rfl<|fun B7 cm=>aa<|ax<|V (ay IN O J)<|mI rfl<|aa<| ?_
  refine⟨(j+1,(sV.set (q.vars.getD j.toNat 0).toNat ⟨kS (sV.getD (q.vars.getD j.toNat 0).toNat cD).v (((sV.getD (q.vars.getD j.toNat 0).toNat cD).l.length:Int)-1).toNat,(sV.getD (q.vars.getD j.toNat 0).toNat cD).l.take (((sV.getD (q.vars.getD j.toNat 0).toNat cD).l.length:Int)-1).toNat⟩),(((sV.set (q.vars.getD j.toNat 0).toNat ⟨kS (sV.getD (q.vars.getD j.toNat 0).toNat cD).v (((sV.getD (q.vars.getD j.toNat 0).toNat cD).l.length:Int)-1).toNat,(sV.getD (q.vars.getD j.toNat 0).toNat cD).l.take (((sV.getD (q.vars.getD j.toNat 0).toNat cD).l.length:Int)-1).toNat⟩).map (dr 3))++(R++L))),aZ,MH.u4.u4.u4.u4.u4.u4.u4.u1,(Hp.conv cm (by first|rfl|simp)),(aK I qe),J,J,aN,?_⟩
  (rw[mE h0 ‹j<_›,<-S4];unfold uY;rw[RO,zm,List.dropLast_eq_take,show(((sV.getD (q.vars.getD j.toNat 0).toNat cD).l.length:Int)-1).toNat=(sV.getD (q.vars.getD j.toNat 0).toNat cD).l.length-1 by omega])
 refine a7 (id:=0) rfl<|nW O ⟨rfl,(kS vq (i.toNat)),vu,sV,(by rw[iP J]at S4;exact S4),(gT)⟩
section
theorem akl{R L0:List a8}{s:NP}{x:Value}{i:Nat}{k:Int}(hm:m<=100000)(hx:ku NX n L0 (x,.var i k))(hok:okN (.var i k) s):Nx W0 n m R L0 (x,.var i k) s:=by
 rintro lg tm Z w ⟨F,L,hI,hL,rfl⟩ hH
 obtain⟨b1,b2,b3,hf,V8,KK,hb3⟩:=hx
 subst hf
 refine⟨_,[pt b1,pt b2,pt b3],rfl,call48,?_⟩
 refine(Ih (R:=F.us.map (dr 3)++R) hm ⟨Ke _,Bf.2 hok.1,Bf.2 hok.2.1,Bf.2 hok.2.2.1,Bf.2 (by have h4:=hok.2.2.2;rwa[<-hI.us,eM]at h4)⟩ _ aeH aeI (by rw[dg];exact bt _ (bt _ (hL _ _ hb3))) hI.fo (by rw[dg];exact hH)).mono fun e w' hr=>iA.mono ?_ hr
 rintro u w' ⟨rfl,zvt,zvv,zvy,zvu,zvW,zvU,zvT,zcW,zcU,zW,zul,zts,zcn,Lb,hfo,hh⟩
 exact⟨rfl,_,⟨{F with vt:=zvt,vv:=zvv,vy:=zvy,vu:=zvu,us:=F.us.take i,vW:=zvW,vU:=zvU,vT:=zvT,cW:=zcW,cU:=zcU,W:=zW,ul:=zul,ts:=zts,cn:=zcn},Lb++L,⟨hfo,by show mO (F.us.take i)=s.us.take i;rw[<-hI.us];exact wY⟩,fun b o h=>bt _ (hL b o h),rfl⟩,Hp.usT hh⟩
theorem akm{R L0:List a8}{s:NP}{x:Value}{i:Nat}{q:de}(hq:zv (Kz (Kw W0) L0) q)(hvc:q.vars.length<=1000)(hx:ku NX n L0 (x,.add i q))(hok:okN (.add i q) s):Nx W0 n m R L0 (x,.add i q) s:=by
 rintro lg tm Z w ⟨F,L,hI,hL,rfl⟩ hH
 obtain⟨b1,b2,b3,hf,V8,KK,hb3⟩:=hx
 subst hf
 refine⟨_,[pt b1,pt b2,pt b3],rfl,call58,?_⟩
 refine(Ii (R:=R) ⟨Ke _,Bf.2 hok.1⟩ hvc (fun v hv=>by have h4:=hok.2.2 v hv;rw[<-hI.us,eM]at h4;exact⟨h4.1,h4.2.1⟩) hok.2.1 (fun v hv=>by rw[hI.us];exact(hok.2.2 v hv).2.2) _ (hL _ _ V8) (hL _ _ KK) (hL _ _ hb3) (hq.mono (Le.zb hL)) hH).mono fun e w' hr=>iA.mono ?_ hr
 rintro u w' ⟨rfl,zvq,zvu,sV,vN,hh⟩
 exact⟨rfl,_,⟨{F with vq:=zvq,vu:=zvu,us:=sV},L,⟨hI.fo,by rw[vN,hI.us];rfl⟩,hL,rfl⟩,hh⟩
end
section
variable{W0 w:World}{n:Nat}{s:NP}{lg:List (Value×jj)}{tm:List Int}{ids:List Nat}{f:Ct}{tl:List (Nat×Rl)}{b c:Nat}{A R Z:List a8}
theorem akn(k:Int)(hk0:0<=k)(htr:k<tm.length->(0<=tm.getD k.toNat 0/\tm.getD k.toNat 0<=lg.length)/\okB (u6 lg (tm.getD k.toNat 0).toNat) s)(hb:b<=70)(hc:c<=1000)(hZ:gQ fr W0 n s lg tm ids f tl b c Z)(hH:Hp W0 w (A++(Z++R))):Calls Tryz.prog 26 #[pt n,I k] w (iA fun u w'=>∃(ok:Bool) (s':NP) (lg':List (Value×jj)) (u9:List Int) (Z':List a8),u=B ok/\apa s s' k lg tm u9 ok/\gQ fr W0 n s' lg' u9 ids f tl b c Z'/\Hp W0 w' (A++(Z'++R))):=by
 obtain⟨Z2,hM,aW⟩:=hZ.anJ hH
 obtain⟨m,L0,Zf,⟨b1,b2,b3,b4⟩,ZB,hlv,uf,hch,hN⟩:=hM
 have hu:∀x:Value×jj,∀s1:NP,x∈lg->okN x.2 s1->Nx W0 n m Zf L0 x s1:=by
  rintro⟨v,q⟩ s1 hx hok
  obtain⟨h1,h2⟩:=hch _ hx
  cases q with
  |aT i=>exact aj0 h1 hok
  |var i j=>exact akl J h1 hok
  |add i r=>exact akm h2.1 h2.2 h1 hok
  |raise a d e=>exact NH h1 hok
  |merge j=>exact NJ J h1
  |seen j=>exact adH h1
  |stuck=>exact Zy h1
 refine(Jm k hk0 J htr hu w hN aW).mono fun e w' hr=>iA.mono ?_ hr
 rintro u w' (⟨h1,rfl,Z3,Oy,rY⟩|⟨h1,rfl,Z3,Oy,rY⟩|⟨h1,rfl,Z3,Oy,rY⟩)
 .refine⟨false,s,lg,tm,?_⟩
  obtain⟨Zo,ho,hh⟩:=gQ.out (A:=A) (R:=R) (fr:=fr) ⟨m,L0,Zf,⟨b1,b2,b3,b4⟩,ZB,hlv,uf,hch,Oy⟩ rY
  exact⟨Zo,rfl,⟨fun _=>⟨rfl,rfl,rfl⟩,fun q=>absurd q J,fun q=>absurd q J⟩,ho,hh⟩
 .refine⟨true,s,lg,tm,?_⟩
  obtain⟨Zo,ho,hh⟩:=gQ.out (A:=A) (R:=R) (fr:=fr) ⟨m,L0,Zf,⟨b1,b2,b3,b4⟩,ZB,hlv,uf,hch,Oy⟩ rY
  exact⟨Zo,rfl,⟨fun q=>absurd q J,fun _=>⟨rfl,rfl,rfl⟩,fun q=>absurd q J⟩,ho,hh⟩
 obtain⟨Zo,ho,hh⟩:=gQ.out (A:=A) (R:=R) (fr:=fr) (s:=xm (u6 lg (tm.getD k.toNat 0).toNat) s) (lg:=lg.take (tm.getD k.toNat 0).toNat) (tm:=tm.take k.toNat) (b:=b) (c:=c) ⟨m,L0,Zf,⟨b1,by rw[eo];omega,by rw[eo];omega,b4⟩,ZB,fun x hx=>hlv x (Vg hx),fun x hx=>uf x (ait hx),fun x hx=>hch x (uu hx),Oy⟩ rY
 exact⟨true,_,_,_,Zo,rfl,⟨fun q=>absurd q J,fun q=>absurd q J,fun _=>⟨rfl,rfl,rfl⟩⟩,ho,hh⟩
end
section
variable{W0 w:World}{n:Nat}{s:NP}{lg:List (Value×jj)}{tm:List Int}{ids:List Nat}{f:Ct}{tl:List (Nat×Rl)}{b c:Nat}{A R Z:List a8}
theorem auU{U:List a8}(h:Hp W0 w ((A++(Z++[]))++(U++[]))):Hp W0 w (A++(Z++(U++[]))):=uz
theorem auV{fr:List a8}(h:gQ fr W0 n s lg tm ids f tl b c Z):tm.length<=c+b:=by
 obtain⟨_,_,_,⟨_,_,h3,_⟩,_⟩:=h
 exact h3
theorem auW(l:Int)(hok:BS s)(hb:b<=70)(hc:c<=1000)(hZ:gQ fr W0 n s lg tm ids f tl b c Z)(hH:Hp W0 w (A++(Z++R))):Calls Tryz.prog 18 #[pt n,I l] w (iA fun u w'=>∃(v:Int) (s':NP) (new:List (Value×jj)) (u9:List Int) (Z':List a8),u=I v/\VmR s s' l lg tm u9/\gh new s s'/\gQ fr W0 n s' (lg++new) u9 ids f tl b (c+1) Z'/\Hp W0 w' (A++(Z'++R))):=by
 refine(abo l hok hb hc hZ hH).mono fun e w' hr=>iA.mono ?_ hr
 rintro u w' (⟨_,rfl,Z1,h1,h2⟩|⟨_,h3,rfl,fv,Z1,h4,h1,h2⟩)
 .refine⟨_,s,[],tm,Z1,rfl,.inl ⟨rfl,rfl⟩,gh.nil s,?_,h2⟩
  rw[kV];exact h1.more (eG _) (Gx _)
 exact⟨_,_,_,_,Z1,rfl,.inr ⟨h3,rfl,rfl⟩,h4,h1,h2⟩
end
set_option maxHeartbeats 4000000 in
theorem vZ(p:pM)(a b:Int)(hca:0<=a/\a<=255)(hcb:0<=b/\b<=255)(w:World)(hp:xW (Kw w) p)(hT:oh w):Calls Tryz.prog 7 #[.agg (Iv p).toArray,.int .u8 a,.int .u8 b] w (Pure (B true) w):=by
 have HR:=hp.bE.small
 unfold maxLen at HR
 obtain⟨ii,hii⟩:∃x:Int,x=min a (p.bE.length:Int):=⟨_,rfl⟩
 obtain⟨kk,hkk⟩:∃x:Int,x=min (ii+b) (p.bE.length:Int):=⟨_,rfl⟩
 refine eH func7 rfl rfl fun hH=>SR<|iu hH (v:= .agg _) rfl<|fun b3 w1 aW=>va (v:=B false) rfl<|aa<|ah<|SR<|V (cN (cs:=Iv _) kN O O O (bp (aW.blk (i:=0) O)))<|aG O aW (Cx _ _ (hp.mono aW.kw)) (aq call9 O)<|fun w4 bU=>mB rfl<|gm 24 O (fun h7=> ?_) (fun h7=> ?_)
 .refine aE (v:=B true) rfl<|aa<|cB rfl<|SR<|aG O bU (mc _ (hT.hp bU)) (GY call11)<|fun w8 iB=>aB rfl<|aa<|aj<|oB O ?_ iB
  rfl
 refine V (cN (cs:=Iv _) kN O O O (bp (bU.blk (i:=0) O)))<|aG O bU (zV _ _ (hp.mono bU.kw)) (aq call10 O)<|fun ID cK=>V (bO O)<|mB rfl<|aa<|bY O (fun Ja=> ?_) (fun Ja=> ?_)
 .refine SR<|aG O cK (mc _ (hT.hp cK)) (GY call11)<|fun JZ dU=>aB rfl<|aa<|aj<|oB O ?_ dU
  rfl
 refine ak<|SR<|have hpo:nn p=true:=nf ‹(!nn p)=false›;?_
 obtain⟨hrs,hal⟩:=MB hpo
 have hcs:∀x∈p.bE,x.code.length<=1000:=fun x hx=>((alZ ‹N4 p=false›).2.2 x hx).c
 have h64:=amW hpo
 have hsz:=(BX hrs).1
 refine V (fA kN 0 O GF O)<|V (iI (sub:=C3 _) iD O O O (cK.blk (i:=0) O) (Fv _))<|bV O (V6 p.s hrs hT hp.s cK) (aJ call12 O (show _=Value.nilFunc from O))<| ?_
 rintro _ w37 ⟨n21,s22,aTx,aTy,auX,Z26,c27,rfl,aBs,aBt,at6,aJr,aTA,aJs,aJt,auL,h36⟩
 have vV:Hp _ w37 (_::(Z26++[])):=h36
 refine V (run_move bG) ?_
 refine V (bA O (v:=Pn _ _) O)<|V (bA O (v:=B _) O)<|va (v:=Pn _ _) rfl<|aB rfl<|aa<|SR<|V (fA kN 0 O GF O)<|V (iI (sub:=C3 _) iD O O O (vV.blk (i:=0) O) (Fv _))<|bV O (V6 p.s hrs hT hp.s vV) (aJ call12 O (show _=Value.nilFunc from O))<| ?_
 rintro _ w58 ⟨n42,s43,aTC,aTD,aBu,Z47,c48,rfl,aBv,aBw,aJu,aJv,aTE,aJw,aJx,aJy,Ni⟩
 have sS:Hp _ w58 (_::(Z26++(Z47++[]))):=auU (A:=[_]) Ni
 refine V (run_move bG) ?_
 refine V (bA O (v:=Pn _ _) O)<|V (bA O (v:=B _) O)<|va (v:=Pn _ _) rfl<|aB rfl<|aa<|ah<|SR<|mB rfl<|V (bO O)<|mB rfl<|cC O rfl<|mB rfl<|V (bO O)<|mB rfl<|aa<|dh rfl<|ak<|SR<|aE (v:= .int _ _) rfl<|V (Ef Kx bx O J)<|V (fA kN 2 O rj O)<|V (bZ (hp.bE.sl.hp sS) lj O O (sS.cell (i:=0) O O))<|V (aA (hp.bE.sl.hp sS) O lj O)<|V (qk O O)<|V (run_assign (jA O (aK I hii.symm)))<|aa<|SR<|mI rfl<|aE (v:= .int _ _) rfl<|V (Ef Kx bx O J)<|V (ay O O J)<|V (fA kN 2 O rj O)<|V (bZ (hp.bE.sl.hp sS) lj O O (sS.cell (i:=0) O O))<|V (aA (hp.bE.sl.hp sS) O lj O)<|V (qk O O)<|V (run_assign (jA O (aK I hkk.symm)))<|aa<|ah<|SR<|va (v:=I 0) rfl<|aa<|aC<|bj (G:=Int×NP×NP×(List a8)) (fun⟨k,s1,u1,Z1⟩ s' w'=>(Fr (13::(rg 62 21 [])) _ s')/\(Hp w w' (_::Z1))/\(s' 13=I k)/\(0<=k)/\(k<=ii)/\(AF p.s k.toNat s1 u1)/\(∃lg tm lu tu CZ Zu1,Z1=CZ++(Zu1++[])/\tm.length=tu.length/\gQ [] w n21 s1 lg tm [] ct0 auX 0 (c27+k.toNat) CZ/\gQ [] w n42 u1 lu tu [] ct0 aBu 0 (c48+k.toNat) Zu1)) (fun⟨k,s1,u1,Z1⟩=>(ii-k).toNat) ((0,s22,s43,(Z26++(Z47++[])))) ⟨Fr.refl _ _,sS,rfl,J,J,AF.start aBs aBt at6 aJr aBv aBw aJu aJv,⟨_,_,_,_,_,_,rfl,aJt.trans aJx.symm,auL,aJy⟩⟩<| ?_
 rintro⟨k,s1,u1,Z1⟩ aF6 w61 ⟨anG,vi,Ij,h0,hk,hA,hS⟩
 obtain⟨ako,ayM,IG,Nq,akp,auY⟩:=anG.w6 3 6 7 9 11 12
 obtain⟨lg1,Ji,lu1,tu1,CZ,Zu1,rfl,S6,J2,hU1⟩:=hS
 have hkc:=aJs
 have hkd:=aJw
 refine ah<|SR<|aE Ij<|aE akp<|V (aL O O)<|aa<|aF O (fun h63=> ?_) (fun h63=> ?_)
 .refine ak<|ah<|aC<|SR<|have hxm:=dc (d:=gz) (l:=p.bE) (k:=k) h0 J;aE IG<|V (fA kN 2 O rj ako)<|V (bZ (hp.bE.sl.hp vi) lj O O (vi.cell (i:=0) O O))<|aE Ij<|V (ag (hp.bE.sl.hp vi) lj D8 O O J)<|V (dY (dv:=gz) qv (hp.bE.sl.hp vi) iv O O O J)<|aE Ij<|bV O (V5 (p.bE.getD k.toNat gz) k hA.nw.ns.ok (hcs _ hxm) J J J hT (hp.at J J) (A:=[_]) (R:=(Zu1++[])) J2 vi) (bB call13 O O O)<| ?_
  rintro _ w76 ⟨aTG,s67,aTI,aTJ,Z70,rfl,aJz,aTK,aJA,aJB,h75⟩
  have EX:Hp _ w76 (_::(Z70++(Zu1++[]))):=h75
  refine aa<|ax<|aE Nq<|V (fA kN 2 O rj ako)<|V (bZ (hp.bE.sl.hp EX) lj O O (EX.cell (i:=0) O O))<|aE Ij<|V (ag (hp.bE.sl.hp EX) lj D8 O O J)<|V (dY (dv:=gz) qv (hp.bE.sl.hp EX) iv O O O J)<|aE Ij<|have Jo:Hp _ _ (_::(Zu1++(Z70++[]))):=Hp.swz (A:=[_]) EX;bV O (V5 (p.bE.getD k.toNat gz) k hA.nu.ns.ok (hcs _ hxm) J J J hT (hp.at J J) (A:=[_]) (R:=(Z70++[])) hU1 Jo) (bB call13 O O O)<| ?_
  rintro _ w92 ⟨aTM,s83,aTO,aTP,Z86,rfl,aJD,aTQ,aJE,aJF,h91⟩
  have aJG:Hp _ w92 (_::(Z86++(Z70++[]))):=h91
  obtain⟨hoo,hA2⟩:=hA.add J (hal _ hxm) (hcs _ hxm) aJz aJD
  have auZ:=aaW aJA aJE hoo S6
  subst hoo
  have NA:Hp _ _ (_::(Z70++(Z86++[]))):=Hp.swz (A:=[_]) aJG
  refine aa<|ax<|aE Ij<|V (ay O O J)<|aI rfl<|aa<| ?_
  refine⟨(k+1,s67,s83,(Z70++(Z86++[]))),aZ,anG.u4.u4.u4.u4.u4.u1.u1,NA,(aK I qe),J,J,?_,?_⟩
  ·(rw[show(k+1).toNat=k.toNat+1 by omega];exact hA2)
  (rw[show(k+1).toNat=k.toNat+1 by omega,<-s0,<-s0];exact⟨_,_,_,_,_,_,rfl,auZ,aJB,aJF⟩)
 refine a7 (id:=0) rfl<|ah<|SR<|aE IG<|bV O (vD hT hA.nw J J (A:=[_]) (R:=(Zu1++[])) J2 vi) (aq Ea O)<| ?_
 rintro _ anM ⟨aTR,s99,aMW,f101,aTS,aTT,adQ,rfl,aBx,aMX,aMY,aMZ,aM0,aqx,aJJ⟩
 have aka:Hp _ anM (_::(adQ++(Zu1++[]))):=aJJ
 refine aE Nq<|have DO:Hp _ _ (_::(Zu1++(adQ++[]))):=Hp.swz (A:=[_]) aka;bV O (vD hT hA.nu J J (A:=[_]) (R:=(adQ++[])) hU1 DO) (aq Ea O)<| ?_
 rintro _ aBa ⟨aM1,aJK,aM2,f121,aTU,aTV,Dj,rfl,aBy,aM3,aM4,aM5,aM6,aBz,aJL⟩
 have P8:Hp _ aBa (_::(Dj++(adQ++[]))):=aJL
 have aqy:Hp _ _ (_::(adQ++(Dj++[]))):=Hp.swz (A:=[_]) P8
 have hkl:k=ii:=J
 have hmk:=aaV (lg:=lg1) (lg':=lu1) hA.sk S6
 obtain⟨hoo,hA1⟩:=hA.set aBx aBy
 subst hoo
 refine V (KS qb O O)<|aa<|dh (bR (c:=false) ((WO _)))<|ak<|SR<| ?_
 obtain⟨m,hm⟩:∃m:Nat,m=(tmS s1 lg1 Ji).length:=⟨_,rfl⟩
 refine aE IG<|aG O aqy (SQ aqx aqy (fun x hx=>(mT (dx _ hx)))) (aq call24 O)<|fun aTW aBA=>V (run_assign (jA O (aK (fun x:Nat=>I (x:Int)) hm.symm)))<|aa<|ah<|SR<|aE akp<|aI rfl<|aa<|aC<|bj (G:=Int×NP×(List a8)) (fun⟨j,s2,Z1⟩ s' w'=>(Fr (15::(rg 91 17 [])) _ s')/\(Hp w w' (_::Z1))/\(s' 15=I j)/\(ii<=j)/\(j<=kk)/\(n5 s2)/\(s2.qs.length<=j.toNat)/\(s2.ai.length<=64+(j-ii).toNat)/\(∃lg tm f CZ,Z1=CZ++(Dj++[])/\MD m s99 lg tm s2/\gQ [] w n21 s2 lg tm [] f auX (1+(j-ii).toNat) (170+2*(j-ii).toNat) CZ)) (fun⟨j,s2,Z1⟩=>(kk-j).toNat) ((ii,s99,(adQ++(Dj++[])))) ⟨Fr.refl _ _,aBA,rfl,J,J,hA1.nw,(by have:=hA1.ql;omega),(by have:=hA1.np.nv;omega),⟨_,_,_,_,rfl,MD.start hm.symm,aqx.more J J⟩⟩<| ?_
 rintro⟨j,s2,Z1⟩ aM7 aGP ⟨akq,aqz,J3,j0,hj,hW,hql,hvl,hS⟩
 have SV:=akq.w1 14
 obtain⟨akr,EY,au0,abq⟩:=akq.t4 3 ako 7 IG 9 Nq 12 auY
 obtain⟨lg2,tm2,f2,VU,rfl,hM,hZ2⟩:=hS
 refine ah<|SR<|aE J3<|aE abq<|V (aL O O)<|aa<|aF O (fun aJM=> ?_) (fun aJM=> ?_)
 .refine ak<|ah<|aC<|SR<|aE EY<|bV O (auW 0 hW.ns.ok J J (A:=[_]) (R:=(Dj++[])) hZ2 aqz) (aJ call18 O (show _=I 0 from O))<| ?_
  rintro _ aJN ⟨aTX,aTY,apY,aM8,aJO,rfl,aqA,ajQ,aBB,atP⟩
  have IQ:Hp _ aJN (_::(aJO++(Dj++[]))):=atP
  obtain⟨hW1,MA,hv1⟩:=aqA.nw hW J
  have hM1:=hM.var aqA ajQ
  refine aa<|SR<|have hxj:=dc (d:=gz) (l:=p.bE) (k:=j) J J;aE EY<|V (fA kN 2 O rj akr)<|V (bZ (hp.bE.sl.hp IQ) lj O O (IQ.cell (i:=0) O O))<|aE J3<|V (ag (hp.bE.sl.hp IQ) lj D8 O O J)<|V (dY (dv:=gz) qv (hp.bE.sl.hp IQ) iv O O O J)<|aE J3<|bV O (V5 (p.bE.getD j.toNat gz) j hW1.ns.ok (hcs _ hxj) J J J hT (hp.at J J) (A:=[_]) (R:=(Dj++[])) aBB IQ) (bB call13 O O O)<| ?_
  rintro _ aA2 ⟨aNa,aT0,aNb,aNc,aJP,rfl,aqB,aBC,aBD,aBE,aJQ⟩
  have Cv:Hp _ aA2 (_::(aJP++(Dj++[]))):=aJQ
  refine aa<|ax<| ?_
  obtain⟨hW2,hq2,hv2⟩:=am6 hW1 J (hcs _ hxj) aqB
  have hM2:=hM1.add aqB aBC aBD
  refine aE EY<|bV O (vD hT hW2 J J (A:=[_]) (R:=(Dj++[])) aBE Cv) (aq Ea O)<| ?_
  rintro _ aJR ⟨aNd,aJS,aNe,f175,aT2,aT3,aBF,rfl,aqC,aBG,aNf,aNg,aNh,aBH,aJT⟩
  have aBI:Hp _ aJR (_::(aBF++(Dj++[]))):=aJT
  refine aa<|ax<| ?_
  obtain⟨hW3,hq3,hv3⟩:=am7 hW2 aqC
  have hM3:=hM2.set aqC aBG
  refine aE J3<|V (ay O O J)<|aI rfl<|aa<| ?_
  refine⟨(j+1,aJS,(aBF++(Dj++[]))),aZ,akq.u4.u4.u4.u4.u1.u1,aBI,(aK I qe),J,J,?_,J,J,?_⟩
  .exact hW3
  exact⟨_,_,_,_,rfl,hM3,aBH.more J J⟩
 refine a7 (id:=2) rfl<|ah<|SR<|aE EY<|aE SV<|bV O (akn (m:Int) J hM.htr J J (A:=[_]) (R:=(Dj++[])) hZ2 aqz) (aJ call26 O O)<| ?_
 rintro _ aJU ⟨aNi,aT6,aNj,aNk,aJV,rfl,aBJ,abr,aJW⟩
 obtain⟨ho1,hs1,hl1⟩:=hM.back aBJ
 subst ho1
 rw[hs1]at abr
 have hmb:=auV abr
 have aqD:Hp _ aJU (_::(aJV++(Dj++[]))):=aJW
 refine V (bO O)<|mB rfl<|cC O rfl<|aE EY<|aG O aqD (SQ abr aqD (fun x hx=>(mT (dx _ hx)))) (aq call24 O)<|fun aT8 aBK=>aE SV<|V (jB O O)<|mB rfl<|mB rfl<|cC O (bF ((fun h=>h J)))<|aE EY<|aE SV<|V (ay O O J)<|bV O (akn ((m:Int)+1) J (fun q=>absurd q J) J J (A:=[_]) (R:=(Dj++[])) abr aBK) (aJ call26 O O)<| ?_
 rintro _ aJX ⟨aNl,aT9,aNm,aNn,aBL,rfl,aBM,aqE,aJY⟩
 obtain⟨ho2,hs2,ht2⟩:=aBM.no J
 subst ho2
 rw[hs2,ht2]at aqE
 have aBN:Hp _ aJX (_::(aBL++(Dj++[]))):=aJY
 refine mB rfl<|aa<|dh rfl<|ak<|ah<|SR<|aE abq<|aI rfl<|aa<|aC<|bj (G:=Int×NP×NP×(List a8)) (fun⟨i,s3,u3,Z1⟩ s' w'=>(Fr (6::(16::(rg 125 24 []))) _ s')/\(Hp w w' (_::Z1))/\(s' 16=I i)/\(kk<=i)/\(i<=p.bE.length)/\(AF p.s i.toNat s3 u3)/\(∃lg tm lu tu CZ Zu1,Z1=CZ++(Zu1++[])/\tm.length=tu.length/\gQ [] w n21 s3 lg tm [] f2 auX 65 (300+i.toNat) CZ/\gQ [] w n42 u3 lu tu [] f121 aBu 1 (300+i.toNat) Zu1)) (fun⟨i,s3,u3,Z1⟩=>(p.bE.length-i).toNat) ((kk,s99,aJK,(aBL++(Dj++[])))) ⟨Fr.refl _ _,aBN,rfl,J,J,hA1.more J,⟨_,_,_,_,_,_,rfl,hl1.trans (hm.trans hmk),aqE.more J J,aBz.more J J⟩⟩<| ?_
 rintro⟨i,s3,u3,Z1⟩ aNo aUb ⟨aqF,V7,C0,i0,hi,hA3,hS⟩
 obtain⟨SW,SX,SY⟩:=aqF.t3 3 akr 7 EY 9 au0
 obtain⟨lg3,tm3,lu3,tu3,Zf3,Zu3,rfl,aBO,hZ3,hU3⟩:=hS
 refine ah<|SR<|aE C0<|V (fA kN 2 O rj SW)<|V (bZ (hp.bE.sl.hp V7) lj O O (V7.cell (i:=0) O O))<|V (aA (hp.bE.sl.hp V7) O lj O)<|V (aL O O)<|aa<|aF O (fun aJZ=> ?_) (fun aJZ=> ?_)
 .refine ak<|ah<|aC<|ah<|have aoj:=dc (d:=gz) (l:=p.bE) (k:=i) J J;gY aM V7 (sP (sA (sA sR)))<|fun aUe aqG=>have wO:=aqG.sub (sP (sA (sA sR)));AQ 0 O wO (run_move SX)<|AQ 1 O wO (fA kN 2 O rj SW)<|AT 2 O wO (fun w hS=>bZ (hp.bE.sl.hp hS) lj O O (hS.cell (i:=0) O O))<|AQ 3 O wO (run_move C0)<|AT 4 O wO (fun w hS=>ag (hp.bE.sl.hp hS) lj D8 O O J)<|AT 5 O wO (fun w hS=>dY (dv:=gz) qv (hp.bE.sl.hp hS) iv O O O J)<|AQ 6 O wO (run_move C0)<|AQ 8 O wO (run_move SY)<|AQ 9 O wO (fA kN 2 O rj SW)<|AT 10 O wO (fun w hS=>bZ (hp.bE.sl.hp hS) lj O O (hS.cell (i:=0) O O))<|AQ 11 O wO (run_move C0)<|AT 12 O wO (fun w hS=>ag (hp.bE.sl.hp hS) lj D8 O O J)<|AT 13 O wO (fun w hS=>dY (dv:=gz) qv (hp.bE.sl.hp hS) iv O O O J)<|AQ 14 O wO (run_move C0)<|A1 7<|th O aH O (V5 (p.bE.getD i.toNat gz) i hA3.nw.ns.ok (hcs _ aoj) J J J hT (hp.at J J) (A:=[_]) (R:=(Zu3++[])) hZ3 aqG) (bB call13 O O O) (fun u w' ⟨_,_,_,_,Z',_,_,_,_,_,h⟩=>Hp.sub (L:=_::(Z'++(Zu3++[]))) h (sP (sA (sA sR))))<| ?_
  rintro _ aJ0 ⟨aNr,aJ1,aNs,aNt,ZG,rfl,aBP,aNu,aBQ,aBR,aJ2⟩
  have aBS:Hp _ aJ0 (_::(ZG++(Zu3++[]))):=aJ2
  refine A1 15<|have aBT:Hp _ _ (_::(Zu3++(ZG++[]))):=Hp.swz (A:=[_]) aBS;th O aH O (V5 (p.bE.getD i.toNat gz) i hA3.nu.ns.ok (hcs _ aoj) J J J hT (hp.at J J) (A:=[_]) (R:=(ZG++[])) hU3 aBT) (bB call13 O O O) (fun u w' ⟨_,_,_,_,Z',_,_,_,_,_,h⟩=>Hp.sub (L:=_::(Z'++(ZG++[]))) h (sP (sA (sA sR))))<| ?_
  rintro _ aJ3 ⟨aNv,aJ4,aNw,aNx,au3,rfl,aBU,aNy,aBV,aBW,aJ5⟩
  have aBX:Hp _ aJ3 (_::(au3++(ZG++[]))):=aJ5
  obtain⟨hoo,hA2⟩:=hA3.add J (hal _ aoj) (hcs _ aoj) aBP aBU
  have auZ:=aaW aBQ aBV hoo aBO
  subst hoo
  have aqH:Hp _ _ (_::(ZG++(au3++[]))):=Hp.swz (A:=[_]) aBX
  refine AQ 16 O (aqH.sub (sP (sA (sA sR)))) (KS qb O O)<|AD<|dh (bR (c:=false) ((WO _)))<|ak<|ax<|aE C0<|V (ay O O J)<|aI rfl<|aa<| ?_
  refine⟨(i+1,aJ1,aJ4,(ZG++(au3++[]))),aZ,aqF.u4.u4.u4.u4.u4.u4.u1,aqH,(aK I qe),J,J,?_,?_⟩
  ·(rw[show(i+1).toNat=i.toNat+1 by omega];exact hA2)
  (rw[show(i+1).toNat=i.toNat+1 by omega,<-s0];exact⟨_,_,_,_,_,_,rfl,auZ,aBR,aBW⟩)
 refine a7 (id:=4) rfl<|ah<|SR<|aE SX<|bV O (vD hT hA3.nw J J (A:=[_]) (R:=(Zu3++[])) hZ3 V7) (aq Ea O)<| ?_
 rintro _ aJ6 ⟨aNz,aJ7,aNA,f259,aUf,aUg,aks,rfl,aBY,aNB,aNC,aND,aNE,akt,aJ8⟩
 have aBZ:Hp _ aJ6 (_::(aks++(Zu3++[]))):=aJ8
 refine aE SY<|have aB0:Hp _ _ (_::(Zu3++(aks++[]))):=Hp.swz (A:=[_]) aBZ;bV O (vD hT hA3.nu J J (A:=[_]) (R:=(aks++[])) hU3 aB0) (aq Ea O)<| ?_
 rintro _ aJ9 ⟨aNF,aKa,aNG,f279,aUh,aUi,aB1,rfl,aB2,aNH,aNI,aNJ,aNK,aku,aKb⟩
 have aB3:Hp _ aJ9 (_::(aB1++(aks++[]))):=aKb
 have aqI:Hp _ _ (_::(aks++(aB1++[]))):=Hp.swz (A:=[_]) aB3
 have aUj:=aaV (lg:=lg3) (lg':=lu3) hA3.sk aBO
 obtain⟨hoo,hA4⟩:=hA3.set aBY aB2
 subst hoo
 refine V (KS qb O O)<|mB rfl<|cC O (bR (c:=false) ((WO _)))<|aE SX<|aG O aqI (SQ akt aqI (fun x hx=>(mT (dx _ hx)))) (aq call24 O)<|fun aUk aqJ=>aE SY<|aG O aqJ (SQ aku aqJ (fun x hx=>(mT (bt _ (dx _ hx))))) (aq call24 O)<|fun aUl abt=>V (jB O O)<|mB rfl<|aa<|dh (bF ((fun h=>h J)))<|ak<|ah<|SR<|V (fA kN 0 O GF SW)<|V (fA iD 1 O xe O)<|V (bZ (hp.s.vars.sl.hp abt) og O O (abt.cell (i:=0) O O))<|V (aA (hp.s.vars.sl.hp abt) O og O)<|aE (v:=I 0) rfl<|aa<|aC<|bj (G:=Int) (fun v s' w'=>(Fr (6::(17::(rg 165 11 []))) _ s')/\(Hp w w' _)/\(s' 165=I v)/\(0<=v)/\(v<=p.s.vars.length)) (fun v=>(p.s.vars.length-v).toNat) (0) ⟨Fr.refl _ _,abt,rfl,J,J⟩<| ?_
 rintro v aNL aUm ⟨akv,abu,NR,v0,hv⟩
 have akw:=akv.w1 164
 obtain⟨akx,aky⟩:=akv.t2 7 SX 9 SY
 refine SR<|V (aL NR akw)<|aa<|ah<|aF O (fun aKc=> ?_) (fun aKc=> ?_)
 .refine ak<|ah<|aC<|SR<|aE NR<|aI rfl<|aa<|SR<|aE akx<|mI rfl<|aG O abu (SO _ akt abu (fun x hx=>(mT (dx _ hx)))) (aJ call23 O O)<|fun aUn aqK=>aE aky<|mI rfl<|aG O aqK (SO _ aku aqK (fun x hx=>(mT (bt _ (dx _ hx))))) (aJ call23 O O)<|fun aUo aB4=>have NV:0<=v/\v<(aJ7.ai.length:Int):=⟨v0,by have:=hA4.np.nv;omega⟩;have hvu:0<=v/\v<(aKa.ai.length:Int):=⟨v0,by have:=hA4.nq.nv;omega⟩;V (OS B3 O O)<|aa<|dh (bR (c:=false) ((by rw[aQ NV,aQ hvu,gB (hA4.va _ J)];rfl)))<|ak<|ax<|V (ay NR O J)<|mI rfl<|aa<| ?_
  refine⟨v+1,aZ,akv.u4.u4.u4,aB4,(aK I qe),J,J⟩
 refine a7 (id:=6) rfl<|SR<|aE akx<|aG O abu (SP akt abu (fun x hx=>(mT (dx _ hx)))) (aq call16 O)<|fun aUq aqL=> ?_
 refine V (run_move bG) ?_
 refine V (bA O (v:=U _) O)<|V (bA O (v:=B _) O)<|aU rfl<|aB rfl<|aa<|SR<|aE aky<|aG O aqL (SP aku aqL (fun x hx=>(mT (bt _ (dx _ hx))))) (aq call16 O)<|fun aUr aqM=> ?_
 refine V (run_move bG) ?_
 refine V (bA O (v:=U _) O)<|V (bA O (v:=B _) O)<|aU rfl<|aB rfl<|aa<|SR<|mB rfl<|mB rfl<|V (aeT qb O O)<|mB rfl<|cC O (bR (c:=true) ((by rw[hA4.sk];exact beq_self_eq_true _)))<|aG O aqM (mc _ (hT.hp aqM)) (GY call11)<|fun aUs aB5=>mB rfl<|aB rfl<|aa<|aj<|oB O ?_ aB5
 rfl
end
end Go.Proofs.YtlhjdflgjbkpmaaGreatDoor.W

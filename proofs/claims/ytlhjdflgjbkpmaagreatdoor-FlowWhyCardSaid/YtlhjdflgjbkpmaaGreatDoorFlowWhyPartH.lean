/- Part 8 of the proof of FlowWhy: its plain laws and the walks of its functions. -/
import Derived.Test.YtlhjdflgjbkpmaaGreatDoorFlowWhyPartG
set_option linter.all false
namespace Go.Proofs.YtlhjdflgjbkpmaaGreatDoor.W
section
open Go Go.RowKit Go.Proofs.YtlhjdflgjbkpmaaGreatDoor.E Go.Proofs.YtlhjdflgjbkpmaaGreatDoor.M
set_option maxRecDepth 100000
open Go.Proofs.Tryz
variable{fr:List bu}
variable{W0 w:World}{n m:Nat}{cs:List (List Nat)}{wr:Value}{vL:Value}{vt:Value}{vv:Value}{vy:Value}{vu:Value}{vq:Value}{sn:Int}{vW:Value}{vU:Value}{vT:Value}{cn:Int}{sk:Bool}{wy:BitVec 64}{vd:Value}{vm:Value}{cW:Option (Nat×Array Value)}{cU:Option (Nat×Array Value)}{W:List (BitVec 64)}{ul:List (Value×jU)}{ts:List Int}{aq:List pY}{bf:List Int}{ak:List El}{bp:List (BitVec 64)}{us:List j5}{qs:List dD}{lg:List (Value×mE)}{tm:List Int}{L:List bu}
set_option maxHeartbeats 4000000 in
theorem HF{ids:List Nat}{tl:List (Nat×Rl)}{f:Ct}{nk:Nat}{Zf R:List bu}(Jzz:za->Prop)(mu:za->Nat)(hm:m+ak.length<=100000)(QL:bp.length=ak.length)(O4:us.length=ak.length)(oF:(bB cs).length=ak.length)(QM:ak.length<=1000)(hlg:lg.length+1000*mu (Wj (s5 cs us aq bf qs sn ak.length ⟨ak,bp,[],List.replicate qs.length false⟩).s sn qs.length)<=400000000000)(yp:∀k:Nat,k<us.length->dS 3 (us.getD k de)∈R/\(us.getD k de).l.length<=1000/\∀i∈(us.getD k de).l,0<=i/\i<(qs.length:Int))(hf:FO nk f)(hnk:nk+3*mu (Wj (s5 cs us aq bf qs sn ak.length ⟨ak,bp,[],List.replicate qs.length false⟩).s sn qs.length)<=90000000000)(XB:0<=sn/\sn<=qs.length)(hqn:qs.length<=1000)(hqo:ZS aq.length ak.length qs)(hlt:bf.length=ak.length)(hlr:∀k:Nat,k<bf.length->0<=bf.getD k 0/\bf.getD k 0<aq.length)(hI0:Jzz (Wj (s5 cs us aq bf qs sn ak.length ⟨ak,bp,[],List.replicate qs.length false⟩).s sn qs.length))(hst:∀dc eN Km m6 x,Jzz ⟨dc,eN,x::Km,m6⟩->∀r,oc (bB (s5 cs us aq bf qs sn ak.length ⟨ak,bp,[],List.replicate qs.length false⟩).cs) us (aq.getD (qs.getD x.toNat cX).bf.toNat p5).p.sh (qs.getD x.toNat cX) dc eN Km (m6.set x.toNat false) wy=r->r.ok=true->Jzz ⟨r.ak,r.bp,r.wl,r.wi⟩/\mu ⟨r.ak,r.bp,r.wl,r.wi⟩<mu ⟨dc,eN,x::Km,m6⟩)(w:World)(hT:pc W0)(hlv:Wf TX (Kz (Kw W0) R) ids tl aq)(hZ:kY (BN fr) ids f tl Zf)(Ju:ZN (Kz (Kw W0) R) qs)(h:xA FX n m cs vW vU cW cU W ul ts cn R)(hH:Hp W0 w (nE n wr vL vt vv vy vu vq sn vW vU vT cn sk wy vd vm cW cU W ul ts aq bf ak bp us qs lg tm ((Zf++R)))):Calls Tryz.prog 42 #[pt n] w (j3 fun u w'=>∃(ok:Bool) (s:za) (Un:BitVec 64) (a:Nat) (ON OO XG:Value) (Re Rf:Option (Nat×Array Value)) (W':List (BitVec 64)) (zB:List (Value×jU)) (ts':List Int) (Rg:Int) (vd':Value) (new:List (Value×mE)) (Lb Z':List bu) (f':Ct),u=B ok/\SpR (bB (s5 cs us aq bf qs sn ak.length ⟨ak,bp,[],List.replicate qs.length false⟩).cs) us aq qs s ok wy Un/\Jzz s/\a+mu s<=mu (Wj (s5 cs us aq bf qs sn ak.length ⟨ak,bp,[],List.replicate qs.length false⟩).s sn qs.length)+(if ok then 0 else 1)/\xA FX n (m+ak.length) (s5 cs us aq bf qs sn ak.length ⟨ak,bp,[],List.replicate qs.length false⟩).cs ON OO Re Rf W' zB ts' Rg (Lb++R)/\(∀x∈new,nr NX n Lb x/\(ok=false->I8 x.2))/\new.length<=1001*ak.length+1000*a+1/\iO new (NP.mk aq bf ak bp ((qu us)) qs sn cs sk Un wr) (NP.mk aq bf (s.ak) (s.bp) ((qu us)) qs ((if ok then(qs.length:Int)else sn)) ((s5 cs us aq bf qs sn ak.length ⟨ak,bp,[],List.replicate qs.length false⟩).cs) sk Un wr)/\kY (BN fr) ids f' tl Z'/\p6 f f' a a (a+(s5 cs us aq bf qs sn ak.length ⟨ak,bp,[],List.replicate qs.length false⟩).j)/\Hp W0 w' (nE n wr vL vt vv vy vu vq ((if ok then(qs.length:Int)else sn)) (ON) (OO) (XG) (Rg) sk Un (vd') vm (Re) (Rf) (W') (zB) (ts') aq bf (s.ak) (s.bp) us qs (lg++new) tm ((Z'++(Lb++R))))):=by
 simp only[nE]at hH
 refine en func42 rfl rfl<|SR<|gO hH (v:=Pn _ _) rfl<|fun b3 w1 bq=>va (v:=B false) rfl<|aa<|Zz<|SR<| ?_
 obtain⟨R1,Xr⟩:∃R1:List bu,R1=[bu.blk b3 (.cells #[pt n] 31 (0,0))]++R:=⟨_,rfl⟩
 have ix:=Hp.mQ (A:=[_,_,_,_,_,_,_,_,_,_,_,_]) (B:=[bu.blk b3 (.cells #[pt n] 31 (0,0))]) (R:=Zf) (bq.pj [1,1,1,1,1,1,1,1,1,1,1,1])
 rw[<-Xr]at ix
 simp only[gB,eR]at ix
 have hb5:bu.blk b3 (.cells #[pt n] 31 (0,0))∈R1:=by rw[Xr];simp
 have afe:Wf TX (Kz (Kw W0) R1) ids tl aq:=hlv.mono (Le.zz fun x hx=>by rw[Xr];exact bH _ hx)
 have aoO:ZN (Kz (Kw W0) R1) qs:=Ju.mono (Le.zz fun x hx=>by rw[Xr];exact bH _ hx)
 have OT:=h.mono (L':=R1) fun e he=>by rw[Xr];exact bH _ he
 have KD:∀k:Nat,k<us.length->dS 3 (us.getD k de)∈R1/\(us.getD k de).l.length<=1000/\∀i∈(us.getD k de).l,0<=i/\i<(qs.length:Int):=fun k hk=>⟨by rw[Xr];exact bH _ (yp k hk).1,(yp k hk).2⟩
 refine V (aE dh O O (ix.pD ((fun x hx=>(mT (mT (mT (mT (mT (mT (mT (mT (mT (mT (mT (mT (bH _ hx)))))))))))))) _ hb5) (v:=Pn _ _) O))<|V (af O)<|V (fA ct 6 O xZ O)<|lV ov ix 0 O O rfl<|V (aD (ix.sl (i:=9) O) O ov O)<|ud (qs.length) (qs.length) ix (AB (f:=B) (z0:=false) ry O O O O (show _=Value.int .i64 ((qs.length:Nat):Int)from O) (show _=Value.int .i64 ((qs.length:Nat):Int)from O) az J)<|fun b8 w6 eE=>have iD:=eE.Kg (i:=0) (n:=qs.length) (l:=List.replicate (qs.length) false) (f:=B) O aJ J;?_
 simp only[jd]at iD
 refine V (dL (vs:=[(1,(.slice (some ⟨b8,0,none⟩) (qs.length) (qs.length)))]) O (PE _ _ _))<|gO iD (v:= .agg _) rfl<|fun b12 Eo dr=>have bV:=dr.eI 3 1;va (v:=Pn _ _) rfl<|aa<|SR<|V (aE dh O O (bV.pD ((fun x hx=>(mT (mT (mT (mT (mT (mT (mT (mT (mT (mT (mT (mT (mT (mT (mT (bH _ hx))))))))))))))))) _ hb5) (v:=Pn _ _) O))<|aF (v:=Pn _ _) rfl<|cG O (Ez (cq:=none) (ql:= .slice none 0 0) (wl:=[]) (wi:=List.replicate qs.length false) hm QL O4 oF QM J (Ja _) (by rw[Rv];omega) (fun k hk=>⟨(KD k hk).1,(KD k hk).2.1,fun i hi=>by have:=(KD k hk).2.2 i hi;simp only[Rv,n8];omega⟩) hf J XB hqn hqo.pl hlt hlr _ hT afe hZ aoO OT trivial (bV.pj [3,3,3,3,3,3,3,3,3,3,3,3,1])) (aL call84 O O)<| ?_
 rintro _ w32 ⟨c16,ak8,ak9,aoP,aoQ,aoR,W39,aoS,aoT,aoU,aHH,q18,aHI,aHJ,aBf,Z22,f23,aHK,rfl,acR,aHL,aHM,aHN,aHO,aHP,aHQ,ku⟩
 subst aHK
 simp only[nE,wE]at ku
 have mz:=ku.pk [13,12,12]
 refine aa<|ai<|SR<|V (aE dh O O (mz.pD ((fun x hx=>(mT (mT (mT (mT (mT (mT (mT (mT (mT (mT (mT (mT (mT (mT (mT (bH _ (bH _ hx)))))))))))))))))) _ hb5) (v:=Pn _ _) O))<|V (af O)<|V (fA ct 7 O aP O)<|lI bx mz 3 O O rfl<|aI rfl<|aa<|aA<|have ok0:=atd (cs:=cs) (us:=us) (aq:=aq) (bf:=bf) (qs:=qs) (sn:=sn) (ak:=ak) (bp:=bp) J (fun k hk=>(KD k hk).2.2) J;bt (G:=Int×Value×(Option (Nat×Array Value))×(List Int)×(List Bool)) (fun⟨k,yJ,B9,qz,m6⟩ s' w'=>(Fr (4::(rg 21 12 [])) _ s')/\(Hp W0 w' (qE B9 yJ 3 (qz.map I):: .blk b12 (.cells #[yJ,(.slice (some ⟨b8,0,none⟩) (qs.length) (qs.length))] 156 (0,0))::jY B (.slice (some ⟨b8,0,none⟩) (qs.length) (qs.length)) 4 m6::_))/\(s' 4=I k)/\(sn<=k)/\(k<=qs.length)/\(qO B9 yJ (qz.map I))/\((qz,m6)=(r7 ((s5 cs us aq bf qs sn ak.length ⟨ak,bp,[],List.replicate qs.length false⟩).s.wl,(s5 cs us aq bf qs sn ak.length ⟨ak,bp,[],List.replicate qs.length false⟩).s.wi) (upI sn (k-sn).toNat)))) (fun⟨k,yJ,B9,qz,m6⟩=>(qs.length-k).toNat) ((sn,q18,aHI,(s5 cs us aq bf qs sn ak.length ⟨ak,bp,[],List.replicate qs.length false⟩).s.wl,(s5 cs us aq bf qs sn ak.length ⟨ak,bp,[],List.replicate qs.length false⟩).s.wi)) ⟨Fr.refl _ _,mz,rfl,J,J,aHQ,(by rw[Int.sub_self];rfl)⟩<| ?_
 rintro⟨k,yJ,B9,qz,m6⟩ aQI w44 ⟨aBg,pK,ala,h0,hk,O6,hp⟩
 obtain⟨arp,arq⟩:=aBg.w2 1 3
 have ok1:QJ qs.length ak.length bp.length ⟨(s5 cs us aq bf qs sn ak.length ⟨ak,bp,[],List.replicate qs.length false⟩).s.ak,(s5 cs us aq bf qs sn ak.length ⟨ak,bp,[],List.replicate qs.length false⟩).s.bp,qz,m6⟩:=by have h1:=anL ok0 (l:=upI sn (k-sn).toNat) (fun i hi=>by obtain⟨j,hj,rfl⟩:=fN.1 hi;have:=ou.1 hj;omega);rw[<-hp]at h1;exact h1
 have wq1:=ok1.wq.len
 have li1:=ok1.li
 simp only at wq1 li1
 refine ai<|SR<|aF ala<|V (aE dh O arp (pK.pD ((fun x hx=>(mT (mT (mT (mT (mT (mT (mT (mT (mT (mT (mT (mT (mT (mT (mT (bH _ (bH _ hx)))))))))))))))))) _ hb5) (v:=Pn _ _) O))<|V (af O)<|V (fA ct 6 O xZ O)<|lV ov pK 3 O O rfl<|V (aD (pK.sl (i:=12) O) O ov O)<|V (aN O O)<|aa<|aG O (fun h46=> ?_) (fun h46=> ?_)
 .refine an<|ai<|aA<|au<|aF arq<|aF ala<|cG O (qA _ J J _ O6 (pK.pj [1])) (aL call85 O O)<| ?_
  rintro _ w49 ⟨rfl,v51,c52,aHR,eO⟩
  simp only[wE]at eO
  have gU:=eO.pk [1]
  refine aa<|au<|aF ala<|V (ax O O J)<|aI rfl<|aa<| ?_
  refine⟨(k+1,v51,c52,(pH (qz,m6) k).1,(pH (qz,m6) k).2),aX,aBg.u4.u4.u4.u1,(Hp.conv gU aM),(aK I aM),J,J,?_,?_⟩
  .exact aHR
  (rw[ai6 h0,aeA,<-hp])
 refine a8 (id:=0) rfl<|ai<|ZA<|ai<|aA<|have ek:k=qs.length:=J;?_
 rw[ek]at hp
 have e0:(⟨(s5 cs us aq bf qs sn ak.length ⟨ak,bp,[],List.replicate qs.length false⟩).s.ak,(s5 cs us aq bf qs sn ak.length ⟨ak,bp,[],List.replicate qs.length false⟩).s.bp,qz,m6⟩:za)=(Wj (s5 cs us aq bf qs sn ak.length ⟨ak,bp,[],List.replicate qs.length false⟩).s sn qs.length):=by unfold Wj;rw[<-hp]
 have anv:(bB (s5 cs us aq bf qs sn ak.length ⟨ak,bp,[],List.replicate qs.length false⟩).cs).length=ak.length:=by rw[anM];omega
 have aHS:=axR (cs:=cs) (us:=us) (aq:=aq) (bf:=bf) (qs:=qs) (sn:=sn) (n:=ak.length) (s:=⟨ak,bp,[],List.replicate qs.length false⟩)
 have aQK:(s5 cs us aq bf qs sn ak.length ⟨ak,bp,[],List.replicate qs.length false⟩).j<=1000*1000:=kf aHS (xV J J)
 refine bt (G:=Value×Value×(Option (Nat×Array Value))×(List El)×(List (BitVec 64))×(List Int)×(List Bool)×(List (Value×mE))×(List bu)×(List bu)×Ct×Nat×(List bu)) (fun⟨Xn,yJ,B9,dc,eN,qz,m6,new,Lb,HL,f1,a,Z1⟩ s' w'=>(Fr (2::(rg 33 17 [])) _ s')/\(Hp W0 w' (qE B9 yJ 3 (qz.map I):: .blk b12 (.cells #[yJ,(.slice (some ⟨b8,0,none⟩) (qs.length) (qs.length))] 156 (0,0))::jY B (.slice (some ⟨b8,0,none⟩) (qs.length) (qs.length)) 4 m6:: .blk n (.cells #[wr,vL,vt,vv,vy,vu,vq,I sn,ak8,ak9,aoP,I aoU,B sk,U wy,Xn,vm] 111 (0,0))::cE aoQ ak8 35 (W39.map U)::cE aoR ak9 1 (aoS.map Prod.fst)::jY I aoP 3 aoT::wu XC 13 vL 119 aq::jY I vt 3 bf::wu pM 8 vv 37 dc::jY U vy 35 eN::jY j5.v vu 99 us::wu qw 13 vq 128 qs::jY Prod.fst Xn 1 (lg++new)::jY I vm 3 tm::Z1))/\(Jzz ⟨dc,eN,qz,m6⟩)/\(QJ qs.length ak.length bp.length ⟨dc,eN,qz,m6⟩)/\(Z1=HL++(Lb++R1))/\(kY (BN fr) ids f1 tl HL)/\(p6 f f1 a a (a+(s5 cs us aq bf qs sn ak.length ⟨ak,bp,[],List.replicate qs.length false⟩).j))/\(a+mu ⟨dc,eN,qz,m6⟩<=mu (Wj (s5 cs us aq bf qs sn ak.length ⟨ak,bp,[],List.replicate qs.length false⟩).s sn qs.length))/\(qO B9 yJ (qz.map I))/\(xA FX n (m+ak.length) (s5 cs us aq bf qs sn ak.length ⟨ak,bp,[],List.replicate qs.length false⟩).cs ak8 ak9 aoQ aoR W39 aoS aoT aoU (Lb++R1))/\(∀x∈new,nr NX n Lb x/\I8 x.2)/\(new.length<=1001*ak.length+1000*a)/\(iO new (NP.mk aq bf ak bp ((qu us)) qs sn cs sk wy wr) (NP.mk aq bf dc eN ((qu us)) qs sn ((s5 cs us aq bf qs sn ak.length ⟨ak,bp,[],List.replicate qs.length false⟩).cs) sk wy wr))) (fun⟨Xn,yJ,B9,dc,eN,qz,m6,new,Lb,HL,f1,a,Z1⟩=>mu ⟨dc,eN,qz,m6⟩) ((aHH,yJ,B9,(s5 cs us aq bf qs sn ak.length ⟨ak,bp,[],List.replicate qs.length false⟩).s.ak,(s5 cs us aq bf qs sn ak.length ⟨ak,bp,[],List.replicate qs.length false⟩).s.bp,qz,m6,aHJ,aBf,Z22,f23,0,(Z22++(aBf++R1)))) ⟨Fr.refl _ _,pK,(by rw[e0];exact hI0),ok1,rfl,aHO,(aHP.more (nQ _) (nQ _) J),(by rw[e0];omega),O6,acR,aHL,(by have:=aHM;omega),aHN⟩ ?_
 rintro⟨Xn,yJ,B9,dc,eN,qz,m6,new,Lb,HL,f1,a,Z1⟩ ayK w55 ⟨Ox,jz,hI,aaT,hz,Lj,hcj,ham,O6,aoV,XH,hnl,hbk⟩
 obtain⟨HE,Oy⟩:=Ox.t2 1 arp 3 arq
 subst hz
 have lv1:dc.length=ak.length:=aaT.lv
 have ly1:eN.length=bp.length:=aaT.ly
 have li1:m6.length=qs.length:=aaT.li
 have wq1:=aaT.wq.len
 simp only at wq1
 refine ai<|SR<|aF Oy<|V (af O)<|V (fA zQ 0 O dJ O)<|lV bD jz 1 O O rfl<|V (aD (jz.slQ (i:=0) O O6) O bD O)<|V (dP O O)<|aa<|aG O (fun PC=> ?_) (fun PC=> ?_)
 .refine an<|aA<|ai<|ai<| ?_
  obtain⟨x,Km,hxw⟩:=List.exists_cons_of_length_pos (show 0<qz.length by have h9:=‹(0:Int)<_›;simpa using h9)
  subst hxw
  have htk:=aaT.take
  have T6:=hqo.at htk.1.1 htk.1.2
  have wq2:=htk.2.wq.len
  simp only[n8]at wq2
  have hqx:Ej (Kz (Kw W0) (Lb++R1)) (qs.getD x.toNat cX):=(aoO.at htk.1.1 htk.1.2).mono (Le.zz fun y hy=>bH _ hy)
  have aHT:Wf TX (Kz (Kw W0) (Lb++R1)) ids tl aq:=afe.mono (Le.zz fun y hy=>bH _ hy)
  refine fZ (z:=⟨some _,_,_,_,_,none⟩) aQ O aQ jz (sQ (sQ (sQ sR)))<|fun w58 B3=>have aaU:=B3.sub (sQ (sQ (sQ sR)));AT 0 O aaU (fun w hS=>aE dh O HE (hS.pD ((fun x hx=>(mT (mT (mT (mT (mT (mT (mT (mT (mT (mT (mT (mT (bH _ (bH _ hx))))))))))))))) _ hb5) (v:=Pn _ _) O))<|AQ 1 O aaU (run_move Oy)<|AT 2 O aaU (fun w hS=>aE dh O HE (hS.pD ((fun x hx=>(mT (mT (mT (mT (mT (mT (mT (mT (mT (mT (mT (mT (bH _ (bH _ hx))))))))))))))) _ hb5) (v:=Pn _ _) O))<|AQ 3 O aaU (af O)<|AQ 4 O aaU (fA ct 6 O xZ O)<|tV 5 O aaU ov 0 O O rfl<|AQ 6 O aaU (run_move Oy)<|A1 7<|yl O aC O (Ey (wi:=m6) x (by have:=htk.1;omega) _ O6 (B3.pj [1])) (ay call87 O) (fun u w' ⟨_,Us,Ut,_,h⟩=>((show Hp _ w' (wE _ _ _ _ _ _ (_::_::_::_::_::_::_::_::_::_::_::_::(HL++(Lb++R1))))from h).pj [1]).sub (sQ (sQ (sQ sR))))<| ?_
  rintro _ w62 ⟨rfl,v64,c65,aHU,o6⟩
  simp only[wE]at o6
  have T7:=o6.pk [1]
  refine AT 8 O (T7.sub (sQ (sQ (sQ sR)))) (fun w hS=>ah (hS.sl (i:=9) O) ov LQ O O J)<|AT 9 O (T7.sub (sQ (sQ (sQ sR)))) (fun w hS=>dY (dv:=cX) pZ (hS.sl (i:=9) O) jh O O O J)<|AD<|cG O (KC (qs.getD x.toNat cX) J J J J J Fu J (fun k hk=>⟨bH _ (KD k hk).1,(KD k hk).2.1,fun i hi=>by have:=(KD k hk).2.2 i hi;simp only[Rv,n8];omega⟩) (hcj.ok hf) J T6.bf T6.code (by have:=T6.to;omega) (fun hp=>by have:=T6.pl hp;omega) (fun v hv=>by have:=T6.vars v hv;omega) _ hT aHT Lj hqx aoV aHU (T7.pj [3,3,3,3,3,3,3,3,3,3,3,3,1])) (bA call86 O O O)<| ?_
  rintro _ w83 ⟨r70,aBh,q72,aHV,aBi,ae8,Z76,PI,rfl,aoW,aBj,avd,aBk,aHX,kx⟩
  simp only[nE,wE]at kx
  have W3:=kx.pk [13,12,12]
  refine aa<|bX O (fun h87=> ?_) (fun h87=> ?_)
  .refine a8 (id:=3) rfl<|have hok:r70.ok=true:=jK;have hwy:r70.wy=wy:=(by rw[<-PI];exact ata (by rw[PI];exact hok));?_
   rw[hwy]at avd
   have hlo:=ai7 (cl:=(bB (s5 cs us aq bf qs sn ak.length ⟨ak,bp,[],List.replicate qs.length false⟩).cs)) (us:=us) (sh:=(aq.getD (qs.getD x.toNat cX).bf.toNat p5).p.sh) (q:=(qs.getD x.toNat cX)) (wy:=wy) (fun k hk=>(KD k hk).2.2) J htk.2
   rw[PI]at hlo
   have ave:=hst dc eN Km m6 x hI r70 PI hok
   have Xi:=Wh (afe.at T6.bf.1 T6.bf.2).dep (bB (s5 cs us aq bf qs sn ak.length ⟨ak,bp,[],List.replicate qs.length false⟩).cs) us (aq.getD (qs.getD x.toNat cX).bf.toNat p5).p.sh (qs.getD x.toNat cX) dc eN Km (m6.set x.toNat false) wy f1
   rw[PI]at Xi
   refine⟨(aBh,q72,aHV,r70.ak,r70.bp,r70.wl,r70.wi,new++aBi,ae8++Lb,Z76,Wg (aq.getD (qs.getD x.toNat cX).bf.toNat p5).d r70.ks f1,a+1,(Z76++(ae8++(Lb++R1)))),?_,Ox.u4.u4.u4.u4.u1,(Hp.conv W3 (by simp only[dH,hwy];done)),?_,?_,?_,?_,?_,?_,?_,?_,?_,?_,?_⟩
   .exact ave.2
   .exact ave.1
   .exact hlo
   ·(simp only[dH])
   .exact aBk
   .exact(hcj.trans Xi).more J J J
   ·(have:=ave.2;omega)
   .exact aHX
   .exact aoV.mono fun e he=>(by rw[dH];exact bH _ he)
   .exact(fun x hx=>by rcases fh.1 hx with q|q;exact⟨(XH x q).1.mono (fun e he=>bH _ he),(XH x q).2⟩;exact⟨(aoW x q).1.mono (fun e he=>dI _ he),(aoW x q).2⟩)
   ·(have:=aBj;have:=wz (cl:=(bB (s5 cs us aq bf qs sn ak.length ⟨ak,bp,[],List.replicate qs.length false⟩).cs)) (i:=(qs.getD x.toNat cX).to.var);rw[ed];omega)
   exact hbk.trans avd
  refine an<|SR<|va (v:=B false) rfl<|aa<|aj<|have hrf:r70.ok=false:=jK;have hno:=atb (cl:=(bB (s5 cs us aq bf qs sn ak.length ⟨ak,bp,[],List.replicate qs.length false⟩).cs)) (us:=us) (sh:=(aq.getD (qs.getD x.toNat cX).bf.toNat p5).p.sh) (q:=(qs.getD x.toNat cX)) (ak:=dc) (bp:=eN) (wl:=Km) (wi:=m6.set x.toNat false) (wy:=wy) (by rw[PI];exact hrf);?_
  rw[PI]at hno
  have Xi:=Wh (afe.at T6.bf.1 T6.bf.2).dep (bB (s5 cs us aq bf qs sn ak.length ⟨ak,bp,[],List.replicate qs.length false⟩).cs) us (aq.getD (qs.getD x.toNat cX).bf.toNat p5).p.sh (qs.getD x.toNat cX) dc eN Km (m6.set x.toNat false) wy f1
  rw[PI]at Xi
  have hbw:=(hbk.wy (fun x hx=>(XH x hx).2) r70.wy).trans avd
  have zu:=(W3.sub (sQ (sQ (sQ sR))))
  rw[hno.1,hno.2]at zu hbw
  subst Xr
  refine jx (v:=B false) O O ⟨false,⟨dc,eN,x::Km,m6⟩,r70.wy,a+1,ak8,ak9,aoP,aoQ,aoR,W39,aoS,aoT,aoU,aBh,new++aBi,((ae8++Lb)++[bu.blk b3 (.cells #[pt n] 31 (0,0))]),Z76,_,rfl,.inr ⟨rfl,x,Km,rfl,by rw[PI];exact hrf,by rw[PI]⟩,hI,iW,aoV.mono fun e he=> ?_,fun y hy=> ?_,?_,hbw,aBk,(hcj.trans Xi).more J J J,Hp.conv (by rw[<-dH]at zu;exact zu) (by simp only[dH,gB,eR,uB,x7,uL];done)⟩
  .simp only[fh]at he⊢;rcases he with q|q|q;exact .inl (.inl (.inr q));exact .inl (.inr q);exact .inr q
  .rcases fh.1 hy with q|q;exact⟨(XH y q).1.mono (fun e he=>dI _ (bH _ he)),fun _=>(XH y q).2⟩;exact⟨(aoW y q).1.mono (fun e he=>dI _ (dI _ he)),fun _=>(aoW y q).2⟩
  (have:=aBj;have:=wz (cl:=(bB (s5 cs us aq bf qs sn ak.length ⟨ak,bp,[],List.replicate qs.length false⟩).cs)) (i:=(qs.getD x.toNat cX).to.var);rw[ed];omega)
 refine a8 (id:=2) rfl<|SR<|V (aE dh O HE (jz.pD ((fun x hx=>(mT (mT (mT (mT (mT (mT (mT (mT (mT (mT (mT (mT (mT (mT (mT (bH _ (bH _ hx)))))))))))))))))) _ hb5) (v:=Pn _ _) O))<|V (af O)<|V (fA ct 7 O aP O)<|lI bx jz 3 O O rfl<|lN jz (aT Tryz.zeroValue3)<|fun b91 w89 nZ=>bg nZ (i:=0) O (bK O O (v:=I _) O O O (nZ.blk (i:=0) O) az)<|fun w94 Gf=>aa<|ai<|fZ (z:=⟨none,_,_,_,_,none⟩) aQ O aQ Gf sR<|fun w96 T1=>have Xs:=T1;AT 0 O Xs (fun w hS=>aE dh O HE (hS.pD ((fun x hx=>(mT (mT (mT (mT (mT (mT (mT (mT (mT (mT (mT (mT (mT (mT (mT (mT (bH _ (bH _ hx))))))))))))))))))) _ hb5) (v:=Pn _ _) O))<|AT 1 O Xs (fun w hS=>aE dh O HE (hS.pD ((fun x hx=>(mT (mT (mT (mT (mT (mT (mT (mT (mT (mT (mT (mT (mT (mT (mT (mT (bH _ (bH _ hx))))))))))))))))))) _ hb5) (v:=Pn _ _) O))<|AQ 2 O Xs (af O)<|AQ 3 O Xs (fA ct 6 O xZ O)<|tV 4 O Xs ov 4 O O rfl<|AT 5 O Xs (fun w hS=>aD (hS.sl (i:=13) O) O ov O)<|AQ 6 O Xs (af O)<|AQ 7 O Xs (fA ct 7 O aP O)<|AD<|bg T1 (i:=4) O (bK O O (v:=I _) O O O (T1.blk (i:=4) O) aJ)<|fun w98 PD=> ?_
 simp only[jd,lf,n5,gQ,Nat.reduceAdd]at PD
 refine aa<|SR<|V (aE dh O HE (PD.pD ((fun x hx=>(mT (mT (mT (mT (mT (mT (mT (mT (mT (mT (mT (mT (mT (mT (mT (mT (bH _ (bH _ hx))))))))))))))))))) _ hb5) (v:=Pn _ _) O))<| ?_
 refine V (tA bz HE) ?_
 refine cG O (iL _ _ (.seen sn) Fu _ (PD.pj [4,4,4,4,4,4,4,4,4,4,4,4])) (aL zY O O) ?_
 rintro _ aA9 ⟨rfl,aHY,OU⟩
 simp only[nE]at OU
 have J5:=OU.pk [12,12,12,12]
 refine aa<|SR<|va (v:=B true) rfl<|aa<|aj<|have hnil:qz=[]:=List.length_eq_zero_iff.1 (by have h9:=‹¬(0:Int)<_›;simpa using h9);have ny:=Hp.mQ (A:=[_,_,_,_,_,_,_,_,_,_,_,_]) (B:=[_]) (R:=HL) ((J5.sub (sP (sQ (sQ (sQ sR))))).pj [1,1,1,1,1,1,1,1,1,1,1,1]);?_
 subst Xr
 refine jx (v:=B true) O O ⟨true,⟨dc,eN,qz,m6⟩,wy,a,ak8,ak9,aoP,aoQ,aoR,W39,aoS,aoT,aoU,aHY,new++[((jO 88 #[pt b91,pt b3]),.seen sn)],(([bu.blk b91 (.cells #[I sn] 3 (0,0))]++Lb)++[bu.blk b3 (.cells #[pt n] 31 (0,0))]),HL,f1,rfl,.inl ⟨rfl,hnil,rfl⟩,hI,iW,aoV.mono fun e he=> ?_,fun y hy=> ?_,?_,hbk.trans (aeB (s:=(NP.mk aq bf dc eN ((qu us)) qs sn ((s5 cs us aq bf qs sn ak.length ⟨ak,bp,[],List.replicate qs.length false⟩).cs) sk wy wr)) (k:=(qs.length:Int))),Lj,hcj,Hp.conv ny (by simp only[dH,gB,eR,uB,x7,uL];rfl)⟩
 .simp only[fh]at he⊢;rcases he with q|q|q;exact .inl (.inl (.inr q));exact .inl (.inr q);exact .inr q
 .rcases fh.1 hy with q|q;exact⟨(XH y q).1.mono (fun e he=>dI _ (bH _ he)),fun _=>(XH y q).2⟩;rw[gG.1 q];exact⟨⟨_,_,rfl,aJ,aJ⟩,fun q=>by cases q⟩
 (rw[ed,ey];omega)
theorem Jz{s:NP}{R L0 Z:List bu}(o:Int)(ho:0<=o/\o<=lg.length)(hlg:lg.length<=600000000000)(hb:okB (C1 lg o.toNat) s)(hu:∀s1:NP,∀k:Int,o<=k->k<lg.length->okN (lg.getD k.toNat ZT).2 s1->aoI W0 n m R L0 (lg.getD k.toNat ZT) s1)(w:World)(hZ:wL n m s lg tm R L0 Z)(hH:Hp W0 w Z):Calls Tryz.prog 43 #[pt n,I o] w (j3 fun u w'=>u= .tuple #[]/\∃Z',wL n m (Ek (C1 lg o.toNat) s) (lg.take o.toNat) tm R L0 Z'/\Hp W0 w' Z'):=by
 refine enter func43 rfl ntmps43 rfl ?_
 obtain⟨F1,L2,BF,OV,rfl⟩:=hZ
 have bY:=hH
 simp only[NZ,nE]at bY
 refine ai<|SR<|aF (v:=Pn _ _) rfl<|V (af O)<|V (fA ct 14 O kB O)<|lV ia bY 0 O O rfl<|V (aD (bY.sl (i:=10) O) O ia O)<|V (eS O O J)<|aI rfl<|aa<|aA<| ?_
 obtain⟨Zc,hZc,hHc⟩:∃Z,wL n m s lg tm R L0 Z/\Hp W0 _ Z:=⟨_,⟨F1,L2,BF,OV,rfl⟩,bY⟩
 refine bt (G:=Int×(List bu)) (fun⟨k,Z1⟩ s' w'=>(Fr (4::(rg 11 13 [])) _ s')/\(Hp W0 w' (Z1))/\(s' 4=I (k-1))/\(o<=k)/\(k<=lg.length)/\(wL n m (Ek (C1 lg k.toNat) s) lg tm R L0 Z1)) (fun⟨k,Z1⟩=>(k-o).toNat) ((lg.length,Zc)) ⟨Fr.refl _ _,hHc,rfl,J,J,(by rw[ai8 J];exact hZc)⟩ ?_
 rintro⟨k,Z1⟩ sg7 w7 ⟨Ep,eE,Jk,h0,hk,Lj⟩
 obtain⟨Gc,ae0⟩:=Ep.w2 0 1
 refine ai<|SR<|aF Jk<|aF ae0<|V (dF O O)<|aa<|aG O (fun h9=> ?_) (fun h9=> ?_)
 .refine an<|ai<|aA<|au<| ?_
  obtain⟨F10,L11,aH1,aH2,rfl⟩:=Lj
  have cD:=eE
  simp only[NZ,nE]at cD
  refine aF Gc<|V (af O)<|V (fA ct 14 O kB O)<|lV ia cD 0 O O rfl<|aF Jk<|V (ah (cD.sl (i:=10) O) ia sizeOf1 O O J)<|V (aE underlying1 O O ((cD.sl (i:=10) O).cell _ _ (lT (dv:=ZT) J)))<|have hkk:(k-1).toNat<lg.length:=J;have ek:(k-1).toNat+1=k.toNat:=J;have hok:=anN (o:=o.toNat) J hkk hb;?_
  rw[ek]at hok
  obtain⟨aQS,aH3,aH4,aBl,aBm⟩:=hu _ (k-1) J J hok lg tm _ _ ⟨F10,L11,aH1,aH2,rfl⟩ cD
  refine cG O aBm (Mw aBl (cs:=aH3) aH4) ?_
  rintro _ w20 ⟨rfl,Z21,aH5,eP⟩
  have hzk:=aH5
  rw[<-ek,<-aeC hkk]at hzk
  refine aa<|au<|aF Jk<|V (eS O O J)<|aI rfl<|aa<| ?_
  refine⟨(k-1,Z21),aX,Ep.u4.u4.u4.u1.u1,(Hp.conv eP aM),(aK I aM),J,J,?_⟩
  exact hzk
 refine a8 (id:=0) rfl<|au<|have ek:k=o:=J;?_
 rw[ek]at Lj
 obtain⟨F24,L25,aBn,aH7,rfl⟩:=Lj
 have iJ:=eE
 simp only[NZ,nE]at iJ
 refine aF Gc<|aF Gc<|V (af O)<|V (fA ct 14 O kB O)<|lV ia iJ 0 O O rfl<|aF ae0<|V (rD (iJ.sl (i:=10) O) ia sizeOf1 O O J)<|V (af O)<|V (fA ct 14 O kB O)<|have kZ:=Hp.aED iJ (i:=10) O (m:=o.toNat) J;bg kZ (i:=0) O (bK O O (v:=(wR F24.vd (o.toNat))) O (aZ (kZ.get (i:=10) O)).1 (aZ (kZ.get (i:=10) O)).2 (kZ.blk (i:=0) O) aJ)<|fun w29 iU=> ?_
 simp only[jd,lf,n5,gQ,Nat.reduceAdd]at iU
 refine aa<|rC O ⟨rfl,_,⟨{F24 with vd:=(wR F24.vd (o.toNat))},L25,⟨aBn.fo,aBn.us⟩,aH7,rfl⟩,(iU)⟩
theorem OW(v:Int)(w:World)(hb:w.heap[n]?=some (.cells #[wr,vL,vt,vv,vy,vu,vq,I sn,vW,vU,vT,I cn,B sk,U wy,vd,vm] 111 (0,0)))(hy:Sl w vy 1 bp.length (bp.map U)):Calls Tryz.prog 21 #[pt n,I v] w (Pure (U (if 0<=v/\v<bp.length then bp.getD v.toNat 0 else 0)) w):=by
 refine eH func21 rfl rfl fun hH=>SR<|va (v:=U 0#64) rfl<|aa<|ai<|SR<|aF (v:=Pn _ _) rfl<|V (k9 dh O O)<|mB rfl<|cF O rfl<|mI rfl<|V (aN O O)<|mB rfl<|mB rfl<|bM 11 O (fun h2=> ?_) (fun h2=> ?_)
 .refine aF (v:=B true) rfl<|aa<|cz rfl<|SR<|va (v:=U 0#64) rfl<|aa<|aj<|oU O ?_ hH
  (rw[aW J]<;>rfl)
 refine mI rfl<|aF (v:=Pn _ _) rfl<|V (af O)<|V (fA ct 4 O jB O)<|V (aE dg O O (hH.eT hb O))<|V (aD (hy.hp hH) O dg O)<|V (dF O O)<|mB rfl<|aa<|aG O (fun h4=> ?_) (fun h4=> ?_)
 .refine SR<|va (v:=U 0#64) rfl<|aa<|aj<|oU O ?_ hH
  (rw[aW J]<;>rfl)
 refine an<|SR<|aF (v:=Pn _ _) rfl<|V (af O)<|V (fA ct 4 O jB O)<|V (aE dg O O (hH.eT hb O))<|mI rfl<|V (ah (hy.hp hH) dg cQ O O J)<|V (aE dO O O ((hy.hp hH).cell _ _ (lT (dv:=0#64) J)))<|aU rfl<|aa<|aj<|oU O ?_ hH
 (rw[aY ⟨J,J⟩]<;>rfl)
theorem JA(w:World)(hb:w.heap[n]?=some (.cells #[wr,vL,vt,vv,vy,vu,vq,I sn,vW,vU,vT,I cn,B sk,U wy,vd,vm] 111 (0,0))):Calls Tryz.prog 16 #[pt n] w (Pure (.tuple #[U wy,B sk]) w):=by
 refine eH func16 rfl rfl fun hH=>SR<|va (v:=U 0#64) rfl<|va (v:=B false) rfl<|aa<|ai<|SR<|aF (v:=Pn _ _) rfl<|V (k9 dh O O)<|aa<|cT rfl<|an<|ai<|ew aQ hH<|fun w1 bq=>have k7:=bq;AQ 0 O k7 (mV (Pn _ _) O)<|AQ 1 O k7 (af O)<|AQ 2 O k7 (fA ct 13 O cQ O)<|AT 3 O k7 (fun w hS=>aE dO O O (hS.eT hb (v:=U _) O))<|AQ 4 O k7 (mV (Pn _ _) O)<|AQ 5 O k7 (af O)<|AQ 6 O k7 (fA ct 12 O oy O)<|AT 7 O k7 (fun w hS=>aE xY O O (hS.eT hb (v:=B _) O))<|AQ 8 O k7 (aV (U _) O)<|AQ 9 O k7 (aV (B _) O)<|AD<|aj<|kE O O O bq.below
theorem JC(v:Int)(w:World)(hb:w.heap[n]?=some (.cells #[wr,vL,vt,vv,vy,vu,vq,I sn,vW,vU,vT,I cn,B sk,U wy,vd,vm] 111 (0,0)))(hv:Sl w vv 8 ak.length (ak.flatMap pM)):Calls Tryz.prog 23 #[pt n,I v] w (Pure (.agg (iM (if 0<=v/\v<ak.length then ak.getD v.toNat df else df))) w):=by
 refine eH func23 rfl rfl fun hH=>SR<|lN hH (aT fg)<|fun b3 w1 bq=>aa<|ai<|SR<|aF (v:=Pn _ _) rfl<|V (k9 dh O O)<|mB rfl<|cF O rfl<|mI rfl<|V (aN O O)<|mB rfl<|mB rfl<|bM 11 O (fun h5=> ?_) (fun h5=> ?_)
 .refine aF (v:=B true) rfl<|aa<|cz rfl<|SR<|V (dL (vs:=[]) O (oY))<|bg bq (i:=0) O (cR O O O (bq.blk (i:=0) O))<|fun w8 iD=>aa<|aj<|qJ O O iD (i:=0) O bI O jJ ⟨?_,iD.below⟩
  (rw[aW J]<;>rfl)
 refine mI rfl<|aF (v:=Pn _ _) rfl<|V (af O)<|V (fA ct 3 O ji O)<|V (aE bU O O (bq.eT hb O))<|V (aD (hv.hp bq) O bU O)<|V (dF O O)<|mB rfl<|aa<|aG O (fun h11=> ?_) (fun h11=> ?_)
 .refine SR<|V (dL (vs:=[]) O (oY))<|bg bq (i:=0) O (cR O O O (bq.blk (i:=0) O))<|fun Q1 gW=>aa<|aj<|qJ O O gW (i:=0) O bI O jJ ⟨?_,gW.below⟩
  (rw[aW J]<;>rfl)
 refine an<|SR<|aF (v:=Pn _ _) rfl<|V (af O)<|V (fA ct 3 O ji O)<|V (aE bU O O (bq.eT hb O))<|mI rfl<|V (ah (hv.hp bq) bU fl O O J)<|V (gy (hv.hp bq) bI O O O J)<|bg bq (i:=0) O (cR O O O (bq.blk (i:=0) O))<|fun Lf iC=>aa<|aj<|qJ O O iC (i:=0) O bI O jJ ⟨?_,iC.below⟩
 (rw[aY ⟨J,J⟩]<;>rfl)
section
theorem aaV{R L0:List bu}{s:NP}{x:Value}{v:Int}{was:El}{had:BitVec 64}(hx:nr NX n L0 (x,.raise v was had))(hok:okN (.raise v was had) s):aoI W0 n m R L0 (x,.raise v was had) s:=by
 rintro lg tm Z w ⟨F,L,hI,hL,rfl⟩ hH
 obtain⟨b1,b2,b3,b4,hf,hb1,XE,hb3,hb4⟩:=hx
 subst hf
 refine⟨_,[pt b1,pt b2,pt b3,pt b4],rfl,call193,?_⟩
 refine(Ge hok _ (bH _ (bH _ (hL _ _ hb1))) (bH _ (bH _ (hL _ _ XE))) (bH _ (bH _ (hL _ _ hb3))) (bH _ (bH _ (hL _ _ hb4))) hH).mono fun e w' hr=>j3.mono ?_ hr
 rintro u w' ⟨rfl,hh⟩
 exact⟨rfl,_,⟨F,L,⟨hI.fo,hI.us⟩,hL,rfl⟩,hh⟩
theorem aaW{R L0:List bu}{s:NP}{x:Value}{k:Int}(hm:m<=100000)(hx:nr NX n L0 (x,.merge k)):aoI W0 n m R L0 (x,.merge k) s:=by
 rintro lg tm Z w ⟨F,L,hI,hL,rfl⟩ hH
 obtain⟨b1,b2,hf,hb1,XE⟩:=hx
 subst hf
 refine⟨_,[pt b1,pt b2],rfl,call157,?_⟩
 refine(Gg (R:=F.us.map (dS 3)++R) hm _ (by rw[dH];exact bH _ (bH _ (hL _ _ hb1))) (by rw[dH];exact bH _ (bH _ (hL _ _ XE))) hI.fo (by rw[dH];exact hH)).mono fun e w' hr=>j3.mono ?_ hr
 rintro u w' ⟨rfl,zvW,zvU,zvT,zcW,zcU,zW,zul,zts,zcn,Lb,hfo,hh⟩
 exact⟨rfl,_,⟨{F with vW:=zvW,vU:=zvU,vT:=zvT,cW:=zcW,cU:=zcU,W:=zW,ul:=zul,ts:=zts,cn:=zcn},Lb++L,⟨hfo,hI.us⟩,fun b o h=>bH _ (hL b o h),rfl⟩,by rw[dH]at hh;exact hh⟩
theorem aoX{R L0:List bu}{s:NP}{x:Value×mE}(hm:m<=100000)(hx:nr NX n L0 x)(hr:I8 x.2)(hok:okN x.2 s):aoI W0 n m R L0 x s:=by
 obtain⟨v,c⟩:=x
 cases c with
 |raise v was had=>exact aaV hx hok
 |merge k=>exact aaW hm hx
 |_=>exact hr.elim
end
theorem HG{s:NP}{L0 Z:List bu}{ids:List Nat}{tl:List (Nat×Rl)}{f:Ct}{nk:Nat}{Zf:List bu}(Jzz:za->Prop)(mu:za->Nat)(M:Nat)(hm:m+s.ak.length<=100000)(hok:Em s)(hwy:s.sk=false->s.wy=0)(hlg:lg.length+1000*M<=400000000000)(htm:tm.length<=100000000)(hf:FO nk f)(hnk:nk+3*M<=90000000000)(hJ:∀us:List j5,qu us=s.us->Jzz (Wj (s5 s.cs us s.aq s.bf s.qs s.sn s.ak.length ⟨s.ak,s.bp,[],List.replicate s.qs.length false⟩).s s.sn s.qs.length)/\mu (Wj (s5 s.cs us s.aq s.bf s.qs s.sn s.ak.length ⟨s.ak,s.bp,[],List.replicate s.qs.length false⟩).s s.sn s.qs.length)<=M/\∀dc eN Km m6 x,Jzz ⟨dc,eN,x::Km,m6⟩->∀r,oc (bB (s5 s.cs us s.aq s.bf s.qs s.sn s.ak.length ⟨s.ak,s.bp,[],List.replicate s.qs.length false⟩).cs) us (s.aq.getD (s.qs.getD x.toNat cX).bf.toNat p5).p.sh (s.qs.getD x.toNat cX) dc eN Km (m6.set x.toNat false) s.wy=r->r.ok=true->Jzz ⟨r.ak,r.bp,r.wl,r.wi⟩/\mu ⟨r.ak,r.bp,r.wl,r.wi⟩<mu ⟨dc,eN,x::Km,m6⟩)(w:World)(hT:pc W0)(hlv:Wf TX (Kz (Kw W0) L0) ids tl s.aq)(hZ:kY (BN fr) ids f tl Zf)(Ju:ZN (Kz (Kw W0) L0) s.qs)(hZn:wL n m s lg tm Zf L0 Z)(hH:Hp W0 w Z):Calls Tryz.prog 15 #[pt n] w (j3 fun u w'=>(s.sk=true/\u=B false/\∃Z',wL n m s lg tm Zf L0 Z'/\Hp W0 w' Z')\/(s.sk=false/\∃(us:List j5) (ok:Bool) (c:za) (Un:BitVec 64) (a:Nat) (s':NP) (new:List (Value×mE)) (L1 Z' Zf':List bu) (f':Ct),qu us=s.us/\u=B ok/\SpR (bB (s5 s.cs us s.aq s.bf s.qs s.sn s.ak.length ⟨s.ak,s.bp,[],List.replicate s.qs.length false⟩).cs) us s.aq s.qs c ok s.wy Un/\Jzz c/\a+mu c<=mu (Wj (s5 s.cs us s.aq s.bf s.qs s.sn s.ak.length ⟨s.ak,s.bp,[],List.replicate s.qs.length false⟩).s s.sn s.qs.length)+(if ok then 0 else 1)/\s'=(if ok then(NP.mk s.aq s.bf c.ak c.bp s.us s.qs s.qs.length (s5 s.cs us s.aq s.bf s.qs s.sn s.ak.length ⟨s.ak,s.bp,[],List.replicate s.qs.length false⟩).cs s.sk s.wy s.wr)else{s with sk:=true,wy:=Un})/\(∀x∈new,nr NX n L1 x)/\new.length<=1001*s.ak.length+1000*a+1/\iO new s s'/\(∀b o,bu.blk b o∈L0->bu.blk b o∈L1)/\kY (BN fr) ids f' tl Zf'/\p6 f f' a a (a+(s5 s.cs us s.aq s.bf s.qs s.sn s.ak.length ⟨s.ak,s.bp,[],List.replicate s.qs.length false⟩).j)/\wL n (m+s.ak.length) s' (lg++new) (tm++[(lg.length:Int)]) Zf' L1 Z'/\Hp W0 w' Z')):=by
 refine enter func15 rfl ntmps15 rfl ?_
 obtain⟨F1,L2,BF,OV,rfl⟩:=hZn
 have bY:=hH
 simp only[NZ,nE]at bY
 have jQ:=Hp.mQ (A:=[_,_,_,_,_,_,_,_,_,_,_,_]) (B:=F1.us.map (dS 3)) (R:=Zf) bY
 simp only[gB,eR]at jQ
 refine SR<|gO jQ (v:=Pn _ _) rfl<|fun b9 w7 eX=>va (v:=B false) rfl<|aa<|ai<|SR<| ?_
 obtain⟨R1,Xr⟩:∃R1:List bu,R1=[bu.blk b9 (.cells #[pt n] 31 (0,0))]++(F1.us.map (dS 3)++L2):=⟨_,rfl⟩
 have cg:=Hp.mQ (A:=[_,_,_,_,_,_,_,_,_,_,_,_]) (B:=[bu.blk b9 (.cells #[pt n] 31 (0,0))]) (R:=Zf) (eX.pj [1,1,1,1,1,1,1,1,1,1,1,1])
 rw[<-Xr]at cg
 simp only[gB,eR]at cg
 have aff:bu.blk b9 (.cells #[pt n] 31 (0,0))∈R1:=by rw[Xr];simp
 have hle:Le (Kz (Kw W0) L0) (Kz (Kw W0) R1):=Le.zb fun b o h=>by rw[Xr];exact bH _ (bH _ (OV b o h))
 have afe:=hlv.mono hle
 have aoO:=Ju.mono hle
 have OT:=BF.fo.mono (L':=R1) fun e he=>by rw[Xr];exact bH _ (bH _ he)
 refine V (aE dh O O (cg.pD ((fun x hx=>(mT (mT (mT (mT (mT (mT (mT (mT (mT (mT (mT (mT (bH _ hx)))))))))))))) _ aff) (v:=Pn _ _) O))<|aH O cg (o7 _ (cg.blk (i:=0) O)) (ay call40 O)<|fun zl bV=>V (bJ O)<|aa<|bX O (fun yt=> ?_) (fun yt=> ?_)
 .refine SR<|va (v:=B false) rfl<|aa<|aj<|have er:=(bV);?_
  subst Xr
  exact jx (v:=B false) O O (.inl ⟨kD,rfl,_,⟨F1,[]++([bu.blk b9 (.cells #[pt n] 31 (0,0))]++L2),⟨BF.fo.mono fun e he=>bH _ (bH _ he),BF.us⟩,fun b o h=>bH _ (bH _ (OV b o h)),rfl⟩,Hp.ZU (A:=[_,_,_,_,_,_,_,_,_,_,_,_]) (Lb:=[]) (E:=[bu.blk b9 (.cells #[pt n] 31 (0,0))]) er⟩)
 refine an<|SR<|V (aE dh O O (bV.pD ((fun x hx=>(mT (mT (mT (mT (mT (mT (mT (mT (mT (mT (mT (mT (bH _ hx)))))))))))))) _ aff) (v:=Pn _ _) O))<|cG O (qg J _ bV) (ay call41 O)<| ?_
 rintro _ w20 ⟨rfl,v22,fK⟩
 simp only[nE]at fK
 refine aa<|SR<|V (aE dh O O (fK.pD ((fun x hx=>(mT (mT (mT (mT (mT (mT (mT (mT (mT (mT (mT (mT (bH _ hx)))))))))))))) _ aff) (v:=Pn _ _) O))<|V (af O)<|V (fA ct 14 O kB O)<|lV ia fK 0 O O rfl<|V (aD (fK.sl (i:=10) O) O ia O)<|aI rfl<|aa<|ai<|SR<|V (aE dh O O (fK.pD ((fun x hx=>(mT (mT (mT (mT (mT (mT (mT (mT (mT (mT (mT (mT (bH _ hx)))))))))))))) _ aff) (v:=Pn _ _) O))<|have KD:∀k:Nat,k<F1.us.length->dS 3 (F1.us.getD k de)∈R1/\(F1.us.getD k de).l.length<=1000/\∀i∈(F1.us.getD k de).l,0<=i/\i<(s.qs.length:Int):=(fun k hk=>by rw[Xr];exact⟨bH _ (Wm hok BF.us (L:=[]) k hk|>.1|>fun q=>by rw[mG]at q;exact dI _ q),(Wm hok BF.us (t:=0) (L:=[]) k hk).2⟩);have aoD:F1.us.length=s.ak.length:=(by rw[<-gz,BF.us];exact hok.O4);?_
 obtain⟨hJ0,hJ1,hJ2⟩:=hJ _ BF.us
 refine cG O (HF Jzz mu hm hok.QL aoD hok.oF hok.QM J KD hf J hok.XB hok.hqn hok.hqo hok.hlt hok.hlr hJ0 hJ2 _ hT afe hZ aoO OT fK) (ay call42 O) ?_
 rintro _ w43 ⟨aBo,afg,aoZ,a28,aBp,aBq,aBr,aBs,aBt,W50,aBu,aBv,aBw,aBx,aBy,T8,Z32,f33,rfl,ao0,aBz,aBA,ars,avf,aH9,Xt,aBB,aBC,pK⟩
 simp only[nE]at pK
 refine aa<|bX O (fun h55=> ?_) (fun h55=> ?_)
 .refine SR<|va (v:=B true) rfl<|aa<|aj<|have EC:s.sk=false:=kD;have hof:aBo=true:=jK;have nu:=(pK);?_
  subst hof
  subst Xr
  simp only[uB]at nu Xt
  rw[BF.us]at Xt
  have aIa:aoZ=s.wy:=by rcases ao0 with⟨_,_,q⟩|⟨q,_⟩;exact q;cases q
  rw[aIa]at nu Xt ao0
  refine jx (v:=B true) O O (.inr ⟨EC,F1.us,true,afg,s.wy,a28,_,aBy,(T8++([bu.blk b9 (.cells #[pt n] 31 (0,0))]++L2)),_,Z32,f33,BF.us,rfl,ao0,aBz,aBA,rfl,(fun x hx=>(avf x hx).1.mono fun e he=>dI _ he),aH9,Xt,(fun b o h=>bH _ (bH _ (OV b o h))),aBB,aBC,⟨{F1 with vW:=aBp,vU:=aBq,vT:=aBr,cW:=aBs,cU:=aBt,W:=W50,ul:=aBu,ts:=aBv,cn:=aBw,vd:=aBx,vm:=v22},(T8++([bu.blk b9 (.cells #[pt n] 31 (0,0))]++L2)),⟨ars.EP fun b o h=>Wn h,BF.us⟩,fun _ _ h=>h,rfl⟩,Hp.ZU (A:=[_,_,_,_,_,_,_,_,_,_,_,_]) nu⟩)
 refine an<|SR<|V (aE dh O O (pK.pD ((fun x hx=>(mT (mT (mT (mT (mT (mT (mT (mT (mT (mT (mT (mT (bH _ (bH _ hx))))))))))))))) _ aff) (v:=Pn _ _) O))<|V (af O)<|V (fA ct 13 O cQ O)<|V (aE dO O O (pK.cell (i:=0) O (v:=U _) O))<|aU rfl<|aa<|SR<|V (aE dh O O (pK.pD ((fun x hx=>(mT (mT (mT (mT (mT (mT (mT (mT (mT (mT (mT (mT (bH _ (bH _ hx))))))))))))))) _ aff) (v:=Pn _ _) O))<|mI rfl<|have hof:aBo=false:=jK;have aaX:=(pK);?_
 subst hof
 subst Xr
 simp only[uL,x7]at aaX Xt aBA
 have QM:=hok.QM
 rw[BF.us]at Xt
 obtain⟨Zc,hZc,hHc⟩:∃Z,wL n (m+s.ak.length) (NP.mk s.aq s.bf afg.ak afg.bp s.us s.qs s.sn (s5 s.cs F1.us s.aq s.bf s.qs s.sn s.ak.length ⟨s.ak,s.bp,[],List.replicate s.qs.length false⟩).cs s.sk aoZ s.wr) (lg++aBy) (tm++[(lg.length:Int)]) Z32 (T8++([bu.blk b9 (.cells #[pt n] 31 (0,0))]++L2)) Z/\Hp W0 _ Z:=⟨_,⟨{F1 with vW:=aBp,vU:=aBq,vT:=aBr,cW:=aBs,cU:=aBt,W:=W50,ul:=aBu,ts:=aBv,cn:=aBw,vd:=aBx,vm:=v22},(T8++([bu.blk b9 (.cells #[pt n] 31 (0,0))]++L2)),⟨ars.EP fun b o h=>Wn h,BF.us⟩,fun _ _ h=>h,rfl⟩,Hp.ZU (A:=[_,_,_,_,_,_,_,_,_,_,_,_]) aaX⟩
 refine cG O (Jz (s:=(NP.mk s.aq s.bf afg.ak afg.bp s.us s.qs s.sn (s5 s.cs F1.us s.aq s.bf s.qs s.sn s.ak.length ⟨s.ak,s.bp,[],List.replicate s.qs.length false⟩).cs s.sk aoZ s.wr)) (R:=Z32) (L0:=(T8++([bu.blk b9 (.cells #[pt n] 31 (0,0))]++L2))) (Z:=Zc) (lg.length:Int) Fu Fu (by rw[eC,Wl];exact Xt.ok) (fun s1 k h1 h2 hok=>aoX hm ((avf _ (ab9 h1 h2)).1.mono fun e he=>dI _ he) ((avf _ (ab9 h1 h2)).2 O) hok) _ hZc hHc) (aL call43 O O) ?_
 rintro _ w60 ⟨rfl,Z61,aBD,o6⟩
 rw[eC,Wl,vC,Xt.und]at aBD
 obtain⟨F64,L65,aBE,ao1,rfl⟩:=aBD
 have kJ:=o6
 simp only[NZ,nE]at kJ
 refine aa<|ai<|fZ (z:=⟨none,_,_,_,_,none⟩) aQ O aQ kJ (sQ sR)<|fun w69 wI=>have OI:=wI.sub (sQ sR);AT 0 O OI (fun w hS=>aE dh O O (hS.pD ((fun x hx=>(mT (mT (mT (mT (mT (mT (mT (mT (mT (mT (mT (bH _ (bH _ hx)))))))))))))) _ (ao1 _ _ (show bu.blk b9 (.cells #[pt n] 31 (0,0))∈(T8++([bu.blk b9 (.cells #[pt n] 31 (0,0))]++L2))by simp))) (v:=Pn _ _) O))<|AT 1 O OI (fun w hS=>aE dh O O (hS.pD ((fun x hx=>(mT (mT (mT (mT (mT (mT (mT (mT (mT (mT (mT (bH _ (bH _ hx)))))))))))))) _ (ao1 _ _ (show bu.blk b9 (.cells #[pt n] 31 (0,0))∈(T8++([bu.blk b9 (.cells #[pt n] 31 (0,0))]++L2))by simp))) (v:=Pn _ _) O))<|AQ 2 O OI (mV (U _) O)<|AQ 3 O OI (af O)<|AQ 4 O OI (fA ct 12 O oy O)<|A1 5<|dW O aC wI (j:=0) O (sQ sR) (bK O O (v:=B true) O O O (wI.blk (i:=0) O) aJ)<|fun w73 xb=> ?_
 simp only[jd,lf,n5,gQ,Nat.reduceAdd]at xb
 refine AQ 6 O (xb.sub (sQ sR)) (af O)<|AQ 7 O (xb.sub (sQ sR)) (fA ct 13 O cQ O)<|AD<|bg xb (i:=0) O (bK O O (v:=U _) O O O (xb.blk (i:=0) O) aJ)<|fun w75 oQ=> ?_
 simp only[jd,lf,n5,gQ,Nat.reduceAdd]at oQ
 refine aa<|SR<|V (aE dh O O (oQ.pD ((fun x hx=>(mT (mT (mT (mT (mT (mT (mT (mT (mT (mT (mT (mT (bH _ (bH _ hx))))))))))))))) _ (ao1 _ _ (show bu.blk b9 (.cells #[pt n] 31 (0,0))∈(T8++([bu.blk b9 (.cells #[pt n] 31 (0,0))]++L2))by simp))) (v:=Pn _ _) O))<| ?_
 refine V (CD bz) ?_
 refine cG O (iL _ _ .stuck J _ oQ) (aL zY O O) ?_
 rintro _ w79 ⟨rfl,v81,pL⟩
 simp only[nE]at pL
 refine aa<|SR<|va (v:=B false) rfl<|aa<|aj<|have EC:s.sk=false:=kD;have o5:=(pL);jx (v:=B false) O O (.inr ⟨EC,F1.us,false,afg,aoZ,a28,_,[((jO 45 #[pt b9]),.stuck)],(T8++([bu.blk b9 (.cells #[pt n] 31 (0,0))]++L2)),_,Z32,f33,BF.us,rfl,ao0,aBz,iW,rfl,(fun x hx=>by rw[gG.1 hx];exact⟨_,rfl,aJ⟩),(by rw[ey];omega),ZV EC (hwy EC),(fun b o h=>bH _ (bH _ (OV b o h))),aBB,aBC,⟨{F64 with vd:=v81,vm:=F64.vm},L65,⟨aBE.fo,aBE.us⟩,ao1,rfl⟩,o5⟩)
theorem OX(x:Value)(hx:x.cells=#[x])(w:World):Calls Tryz.prog 36 #[x] w (j3 fun u w'=>∃(n:Nat) (Z:List bu),u=pt n/\Hp w w' Z/\wL n 0 (NP.mk [] [] [] [] [] [] 0 [[]] false 0 x) [] [] [] [] Z):=by
 refine eH func36 rfl rfl fun hH=>SR<|va (v:= .pointer none) rfl<|aa<|SR<|V (run_move (show _=x from O))<|V (dL (vs:=[(0,x)]) O (afa hx))<|gO hH (v:= .agg _) rfl<|fun b3 w1 bq=>va (v:=Pn _ _) rfl<|aa<|aj<|have hN:=(((((((((((bq.eI 3 1).eI 1 1).eI 128 13).eI 99 1).eI 35 1).eI 37 8).eI 3 1).eI 119 13).eI 3 1).eI 1 1).eI 35 1);jx O (v:=pt b3) O ⟨b3,_,rfl,hN.perm (uq (l₁:=[_,_,_,_,_,_,_,_,_,_,_]) (l₂:=[_])),⟨.slice none 0 0,.slice none 0 0,.slice none 0 0,.slice none 0 0,.slice none 0 0,.slice none 0 0,.slice none 0 0,.slice none 0 0,.slice none 0 0,0,.slice none 0 0,.slice none 0 0,none,none,[],[],[],[]⟩,[],⟨⟨⟨[],rfl,trivial,trivial,⟨rfl,rfl,rfl⟩,trivial,(fun x hx=>by cases hx),eu _,eu _⟩,rfl⟩,rfl⟩,(fun b o h=>mO),rfl⟩
theorem OY{s:NP}{L0 Z:List bu}{ids:List Nat}{tl:List (Nat×Rl)}{f:Ct}{Zf:List bu}(p:kW)(hfn:p.a6.length<=1000)(hnn:∀f∈p.a6,f.names.length<=1000)(hll:s.aq.length<=1000)(hlg:lg.length<=550000000000)(htm:tm.length<=100000000)(hwr:WrF s.wr ids)(w:World)(hT:pc W0)(hsh:lm (Kz (Kw W0) L0) p)(hZ:kY (BN fr) ids f tl Zf)(hZn:wL n m s lg tm Zf L0 Z)(hH:Hp W0 w Z):Calls Tryz.prog 19 #[pt n,.agg (qW p)] w (j3 fun u w'=>((s.sk=true\/mJ p.sh=false)/\u=I (-1)/\∃Z',wL n m s lg tm Zf L0 Z'/\Hp W0 w' Z')\/(s.sk=false/\∃(x:pY) (fv:Value) (QU:List (Nat×Rl)) (L1 Z' Zf':List bu),mJ p.sh=true/\u=I s.aq.length/\x.p.sh=p.sh/\x.low=gI p.sh ez/\WrD s.wr x.d/\(∀b o,bu.blk b o∈L0->bu.blk b o∈L1)/\XD TX (Kz (Kw W0) L1) ids (tl++QU) x/\nr NX n L1 (fv,.bf s.aq.length)/\kY (BN fr) ids f (tl++QU) Zf'/\iO [(fv,.bf s.aq.length)] s {s with aq:=s.aq++[x]}/\wL n m {s with aq:=s.aq++[x]} (lg++[(fv,.bf s.aq.length)]) (tm++[(lg.length:Int)]) Zf' L1 Z'/\Hp W0 w' Z')):=by
 refine enter func19 rfl ntmps19 rfl ?_
 obtain⟨F1,L2,BF,OV,rfl⟩:=hZn
 have bY:=hH
 simp only[NZ,nE]at bY
 have jQ:=Hp.mQ (A:=[_,_,_,_,_,_,_,_,_,_,_,_]) (B:=F1.us.map (dS 3)) (R:=Zf) bY
 simp only[gB,eR]at jQ
 have aBF:=hsh.mono (Le.zb (K:=Kw W0) OV)
 refine SR<|gO jQ (v:=Pn _ _) rfl<|fun b9 w7 eX=>gO eX (v:= .agg _) rfl<|fun b12 Eo dr=>va (v:=I 0) rfl<|aa<|ai<|SR<|lP dh dr 1 O O rfl<|aH O dr (o7 _ (dr.blk (i:=2) O)) (ay call40 O)<|fun BR cD=>V (bJ O)<|mB rfl<|eK 11 O (fun Hu=> ?_) (fun Hu=> ?_)
 .refine aF (v:=B true) rfl<|aa<|cz rfl<|SR<|va (v:=I (-1)) rfl<|aa<|aj<|jx (v:=I (-1)) O O (.inl ⟨kD,rfl,_,⟨F1,L2,BF,OV,rfl⟩,Hp.mQ (A:=[_,_,_,_,_,_,_,_,_,_,_,_]) (cD.sub (sQ (sQ sR)))⟩)
 refine V (cC (cs:=[B _,_]) dw O O O (bj (cD.blk (i:=0) O)))<|aH O cD (yA p _ (aBF.mono (cD.kz (Le.refl _) (fun x hx=>(mT (mT (mT (mT (mT (mT (mT (mT (mT (mT (mT (mT (mT (mT (bH _ (bH _ hx))))))))))))))))))) (hT.hp cD)) (ay call50 O)<|fun Lf iC=>V (bJ O)<|mB rfl<|aa<|bX O (fun h22=> ?_) (fun h22=> ?_)
 .refine SR<|va (v:=I (-1)) rfl<|aa<|aj<|jx (v:=I (-1)) O O (.inl ⟨kD,rfl,_,⟨F1,L2,BF,OV,rfl⟩,Hp.mQ (A:=[_,_,_,_,_,_,_,_,_,_,_,_]) (iC.sub (sQ (sQ sR)))⟩)
 refine an<|SR<|lP dh iC 1 O O rfl<|cG O (qg J _ (iC.pj [2,2,2,2,2,2,2,2,2,2,2,2])) (ay call41 O)<| ?_
 rintro _ w25 ⟨rfl,v27,jy⟩
 simp only[nE]at jy
 have iJ:=jy.pk [12,12]
 refine aa<|SR<|V (cC (cs:=[B _,_]) dw O O O (bj (iJ.blk (i:=0) O)))<|ud 1 1 iJ (MU RN O O O (l:=[p]) O az az O)<|fun b31 w29 iU=>IN O iU (Bz (Kz (Kw W0) (F1.us.map (dS 3)++L2)) (.slice (some ⟨b31,0,none⟩) 1 1) [p] (show 1<=1000 by decide) (by simpa using hfn) (by simpa using hnn) _ (iU.kz (Le.refl _) (fun x hx=>(mT (mT (mT (mT (mT (mT (mT (mT (mT (mT (mT (mT (mT (mT (mT (bH _ hx)))))))))))))))))) (Hp.gR MS iU (i:=0) (l:=[p]) O (show 1<=maxLen by decide)) ⟨fun x hx=>by rw[gG.1 hx];exact aBF.mono (Le.zz fun y hy=>bH _ hy)⟩) (ay call51 O)<|fun v34 w35 J8 j8 aIb=>have jS:Hp _ w35 (_::_::_::_::_::_::_::_::_::_::_::_::_::_::_::(J8++(Zf++(F1.us.map (dS 3)++L2)))):=j8.Gh (L:=[_,_,_,_,_,_,_,_,_,_,_,_,_,_,_]) (L':=(Zf++(F1.us.map (dS 3)++L2)));have jW:Hp _ w35 (_::_::_::_::_::_::_::_::_::_::_::_::_::_::_::(Zf++(J8++(F1.us.map (dS 3)++L2)))):=Hp.swz (A:=[_,_,_,_,_,_,_,_,_,_,_,_,_,_,_]) jS;?_
 obtain⟨sD,rfl,art,avg⟩:=aIb
 refine lN jW (aT Tryz.zeroValue56)<|fun b47 w45 oq=>bg oq (i:=0) O (DY avg O O O (oq.blk (i:=0) O) O)<|fun w50 qy=> ?_
 simp only[z2,dm,pull]at qy
 refine aa<|SR<|V (fA dw 0 O oy O)<|V (aE xY O O (qy.cell (i:=2) O (v:=B _) O))<|V (fA dw 0 O oy O)<|bg (c':=#[B p.tuple,sD.fv]) qy (i:=0) O (bK (off:=0+0) O O (v:=B p.tuple) O O O (qy.blk (i:=0) O) aJ)<|fun w53 gU=> ?_
 simp only[z2,dm,pull]at gU
 have XF:lm (Kz (Kw W0) (J8++(F1.us.map (dS 3)++L2))) (⟨p.tuple,sD.fv,sD.a6⟩:kW):=(show lm _ (⟨p.tuple,sD.fv,sD.a6⟩:kW)from⟨avg.a6,avg.each⟩).mono Le.kk
 have hps:(⟨p.tuple,sD.fv,sD.a6⟩:kW).sh=p.sh:=by show(⟨p.tuple,sD.a6.map qI.fc⟩:Sh)=p.sh;rw[QO art];rfl
 obtain⟨pf1,pf2⟩:=anO art hfn hnn
 refine aa<|FH (G:=(Nat)×(List bu)×(List bu)×(pY)×(List (Nat×Rl))) gU (6::(rg 24 6 [])) (fun(L:List bu) (⟨q6,Z1,Zq,x1,QU⟩:(Nat)×(List bu)×(List bu)×(pY)×(List (Nat×Rl)))=> .blk q6 (.cells (XC x1).toArray 119 (0,0))::(L.take 16++(Z1++(Zq++(J8++(F1.us.map (dS 3)++L2)))))) (fun(⟨q6,Z1,Zq,x1,QU⟩:(Nat)×(List bu)×(List bu)×(pY)×(List (Nat×Rl))) s'=>(s' 6= .pointer (some ⟨q6,0,none⟩))/\(kY (BN fr) ids f (tl++QU) Z1)/\((XD TX (Kz (Kw W0) (Zq++(J8++(F1.us.map (dS 3)++L2)))) ids (tl++QU) x1))/\(x1.p=(⟨p.tuple,sD.fv,sD.a6⟩:kW))/\(x1.d.dep=0)/\(x1.low=gI x1.p.sh ez)) ?_ ?_
 .refine fZ (z:=⟨none,_,_,_,_,none⟩) aQ O aQ gU (sP (sP (sP (sP (sP (sP (sP (sP (sP (sP (sP (sP (sP (sP (sP (sP (sA sR)))))))))))))))))<|fun w55 nu=>have avh:=nu.sub (sP (sP (sP (sP (sP (sP (sP (sP (sP (sP (sP (sP (sP (sP (sP (sP (sA sR)))))))))))))))));AT 0 O avh (fun w hS=>cC (cs:=[B _,_]) dw O O O (bj (hS.blk (i:=0) O)))<|AT 1 O avh (fun w hS=>cC (cs:=[B _,_]) dw O O O (bj (hS.blk (i:=0) O)))<|AT 3 O avh (fun w hS=>cC (cs:=[B _,_]) dw O O O (bj (hS.blk (i:=0) O)))<|gj 2 6 aQ ?_ ?_
  .refine yl O aC O (OH (Kz (Kw W0) (J8++(F1.us.map (dS 3)++L2))) (⟨p.tuple,sD.fv,sD.a6⟩:kW) pf1 pf2 _ (nu.kz (Le.refl _) (fun x hx=>(mT (mT (mT (mT (mT (mT (mT (mT (mT (mT (mT (mT (mT (mT (mT (mT (bH _ hx))))))))))))))))))) XF) (ay call52 O) (fun u w' ⟨_,_,_,_,_,_,_,_,_,_,_,_,_,_,_,_,_,h⟩=>(nu.call h.below).sub (sP (sP (sP (sP (sP (sP (sP (sP (sP (sP (sP (sP (sP (sP (sP (sP (sA sR)))))))))))))))))) ?_
   rintro _ w59 ⟨f1,f2,f3,a1,a2,a3,p60,afh,alc,aQ6,ald,rfl,aBG,aBH,aru,arv,aBI,h70⟩
   obtain⟨Z71,ao2,vc⟩:∃Z,kY (BN fr) ids f (tl++alc) Z/\Hp _ _ (_::_::_::_::_::_::_::_::_::_::_::_::_::_::_::_::(Z++(ald++(J8++(F1.us.map (dS 3)++L2))))):=⟨_,hZ.app aBI,Hp.apS (A:=[_,_,_,_,_,_,_,_,_,_,_,_,_,_,_,_]) (Hp.GH nu h70)⟩
   refine gj 4 6 aQ ?_ ?_
   .refine cm O aC O vc (sP (sP (sP (sP (sP (sP (sP (sP (sP (sP (sP (sP (sP (sP (sP (sP (sA (sA sR)))))))))))))))))) (wG (⟨p.tuple,sD.fv,sD.a6⟩:kW) _ (XF.mono (vc.kz (Le.refl _) (fun x hx=>(mT (mT (mT (mT (mT (mT (mT (mT (mT (mT (mT (mT (mT (mT (mT (mT (bH _ (bH _ hx))))))))))))))))))))) (hT.hp vc)) (ay call53 O)<|fun w74 ve=>AQ 5 O (ve.sub (sP (sP (sP (sP (sP (sP (sP (sP (sP (sP (sP (sP (sP (sP (sP (sP (sA (sA sR))))))))))))))))))) (dL (vs:=[(0,.agg (qW (⟨p.tuple,sD.fv,sD.a6⟩:kW))),(1,.agg #[jO f1 a1,jO f2 a2,jO f3 a3]),(2,.agg (iM (gI (⟨p.tuple,sD.fv,sD.a6⟩:kW).sh ez)))]) O (yC _ _ _ _ (.base p60 afh) _))<|A1 6<|cB O aC O ve (sP (sP (sP (sP (sP (sP (sP (sP (sP (sP (sP (sP (sP (sP (sP (sP (sA (sA sR)))))))))))))))))) (f:=fun b=> .pointer (some ⟨b,0,none⟩)) (aT Tryz.zeroValue119)<|fun b78 w76 T9=>AD<|have hlx:XD TX (Kz (Kw W0) (ald++(J8++(F1.us.map (dS 3)++L2)))) ids (tl++alc) ⟨(⟨p.tuple,sD.fv,sD.a6⟩:kW),_,_,_,.base p60 afh,gI (⟨p.tuple,sD.fv,sD.a6⟩:kW).sh ez⟩:=⟨aBG.mono Le.kk,⟨aru,fun i hi q hq=>bH _ (arv i hi q hq)⟩,aBH,XF.mono (Le.zz fun x hx=>bH _ hx),nQ _⟩;bg T9 (i:=0) O (dK O O O (G9 hlx) (T9.blk (i:=0) O) O)<|fun w79 pL=> ?_
    simp only[z2,dm,pull]at pL
    refine aa ?_
    refine⟨((Fr.refl _ _)).u4.u1.u1.u1,(b78,Z71,ald,⟨(⟨p.tuple,sD.fv,sD.a6⟩:kW),_,_,_,.base p60 afh,gI (⟨p.tuple,sD.fv,sD.a6⟩:kW).sh ez⟩,alc),(Hp.conv pL aM),rfl,?_,?_,aM,aM,aM⟩
    .exact ao2
    exact hlx
   refine cB O aC O vc (sP (sP (sP (sP (sP (sP (sP (sP (sP (sP (sP (sP (sP (sP (sP (sP (sA (sA sR)))))))))))))))))) (f:=fun b=> .pointer (some ⟨b,0,none⟩)) (aT Tryz.zeroValue119)<|fun b83 w81 o5=>A1 4<|cm O aC O o5 (sQ (sP (sP (sP (sP (sP (sP (sP (sP (sP (sP (sP (sP (sP (sP (sP (sP (sA (sA sR))))))))))))))))))) (wG (⟨p.tuple,sD.fv,sD.a6⟩:kW) _ (XF.mono (o5.kz (Le.refl _) (fun x hx=>(mT (mT (mT (mT (mT (mT (mT (mT (mT (mT (mT (mT (mT (mT (mT (mT (mT (bH _ (bH _ hx)))))))))))))))))))))) (hT.hp o5)) (ay call53 O)<|fun w84 W3=>AQ 5 O (W3.sub (sQ (sP (sP (sP (sP (sP (sP (sP (sP (sP (sP (sP (sP (sP (sP (sP (sP (sA (sA sR)))))))))))))))))))) (dL (vs:=[(0,.agg (qW (⟨p.tuple,sD.fv,sD.a6⟩:kW))),(1,.agg #[jO f1 a1,jO f2 a2,jO f3 a3]),(2,.agg (iM (gI (⟨p.tuple,sD.fv,sD.a6⟩:kW).sh ez)))]) O (yC _ _ _ _ (.base p60 afh) _))<|AD<|have hlx:XD TX (Kz (Kw W0) (ald++(J8++(F1.us.map (dS 3)++L2)))) ids (tl++alc) ⟨(⟨p.tuple,sD.fv,sD.a6⟩:kW),_,_,_,.base p60 afh,gI (⟨p.tuple,sD.fv,sD.a6⟩:kW).sh ez⟩:=⟨aBG.mono Le.kk,⟨aru,fun i hi q hq=>bH _ (arv i hi q hq)⟩,aBH,XF.mono (Le.zz fun x hx=>bH _ hx),nQ _⟩;bg W3 (i:=0) O (dK O O O (G9 hlx) (W3.blk (i:=0) O) O)<|fun w86 W4=> ?_
   simp only[z2,dm,pull]at W4
   refine aa ?_
   refine⟨((Fr.refl _ _)).u4.u1.u1.u1,(b83,Z71,ald,⟨(⟨p.tuple,sD.fv,sD.a6⟩:kW),_,_,_,.base p60 afh,gI (⟨p.tuple,sD.fv,sD.a6⟩:kW).sh ez⟩,alc),(Hp.conv W4 aM),rfl,?_,?_,aM,aM,aM⟩
   .exact ao2
   exact hlx
  refine cB O aC O nu (sP (sP (sP (sP (sP (sP (sP (sP (sP (sP (sP (sP (sP (sP (sP (sP (sA sR))))))))))))))))) (f:=fun b=> .pointer (some ⟨b,0,none⟩)) (aT Tryz.zeroValue119)<|fun b90 w88 Jp=>A1 2<|yl O aC O (OH (Kz (Kw W0) (J8++(F1.us.map (dS 3)++L2))) (⟨p.tuple,sD.fv,sD.a6⟩:kW) pf1 pf2 _ (Jp.kz (Le.refl _) (fun x hx=>(mT (mT (mT (mT (mT (mT (mT (mT (mT (mT (mT (mT (mT (mT (mT (mT (mT (bH _ hx)))))))))))))))))))) XF) (ay call52 O) (fun u w' ⟨_,_,_,_,_,_,_,_,_,_,_,_,_,_,_,_,_,h⟩=>(Jp.call h.below).sub (sQ (sP (sP (sP (sP (sP (sP (sP (sP (sP (sP (sP (sP (sP (sP (sP (sP (sA sR)))))))))))))))))))<| ?_
  rintro _ w93 ⟨f1,f2,f3,a1,a2,a3,p94,avi,avj,aQ9,avk,rfl,aId,aBJ,avl,avm,avn,aIe⟩
  obtain⟨aIf,aBK,HC⟩:∃Z,kY (BN fr) ids f (tl++avj) Z/\Hp _ _ (_::_::_::_::_::_::_::_::_::_::_::_::_::_::_::_::_::(Z++(avk++(J8++(F1.us.map (dS 3)++L2))))):=⟨_,hZ.app avn,Hp.apS (A:=[_,_,_,_,_,_,_,_,_,_,_,_,_,_,_,_,_]) (Hp.GH Jp aIe)⟩
  refine A1 4<|cm O aC O HC (sQ (sP (sP (sP (sP (sP (sP (sP (sP (sP (sP (sP (sP (sP (sP (sP (sP (sA (sA sR))))))))))))))))))) (wG (⟨p.tuple,sD.fv,sD.a6⟩:kW) _ (XF.mono (HC.kz (Le.refl _) (fun x hx=>(mT (mT (mT (mT (mT (mT (mT (mT (mT (mT (mT (mT (mT (mT (mT (mT (mT (bH _ (bH _ hx)))))))))))))))))))))) (hT.hp HC)) (ay call53 O)<|fun aua xI=>AQ 5 O (xI.sub (sQ (sP (sP (sP (sP (sP (sP (sP (sP (sP (sP (sP (sP (sP (sP (sP (sP (sA (sA sR)))))))))))))))))))) (dL (vs:=[(0,.agg (qW (⟨p.tuple,sD.fv,sD.a6⟩:kW))),(1,.agg #[jO f1 a1,jO f2 a2,jO f3 a3]),(2,.agg (iM (gI (⟨p.tuple,sD.fv,sD.a6⟩:kW).sh ez)))]) O (yC _ _ _ _ (.base p94 avi) _))<|AD<|have hlx:XD TX (Kz (Kw W0) (avk++(J8++(F1.us.map (dS 3)++L2)))) ids (tl++avj) ⟨(⟨p.tuple,sD.fv,sD.a6⟩:kW),_,_,_,.base p94 avi,gI (⟨p.tuple,sD.fv,sD.a6⟩:kW).sh ez⟩:=⟨aId.mono Le.kk,⟨avl,fun i hi q hq=>bH _ (avm i hi q hq)⟩,aBJ,XF.mono (Le.zz fun x hx=>bH _ hx),nQ _⟩;bg xI (i:=0) O (dK O O O (G9 hlx) (xI.blk (i:=0) O) O)<|fun aFM Hz=> ?_
  simp only[z2,dm,pull]at Hz
  refine aa ?_
  refine⟨((Fr.refl _ _)).u4.u1.u1.u1,(b90,aIf,avk,⟨(⟨p.tuple,sD.fv,sD.a6⟩:kW),_,_,_,.base p94 avi,gI (⟨p.tuple,sD.fv,sD.a6⟩:kW).sh ez⟩,avj),(Hp.conv Hz aM),rfl,?_,?_,aM,aM,aM⟩
  .exact aBK
  exact hlx
 rintro⟨q6,Z1,Zq,x1,QU⟩ aL5 aAK aBL wP ⟨Ua,Lj,hx1,hxp,hxd,Ui⟩
 simp only[HM,xQ,gB,eR]at wP
 have uJ:=aBL.w1 2
 refine ai<|SR<|V (aE dh O uJ (wP.cell (i:=4) O (v:=Pn _ _) O))<|V (af O)<|V (fA ct 0 O sizeOf74 O)<|lV underlying74 wP 5 O O rfl<|V (aeE hwr.fn underlying74 O O)<|aa<|bX O (fun auF=> ?_) (fun auF=> ?_)
 .obtain⟨mwf,fwf,cwf,hwf,aIg,aIh,aIi⟩:=hwr.yes aR
  refine fZ (z:=⟨none,_,_,_,_,none⟩) aQ O aQ wP (sP (sP (sP (sP (sP (sP (sP (sP (sP (sP (sP (sP (sP (sP (sP (sP (sP (sA sR))))))))))))))))))<|fun avb zy=>have Rm:=zy.sub (sP (sP (sP (sP (sP (sP (sP (sP (sP (sP (sP (sP (sP (sP (sP (sP (sP (sA sR))))))))))))))))));AT 0 O Rm (fun w hS=>aE dh O uJ (hS.cell (i:=4) O (v:=Pn _ _) O))<|AQ 1 O Rm (af O)<|AQ 2 O Rm (fA ct 0 O sizeOf74 O)<|tV 3 O Rm underlying74 5 O O rfl<|AQ 4 O Rm (fA Ch 2 O sizeOf117 Ua)<|AT 5 O Rm (fun w hS=>iN (sub:=[_,_,_]) ru O O O (hS.blk (i:=0) O) O)<|A1 6<|yl O aC O (aIi (Kz (Kw W0) (Zq++(J8++(F1.us.map (dS 3)++L2)))) x1.d x1.e x1.l x1.j _ (zy.kz (Le.refl _) (fun x hx=>(mT (mT (mT (mT (mT (mT (mT (mT (mT (mT (mT (mT (mT (mT (mT (mT (mT (bH _ hx)))))))))))))))))))) hx1.ops) (lH aIh (cs:=cwf) (rfl.trans hwf) O) (fun u w' ⟨_,h,_⟩=>(zy.call h.below).sub (sP (sP (sP (sP (sP (sP (sP (sP (sP (sP (sP (sP (sP (sP (sP (sP (sP (sA sR)))))))))))))))))))<| ?_
  rintro _ aFO ⟨OZ,auZ,g1,g2,g3,c1,c2,c3,rfl,aBM⟩
  have J6:Hp _ _ (_::_::_::_::_::_::_::_::_::_::_::_::_::_::_::_::_::(Z1++(OZ++(Zq++(J8++(F1.us.map (dS 3)++L2)))))):=Hp.swz (A:=[_,_,_,_,_,_,_,_,_,_,_,_,_,_,_,_,_]) (Hp.Gh (L:=[_,_,_,_,_,_,_,_,_,_,_,_,_,_,_,_,_]) (L':=(Z1++(Zq++(J8++(F1.us.map (dS 3)++L2))))) (Hp.GH zy auZ))
  have hx2:XD TX (Kz (Kw W0) (OZ++(Zq++(J8++(F1.us.map (dS 3)++L2))))) ids (tl++QU) ⟨x1.p,jO g1 c1,jO g2 c2,jO g3 c3,.wrap mwf x1.d,x1.low⟩:=⟨aBM.mono Le.kk,⟨aIg,hx1.Fz⟩,hx1.sh,hx1.zH.mono (Le.zz fun x hx=>bH _ hx),by show x1.d.dep+1<=1;omega⟩
  refine AQ 7 O (J6.sub (sP (sP (sP (sP (sP (sP (sP (sP (sP (sP (sP (sP (sP (sP (sP (sP (sP (sA (sA sR)))))))))))))))))))) (fA Ch 2 O sizeOf117 Ua)<|AD<|bg J6 (i:=0) O (Qc (sub:=[jO g1 c1,jO g2 c2,jO g3 c3]) (c':=XC ⟨x1.p,jO g1 c1,jO g2 c2,jO g3 c3,.wrap mwf x1.d,x1.low⟩) O O O (by simp[Value.oneCell',jO]) (J6.blk (i:=0) O) (by simp[rP]) O)<|fun aRc Xu=> ?_
  simp only[z2,dm,pull]at Xu
  refine aa<|SR<|V (aE dh O uJ (Xu.cell (i:=4) O (v:=Pn _ _) O))<|V (af O)<|V (fA ct 1 O uA O)<|lV o9 Xu 5 O O rfl<|V (aD (Xu.sl (i:=9) O) O o9 O)<|lN Xu (aT Tryz.zeroValue3)<|fun akk ayT JZ=>bg JZ (i:=0) O (bK O O (v:=I _) O O O (JZ.blk (i:=0) O) az)<|fun au2 BC=> ?_
  simp only[z2,dm,pull]at BC
  refine aa<|ai<|fZ (z:=⟨none,_,_,_,_,none⟩) aQ O aQ BC (sP (sP (sP (sP (sP (sP (sP (sP (sP (sP (sQ (sP (sP (sP (sP (sP (sP (sP (sA sR)))))))))))))))))))<|fun auj Dq=>have zC:=Dq.sub (sP (sP (sP (sP (sP (sP (sP (sP (sP (sP (sQ (sP (sP (sP (sP (sP (sP (sP (sA sR)))))))))))))))))));AT 0 O zC (fun w hS=>aE dh O uJ (hS.cell (i:=5) O (v:=Pn _ _) O))<|AT 1 O zC (fun w hS=>aE dh O uJ (hS.cell (i:=5) O (v:=Pn _ _) O))<|AQ 2 O zC (af O)<|AQ 3 O zC (fA ct 1 O uA O)<|tV 4 O zC o9 6 O O rfl<|AT 5 O zC (fun w hS=>cC (cs:=XC _) Ch O O Ua (bj (hS.blk (i:=1) O)))<|A1 6<|cB O aC O Dq (sP (sP (sP (sP (sP (sP (sP (sP (sP (sP (sQ (sP (sP (sP (sP (sP (sP (sP (sA sR))))))))))))))))))) (f:=fun b=> .slice (some ⟨b,0,none⟩) 1 1) (lJ rP o9 O O O (l:=[⟨x1.p,jO g1 c1,jO g2 c2,jO g3 c3,.wrap mwf x1.d,x1.low⟩]) O az az O)<|fun aIj ao3 DB=>A1 7<|Tb (a:=⟨x1.p,jO g1 c1,jO g2 c2,jO g3 c3,.wrap mwf x1.d,x1.low⟩) O aC rP az O DB (i:=11) O (fun _=>(sQ (sP (sP (sP (sP (sP (sP (sP (sP (sP (sP (sQ (sP (sP (sP (sP (sP (sP (sP (sA sR))))))))))))))))))))) (Hp.gR rP DB (i:=0) (l:=[⟨x1.p,jO g1 c1,jO g2 c2,jO g3 c3,.wrap mwf x1.d,x1.low⟩]) O fT) O O o9 O O (bytes:=120) O O O (fun u hu=>G9 hx2 u pz) J az<|fun ale ao4 og=> ?_
  simp only[z2,dm,pull]at og
  refine AQ 8 O (og.sub (sQ (sP (sP (sP (sP (sP (sP (sP (sP (sP (sP (sQ (sP (sP (sP (sP (sP (sP (sP (sA sR))))))))))))))))))))) (af O)<|AQ 9 O (og.sub (sQ (sP (sP (sP (sP (sP (sP (sP (sP (sP (sP (sQ (sP (sP (sP (sP (sP (sP (sP (sA sR))))))))))))))))))))) (fA ct 1 O uA O)<|AD<|bg og (i:=7) O (bK O O (v:=ale) O (aZ (og.get (i:=11) O)).1 (aZ (og.get (i:=11) O)).2 (og.blk (i:=7) O) aJ)<|fun auk xK=> ?_
  simp only[jd,lf,n5,gQ,Nat.reduceAdd]at xK
  refine aa<|SR<|V (aE dh O uJ (xK.cell (i:=6) O (v:=Pn _ _) O))<| ?_
  refine V (tA uJ bz) ?_
  refine cG O (iL _ _ (.bf s.aq.length) J _ (xK.pj [7,7,7,7,7,7,7,7,7,7,7,7])) (aL zY O O) ?_
  rintro _ avo ⟨rfl,aIk,acV⟩
  simp only[nE]at acV
  have arx:=acV.pk [12,12,12,12,12,12,12]
  refine aa<|SR<|lI bx arx 1 O O rfl<|aI rfl<|aa<|aj<|have Dr:=Hp.mQ (A:=[_,_,_,_,_,_,_,_,_,_,_,_]) (B:=[_,_]) (R:=Z1) ((arx.sub (sQ (sP (sQ (sQ (sQ (sQ sR))))))).pj [2,2,2,2,2,2,2,2,2,2,2,2,1]);have hmv:∀b o,bu.blk b o∈(OZ++(Zq++(J8++(F1.us.map (dS 3)++L2))))->bu.blk b o∈([bu.blk b9 (.cells #[pt n] 31 (0,0)),bu.blk akk (.cells #[I s.aq.length] 3 (0,0))]++(OZ++(Zq++(J8++L2)))):=(fun b o hb=>by have h2:=Tk (A:=OZ++Zq++J8) (gs:=F1.us) (t:=3) (B:=L2) (by simpa only[dH]using hb);simp only[dH]at h2;exact bH _ h2);jx (v:=I s.aq.length) O O (.inr ⟨kD,⟨x1.p,jO g1 c1,jO g2 c2,jO g3 c3,.wrap mwf x1.d,x1.low⟩,(jO 54 #[pt b9,pt akk]),QU,([bu.blk b9 (.cells #[pt n] 31 (0,0)),bu.blk akk (.cells #[I s.aq.length] 3 (0,0))]++(OZ++(Zq++(J8++L2)))),_,Z1,kD,rfl,?_,?_,⟨fun q=>absurd (q.symm.trans ‹aja s.wr=true›) Lm,by show x1.d.dep+1<=1;omega⟩,(fun b o hb=>(fun e he=>bH _ (bH _ (bH _ (bH _ (he))))) _ (OV b o hb)),hx2.mono (Le.zb hmv),?_,Lj,Wo,⟨{F1 with vL:=ale,vm:=v27,vd:=aIk},([bu.blk b9 (.cells #[pt n] 31 (0,0)),bu.blk akk (.cells #[I s.aq.length] 3 (0,0))]++(OZ++(Zq++(J8++L2)))),⟨BF.fo.mono (fun e he=>bH _ (bH _ (bH _ (bH _ (he))))),BF.us⟩,fun _ _ q=>q,rfl⟩,Hp.us4 (A:=[_,_,_,_,_,_,_,_,_,_,_,_]) Dr⟩)
  .show x1.p.sh=p.sh;rw[hxp];exact hps
  .show x1.low=_;rw[Ui,hxp];exact aK (fun q=>gI q ez) hps
  exact⟨_,_,rfl,aJ,aJ⟩
 refine an<|SR<|V (aE dh O uJ (wP.cell (i:=4) O (v:=Pn _ _) O))<|V (af O)<|V (fA ct 1 O uA O)<|lV o9 wP 5 O O rfl<|V (aD (wP.sl (i:=9) O) O o9 O)<|lN wP (aT Tryz.zeroValue3)<|fun ao5 aHl DC=>bg DC (i:=0) O (bK O O (v:=I _) O O O (DC.blk (i:=0) O) az)<|fun aFR J0=> ?_
 simp only[z2,dm,pull]at J0
 refine aa<|ai<|fZ (z:=⟨none,_,_,_,_,none⟩) aQ O aQ J0 (sP (sP (sP (sP (sP (sP (sP (sP (sP (sP (sQ (sP (sP (sP (sP (sP (sP (sP (sA sR)))))))))))))))))))<|fun aRd ary=>have Ro:=ary.sub (sP (sP (sP (sP (sP (sP (sP (sP (sP (sP (sQ (sP (sP (sP (sP (sP (sP (sP (sA sR)))))))))))))))))));AT 0 O Ro (fun w hS=>aE dh O uJ (hS.cell (i:=5) O (v:=Pn _ _) O))<|AT 1 O Ro (fun w hS=>aE dh O uJ (hS.cell (i:=5) O (v:=Pn _ _) O))<|AQ 2 O Ro (af O)<|AQ 3 O Ro (fA ct 1 O uA O)<|tV 4 O Ro o9 6 O O rfl<|AT 5 O Ro (fun w hS=>cC (cs:=XC _) Ch O O Ua (bj (hS.blk (i:=1) O)))<|A1 6<|cB O aC O ary (sP (sP (sP (sP (sP (sP (sP (sP (sP (sP (sQ (sP (sP (sP (sP (sP (sP (sP (sA sR))))))))))))))))))) (f:=fun b=> .slice (some ⟨b,0,none⟩) 1 1) (lJ rP o9 O O O (l:=[x1]) O az az O)<|fun aRe aRf arz=>A1 7<|Tb (a:=x1) O aC rP az O arz (i:=11) O (fun _=>(sQ (sP (sP (sP (sP (sP (sP (sP (sP (sP (sP (sQ (sP (sP (sP (sP (sP (sP (sP (sA sR))))))))))))))))))))) (Hp.gR rP arz (i:=0) (l:=[x1]) O fT) O O o9 O O (bytes:=120) O O O (fun u hu=>G9 hx1 u pz) J az<|fun aBN aIm DF=> ?_
 simp only[z2,dm,pull]at DF
 refine AQ 8 O (DF.sub (sQ (sP (sP (sP (sP (sP (sP (sP (sP (sP (sP (sQ (sP (sP (sP (sP (sP (sP (sP (sA sR))))))))))))))))))))) (af O)<|AQ 9 O (DF.sub (sQ (sP (sP (sP (sP (sP (sP (sP (sP (sP (sP (sQ (sP (sP (sP (sP (sP (sP (sP (sA sR))))))))))))))))))))) (fA ct 1 O uA O)<|AD<|bg DF (i:=7) O (bK O O (v:=aBN) O (aZ (DF.get (i:=11) O)).1 (aZ (DF.get (i:=11) O)).2 (DF.blk (i:=7) O) aJ)<|fun ayV BD=> ?_
 simp only[jd,lf,n5,gQ,Nat.reduceAdd]at BD
 refine aa<|SR<|V (aE dh O uJ (BD.cell (i:=6) O (v:=Pn _ _) O))<| ?_
 refine V (tA uJ bz) ?_
 refine cG O (iL _ _ (.bf s.aq.length) J _ (BD.pj [7,7,7,7,7,7,7,7,7,7,7,7])) (aL zY O O) ?_
 rintro _ aRg ⟨rfl,v175,acW⟩
 simp only[nE]at acW
 have OE:=acW.pk [12,12,12,12,12,12,12]
 refine aa<|SR<|lI bx OE 1 O O rfl<|aI rfl<|aa<|aj<|have aBO:=Hp.mQ (A:=[_,_,_,_,_,_,_,_,_,_,_,_]) (B:=[_,_]) (R:=Z1) ((OE.sub (sQ (sP (sQ (sQ (sQ (sQ sR))))))).pj [2,2,2,2,2,2,2,2,2,2,2,2,1]);have hmv:∀b o,bu.blk b o∈(Zq++(J8++(F1.us.map (dS 3)++L2)))->bu.blk b o∈([bu.blk b9 (.cells #[pt n] 31 (0,0)),bu.blk ao5 (.cells #[I s.aq.length] 3 (0,0))]++(Zq++(J8++L2))):=(fun b o hb=>by have h2:=Tk (A:=Zq++J8) (gs:=F1.us) (t:=3) (B:=L2) (by simpa only[dH]using hb);simp only[dH]at h2;exact bH _ h2);jx (v:=I s.aq.length) O O (.inr ⟨kD,x1,(jO 54 #[pt b9,pt ao5]),QU,([bu.blk b9 (.cells #[pt n] 31 (0,0)),bu.blk ao5 (.cells #[I s.aq.length] 3 (0,0))]++(Zq++(J8++L2))),_,Z1,kD,rfl,?_,?_,⟨fun _=>hxd,J⟩,(fun b o hb=>(fun e he=>bH _ (bH _ (bH _ (he)))) _ (OV b o hb)),hx1.mono (Le.zb hmv),?_,Lj,Wo,⟨{F1 with vL:=aBN,vm:=v27,vd:=v175},([bu.blk b9 (.cells #[pt n] 31 (0,0)),bu.blk ao5 (.cells #[I s.aq.length] 3 (0,0))]++(Zq++(J8++L2))),⟨BF.fo.mono (fun e he=>bH _ (bH _ (bH _ (he)))),BF.us⟩,fun _ _ q=>q,rfl⟩,Hp.us3 (A:=[_,_,_,_,_,_,_,_,_,_,_,_]) aBO⟩)
 .show x1.p.sh=p.sh;rw[hxp];exact hps
 .show x1.low=_;rw[Ui,hxp];exact aK (fun q=>gI q ez) hps
 exact⟨_,_,rfl,aJ,aJ⟩
theorem KE(k:Int)(v:Value)(l:List dX)(t:iS)(w:World)(hb:w.heap[n]?=some (.cells #[wr,vL,vt,vv,vy,vu,vq,I sn,vW,vU,vT,I cn,B sk,U wy,vd,vm] 111 (0,0)))(hL:Sl w vL 13 aq.length (aq.flatMap XC))(ht:Sl w vt 1 bf.length (bf.map I))(hc:Sl w v 10 l.length (l.flatMap kq))(hls:∀x∈aq,lm (Kw w) x.p)(hT:pc w):Calls Tryz.prog 56 #[pt n,I k,v,.agg (jH t).toArray] w (Pure (B (wY aq bf k l t)) w):=by
 have hm3:=hc.small
 unfold maxLen at hm3
 refine eH func56 rfl rfl fun hH=>SR<|gO hH (v:= .agg _) rfl<|fun b3 w1 bq=>va (v:=B false) rfl<|aa<|ai<|SR<|mI rfl<|V (aN O O)<|mB rfl<|bM 14 O (fun h5=> ?_) (fun h5=> ?_)
 .refine aF (v:=B true) rfl<|mB rfl<|cF O rfl<|aF (v:=B true) rfl<|aa<|cz rfl<|SR<|va (v:=B false) rfl<|aa<|aj<|oB O ?_ bq
  exact(NG J).symm
 refine mI rfl<|aF (v:=Pn _ _) rfl<|V (af O)<|V (fA ct 1 O uA O)<|V (aE o9 O O (bq.eT hb O))<|V (aD (hL.hp bq) O o9 O)<|V (dF O O)<|mB rfl<|mB rfl<|bM 23 O (fun h7=> ?_) (fun h7=> ?_)
 .refine aF (v:=B true) rfl<|aa<|cz rfl<|SR<|va (v:=B false) rfl<|aa<|aj<|oB O ?_ bq
  exact(NG J).symm
 refine V (run_move bz) ?_
 refine aH O bq (Hw _ _ _ (hc.hp bq)) (ay call103 O)<|fun w8 iD=>V (bJ O)<|mB rfl<|aa<|bX O (fun h12=> ?_) (fun h12=> ?_)
 .refine SR<|va (v:=B false) rfl<|aa<|aj<|oB O ?_ iD
  exact(ajc (nt ‹(!fY _)=true›)).symm
 refine an<|SR<|aF (v:=Pn _ _) rfl<|V (af O)<|V (fA ct 1 O uA O)<|V (aE o9 O O (iD.eT hb O))<|mI rfl<|V (ah (hL.hp iD) o9 sizeOf119 O O J)<|V (fA Ch 0 O vE O)<|V (mj (dv:=p5) (off:=0) (cs:=yj _) rP (hL.hp iD) dw O O O J (ahw O))<|lN iD (aT Tryz.zeroValue56)<|fun b15 BR cD=>have JH:0<=k/\k<aq.length:=J;bg cD (i:=0) O (dK O O O (ajb (hls _ (dy JH.1 JH.2))) (cD.blk (i:=0) O) O)<|fun Jg er=>aa<|ai<|SR<| ?_
 refine V (run_move bz) ?_
 refine V (aD (hc.hp er) O ic O)<|aF (v:=I 0) rfl<|aa<|aA<|bt (G:=Int) (fun q s' w'=>(Fr (8::(11::(rg 38 28 []))) _ s')/\(Hp w w' _)/\(s' 38=I q)/\(0<=q)/\(q<=l.length)/\(∀j:Int,0<=j->j<q->FV aq bf k (l.getD j.toNat bG)=true)) (fun q=>(l.length-q).toNat) (0) ⟨Fr.refl _ _,er,rfl,J,J,fun j a b=>absurd b J⟩<| ?_
 rintro q aop Lf ⟨r8,dQ,JD,h0,hq,hg⟩
 obtain⟨arA,JX,alf,alg,avp,avq⟩:=r8.w6 0 1 7 9 36 37
 refine SR<|V (aN JD avq)<|aa<|ai<|aG O (fun O7=> ?_) (fun O7=> ?_)
 .refine an<|ai<|aA<|SR<|V (ah (hc.hp dQ) ic px avp JD J)<|V (dY (dv:=bG) gS (hc.hp dQ) ec O O O J)<|lN dQ (aT zi)<|fun b23 N4 cK=>bg cK (i:=0) O (dK (c':=(kq _).toArray) O O O (we _) (cK.blk (i:=0) O) O)<|fun Uq dG=>aa<|SR<|V (fA ec 0 O aP O)<|lI bx dG 0 O O rfl<|V (bW O O)<|mB rfl<|bM 45 O (fun rU=> ?_) (fun rU=> ?_)
  .refine aF arA<|V (fA ec 1 O aP O)<|lI bx dG 0 O O rfl<|aF JX<|aH O dG (E5 _ _ _ (dG.ext hb) (ht.hp dG)) (bA call104 O O O)<|fun w30 kZ=>V (vH O)<|mB rfl<|mB rfl<|bM 53 O (fun BT=> ?_) (fun BT=> ?_)
   .refine gp O O rfl<|gp O O rfl<|gp O O rfl<|gp O O rfl<|gp O O rfl<|Ab<|aF (v:=B true) rfl<|aa<|cz rfl<|SR<|va (v:=B false) rfl<|aa<|aj<|oB O ?_ kZ
    exact(Wp h0 ‹q<_› (ajd ‹(List.getD l _ _).op=1› jK)).symm
   refine V (fA ec 0 O aP O)<|lI bx kZ 0 O O rfl<|V (bW O O)<|mB rfl<|bM 57 O (fun h37=> ?_) (fun h37=> ?_)
   .refine V (cC (cs:=[B _,_]) dw O O alg (bj (kZ.blk (i:=1) O)))<|V (fA ec 2 O fl O)<|V (nN bI O O O (kZ.blk (i:=0) O) (D2 _))<|aH O kZ (A4 _ _ _ ((hls _ (dy JH.1 JH.2)).mono kZ.kw) (hT.hp kZ)) (aL call105 O O)<|fun w38 jS=>V (bJ O)<|mB rfl<|mB rfl<|aa<|bX O (fun h42=> ?_) (fun h42=> ?_)
    .refine SR<|va (v:=B false) rfl<|aa<|aj<|oB O ?_ jS
     exact(NG J).symm
    refine an<|au<|V (ax JD O J)<|mI rfl<|aa<| ?_
    refine⟨q+1,aX,r8.u4.u4.u4.u4.u4.u4.u4.u1,(jS.sub (sQ sR)),(aK I aM),J,J,?_⟩
    exact fun j a b=>if e:j=q then e▸C3 aba (by exact .inr (nf ‹(!cI _ _)=false›))else hg j a J
   refine aF (v:=B false) rfl<|mB rfl<|aa<|cT rfl<|an<|au<|V (ax JD O J)<|mI rfl<|aa<| ?_
   refine⟨q+1,aX,r8.u4.u4.u4.u4.u4.u4.u4.u1,(kZ.sub (sQ sR)),(aK I aM),J,J,?_⟩
   exact fun j a b=>if e:j=q then e▸C3 aba (by exact .inl ‹¬(List.getD l _ _).op=2›)else hg j a J
  refine aF (v:=B false) rfl<|mB rfl<|cF O rfl<|V (fA ec 0 O aP O)<|lI bx dG 0 O O rfl<|V (bW O O)<|mB rfl<|bM 57 O (fun h44=> ?_) (fun h44=> ?_)
  .refine V (cC (cs:=[B _,_]) dw O O alg (bj (dG.blk (i:=1) O)))<|V (fA ec 2 O fl O)<|V (nN bI O O O (dG.blk (i:=0) O) (D2 _))<|aH O dG (A4 _ _ _ ((hls _ (dy JH.1 JH.2)).mono dG.kw) (hT.hp dG)) (aL call105 O O)<|fun w45 oq=>V (bJ O)<|mB rfl<|mB rfl<|aa<|bX O (fun h49=> ?_) (fun h49=> ?_)
   .refine SR<|va (v:=B false) rfl<|aa<|aj<|oB O ?_ oq
    exact(Wp h0 ‹q<_› (aje ‹(List.getD l _ _).op=2› (nt ‹(!cI _ _)=true›))).symm
   refine an<|au<|V (ax JD O J)<|mI rfl<|aa<| ?_
   refine⟨q+1,aX,r8.u4.u4.u4.u4.u4.u4.u4.u1,(oq.sub (sQ sR)),(aK I aM),J,J,?_⟩
   exact fun j a b=>if e:j=q then e▸C3 aa8 (by exact .inr (nf ‹(!cI _ _)=false›))else hg j a J
  refine aF (v:=B false) rfl<|mB rfl<|aa<|cT rfl<|an<|au<|V (ax JD O J)<|mI rfl<|aa<| ?_
  refine⟨q+1,aX,r8.u4.u4.u4.u4.u4.u4.u4.u1,(dG.sub (sQ sR)),(aK I aM),J,J,?_⟩
  exact fun j a b=>if e:j=q then e▸C3 aa8 (by exact .inl ‹¬(List.getD l _ _).op=2›)else hg j a J
 refine a8 (id:=0) rfl<|ai<|SR<|V (fA kQ 0 O aP alf)<|lI bx dQ 1 O O rfl<|V (aN O O)<|aa<|aG O (fun h51=> ?_) (fun h51=> ?_)
 .refine SR<|V (cC (cs:=[B _,_]) dw O O alg (bj (dQ.blk (i:=0) O)))<|V (fA kQ 1 O fl alf)<|V (nN bI O O O (dQ.blk (i:=1) O) (Vs _))<|aH O dQ (A4 _ _ _ ((hls _ (dy JH.1 JH.2)).mono dQ.kw) (hT.hp dQ)) (aL call105 O O)<|fun w52 jA=>aB rfl<|aa<|aj<|oB O ?_ jA
  (rw[NH JH (nf ‹(!fY _)=false›) ‹¬q<_› hg];((rw[anP ‹t.var<0›];rfl)))
 refine an<|SR<|aF arA<|V (fA kQ 0 O aP alf)<|lI bx dQ 1 O O rfl<|aF JX<|aH O dQ (E5 _ _ _ (dQ.ext hb) (ht.hp dQ)) (bA call104 O O O)<|fun w55 nu=>aB rfl<|aa<|aj<|oB O ?_ nu
 (rw[NH JH (nf ‹(!fY _)=false›) ‹¬q<_› hg];(rw[anQ ‹¬t.var<0›]))
theorem O0{s:NP}{R L0 Z:List bu}(l:Int)(hm:m<=90000)(hok:Em s)(hlg:lg.length<=550000000000)(htm:tm.length<=100000000)(w:World)(hZ:wL n m s lg tm R L0 Z)(hH:Hp W0 w Z):Calls Tryz.prog 18 #[pt n,I l] w (j3 fun u w'=>(¬(s.sk=false/\0<=l/\l<s.aq.length)/\u=I (-1)/\∃Z',wL n m s lg tm R L0 Z'/\Hp W0 w' Z')\/(s.sk=false/\(0<=l/\l<s.aq.length)/\u=I s.ak.length/\∃(fv:Value) (L1 Z':List bu),(∀b o,bu.blk b o∈L0->bu.blk b o∈L1)/\nr NX n L1 (fv,.var s.ak.length ((s.cs.length:Int)-1))/\iO [(fv,.var s.ak.length ((s.cs.length:Int)-1))] s (qZ s l (s.aq.getD l.toNat p5).low)/\wL n (m+1) (qZ s l (s.aq.getD l.toNat p5).low) (lg++[(fv,.var s.ak.length ((s.cs.length:Int)-1))]) (tm++[(lg.length:Int)]) R L1 Z'/\Hp W0 w' Z')):=by
 have QM:=hok.QM
 have hlt:=hok.hlt
 have QL:=hok.QL
 have O4:=hok.O4
 have hgu:∀F:NF,qu F.us=s.us->F.us.length=s.us.length:=fun F e=>by rw[<-e,gz]
 refine enter func18 rfl ntmps18 rfl ?_
 obtain⟨F1,L2,BF,OV,rfl⟩:=hZ
 have bY:=hH
 simp only[NZ,nE]at bY
 have jQ:=bY
 rw[<-dH]at jQ
 refine SR<|gO jQ (v:=Pn _ _) rfl<|fun b9 w7 eX=>va (v:=I 0) rfl<|aa<|ai<|SR<|lP dh eX 0 O O rfl<|aH O eX (o7 _ (eX.blk (i:=1) O)) (ay call40 O)<|fun Eo dr=>V (bJ O)<|mB rfl<|eK 10 O (fun Gl=> ?_) (fun Gl=> ?_)
 .refine aF (v:=B true) rfl<|mB rfl<|cF O rfl<|aF (v:=B true) rfl<|aa<|cz rfl<|SR<|va (v:=I (-1)) rfl<|aa<|aj<|jx (v:=I (-1)) O O (.inl ⟨by simp_all;try omega,rfl,_,⟨F1,L2,BF,OV,rfl⟩,by rw[dH]at*;exact(dr.sub (sQ sR))⟩)
 refine mI rfl<|V (aN O O)<|mB rfl<|mB rfl<|bM 14 O (fun yt=> ?_) (fun yt=> ?_)
 .refine aF (v:=B true) rfl<|aa<|cz rfl<|SR<|va (v:=I (-1)) rfl<|aa<|aj<|jx (v:=I (-1)) O O (.inl ⟨by simp_all;try omega,rfl,_,⟨F1,L2,BF,OV,rfl⟩,by rw[dH]at*;exact(dr.sub (sQ sR))⟩)
 refine mI rfl<|lP dh dr 0 O O rfl<|V (af O)<|V (fA ct 1 O uA O)<|lV o9 dr 1 O O rfl<|V (aD (dr.sl (i:=5) O) O o9 O)<|V (dF O O)<|mB rfl<|aa<|aG O (fun p9=> ?_) (fun p9=> ?_)
 .refine SR<|va (v:=I (-1)) rfl<|aa<|aj<|jx (v:=I (-1)) O O (.inl ⟨by simp_all;try omega,rfl,_,⟨F1,L2,BF,OV,rfl⟩,by rw[dH]at*;exact(dr.sub (sQ sR))⟩)
 refine an<|SR<|lP dh dr 0 O O rfl<|cG O (qg J _ (dr.pj [1,1,1,1,1,1,1,1,1,1,1,1])) (ay call41 O)<| ?_
 rintro _ N4 ⟨rfl,v23,cK⟩
 simp only[nE]at cK
 have gM:=cK.pk [12]
 refine aa<|SR<|lP dh gM 0 O O rfl<|V (af O)<|V (fA ct 3 O ji O)<|lV bU gM 1 O O rfl<|V (aD (gM.sl (i:=7) O) O bU O)<|lN gM (aT Tryz.zeroValue3)<|fun b27 w25 jy=>bg jy (i:=0) O (bK O O (v:=I _) O O O (jy.blk (i:=0) O) az)<|fun w30 kZ=>aa<|ai<|fZ (z:=⟨none,_,_,_,_,none⟩) aQ O aQ kZ (sP (sP (sP (sP (sP (sP (sP (sQ sR))))))))<|fun w32 ku=>have OQ:=ku.sub (sP (sP (sP (sP (sP (sP (sP (sQ sR))))))));tP 0 O OQ dh 1 O O rfl<|tP 1 O OQ dh 1 O O rfl<|AQ 2 O OQ (af O)<|AQ 3 O OQ (fA ct 2 O dJ O)<|tV 4 O OQ bD 2 O O rfl<|AQ 5 O OQ (mV (I _) O)<|A1 6<|cB O aC O ku (sP (sP (sP (sP (sP (sP (sP (sQ sR)))))))) (f:=fun b=> .slice (some ⟨b,0,none⟩) 1 1) (cA bD O O (sz:=1) (vs:=[I _]) O O az az O O)<|fun b36 w34 zo=> ?_
 (try simp only[lC]at zo)
 refine A1 7<|Ta O aC O zo (i:=8) O (fun _=>(sQ (sP (sP (sP (sP (sP (sP (sP (sQ sR)))))))))) (zo.dU (i:=0) (n:=1) (sz:=1) O O az) O O bD O O (bytes:=8) O O O O J az<|fun v39 w40 jW=>AQ 8 O (jW.sub (sQ (sP (sP (sP (sP (sP (sP (sP (sQ sR)))))))))) (af O)<|AQ 9 O (jW.sub (sQ (sP (sP (sP (sP (sP (sP (sP (sQ sR)))))))))) (fA ct 2 O dJ O)<|AD<|bg jW (i:=3) O (bK O O (v:=v39) O (aZ (jW.get (i:=8) O)).1 (aZ (jW.get (i:=8) O)).2 (jW.blk (i:=3) O) aJ)<|fun w42 mz=> ?_
 simp only[jd,lf,n5,gQ,Nat.reduceAdd]at mz
 refine aa<|ai<|fZ (z:=⟨none,_,_,_,_,none⟩) aQ O aQ mz (sP (sP (sP (sP (sP (sP (sP (sP (sP (sQ sR))))))))))<|fun w44 r9=>have JE:=r9.sub (sP (sP (sP (sP (sP (sP (sP (sP (sP (sQ sR))))))))));tP 0 O JE dh 2 O O rfl<|tP 1 O JE dh 2 O O rfl<|AQ 2 O JE (af O)<|AQ 3 O JE (fA ct 3 O ji O)<|tV 4 O JE bU 3 O O rfl<|tP 5 O JE dh 2 O O rfl<|AQ 6 O JE (af O)<|AQ 7 O JE (fA ct 1 O uA O)<|tV 8 O JE o9 3 O O rfl<|AQ 9 O JE (mV (I _) O)<|AT 10 O JE (fun w hS=>ah (hS.sl (i:=7) O) o9 sizeOf119 O O J)<|AQ 11 O JE (fA Ch 5 O fl O)<|AT 12 O JE (fun w hS=>ad5 (dv:=p5) (off:=5) rP (hS.sl (i:=7) O) bI O O O J (ate _))<|A1 13<|cB O aC O r9 (sP (sP (sP (sP (sP (sP (sP (sP (sP (sQ sR)))))))))) (f:=fun b=> .slice (some ⟨b,0,none⟩) 1 1) (gf bU O O O O)<|fun b48 w46 o4=> ?_
 (try simp only[lC]at o4)
 refine A1 14<|Tb (a:=(s.aq.getD l.toNat p5).low) O aC cY az O o4 (i:=10) O (fun _=>(sQ (sP (sP (sP (sP (sP (sP (sP (sP (sP (sQ sR)))))))))))) (Hp.gR cY o4 (i:=0) (l:=[_]) O fT) O O bU O O (bytes:=64) O O O (fun u hu=>uZ _ u pz) J az<|fun v51 w52 jA=>AQ 15 O (jA.sub (sQ (sP (sP (sP (sP (sP (sP (sP (sP (sP (sQ sR)))))))))))) (af O)<|AQ 16 O (jA.sub (sQ (sP (sP (sP (sP (sP (sP (sP (sP (sP (sQ sR)))))))))))) (fA ct 3 O ji O)<|AD<|bg jA (i:=4) O (bK O O (v:=v51) O (aZ (jA.get (i:=10) O)).1 (aZ (jA.get (i:=10) O)).2 (jA.blk (i:=4) O) aJ)<|fun w54 jz=> ?_
 simp only[jd,lf,n5,gQ,Nat.reduceAdd]at jz
 refine aa<|ai<|fZ (z:=⟨none,_,_,_,_,none⟩) aQ O aQ jz (sP (sP (sP (sP (sP (sP (sP (sP (sP (sP (sP (sQ sR))))))))))))<|fun w56 aaX=>have alh:=aaX.sub (sP (sP (sP (sP (sP (sP (sP (sP (sP (sP (sP (sQ sR))))))))))));tP 0 O alh dh 3 O O rfl<|tP 1 O alh dh 3 O O rfl<|AQ 2 O alh (af O)<|AQ 3 O alh (fA ct 4 O jB O)<|tV 4 O alh dg 4 O O rfl<|A1 5<|cB O aC O aaX (sP (sP (sP (sP (sP (sP (sP (sP (sP (sP (sP (sQ sR)))))))))))) (f:=fun b=> .slice (some ⟨b,0,none⟩) 1 1) (cA dg O O (sz:=1) (vs:=[U 0#64]) O O az az O O)<|fun b60 w58 B3=> ?_
 (try simp only[lC]at B3)
 refine A1 6<|Ta O aC O B3 (i:=12) O (fun _=>(sQ (sP (sP (sP (sP (sP (sP (sP (sP (sP (sP (sP (sQ sR)))))))))))))) (B3.dU (i:=0) (n:=1) (sz:=1) O O az) O O dg O O (bytes:=8) O O O O J az<|fun v63 w64 wZ=>AQ 7 O (wZ.sub (sQ (sP (sP (sP (sP (sP (sP (sP (sP (sP (sP (sP (sQ sR)))))))))))))) (af O)<|AQ 8 O (wZ.sub (sQ (sP (sP (sP (sP (sP (sP (sP (sP (sP (sP (sP (sQ sR)))))))))))))) (fA ct 4 O jB O)<|AD<|bg wZ (i:=5) O (bK O O (v:=v63) O (aZ (wZ.get (i:=12) O)).1 (aZ (wZ.get (i:=12) O)).2 (wZ.blk (i:=5) O) aJ)<|fun w66 T7=> ?_
 simp only[jd,lf,n5,gQ,Nat.reduceAdd]at T7
 refine aa<|ai<|fZ (z:=⟨none,_,_,_,_,none⟩) aQ O aQ T7 (sP (sP (sP (sP (sP (sP (sP (sP (sP (sP (sP (sP (sP (sQ sR))))))))))))))<|fun w68 KA=>have ali:=KA.sub (sP (sP (sP (sP (sP (sP (sP (sP (sP (sP (sP (sP (sP (sQ sR))))))))))))));tP 0 O ali dh 4 O O rfl<|tP 1 O ali dh 4 O O rfl<|AQ 2 O ali (af O)<|AQ 3 O ali (fA ct 5 O zV O)<|tV 4 O ali pN 5 O O rfl<|A1 5<|cB O aC O KA (sP (sP (sP (sP (sP (sP (sP (sP (sP (sP (sP (sP (sP (sQ sR)))))))))))))) (f:=fun b=> .slice (some ⟨b,0,none⟩) 1 1) (cA pN O O (sz:=1) (vs:=[.slice none 0 0]) O O az az O O)<|fun b72 w70 akr=> ?_
 (try simp only[lC]at akr)
 refine A1 6<|Ta (a:=de) O aC O akr (i:=14) O (fun _=>(sQ (sP (sP (sP (sP (sP (sP (sP (sP (sP (sP (sP (sP (sP (sQ sR)))))))))))))))) (akr.dU (i:=0) (n:=1) (sz:=1) O O az) O O pN O O (bytes:=24) O O O O (by have:=hgu _ ‹azV _ _ _ _ _›.us;omega) az<|fun v75 w76 T9=>AQ 7 O (T9.sub (sQ (sP (sP (sP (sP (sP (sP (sP (sP (sP (sP (sP (sP (sP (sQ sR)))))))))))))))) (af O)<|AQ 8 O (T9.sub (sQ (sP (sP (sP (sP (sP (sP (sP (sP (sP (sP (sP (sP (sP (sQ sR)))))))))))))))) (fA ct 5 O zV O)<|AD<|bg T9 (i:=6) O (bK O O (v:=v75) O (aZ (T9.get (i:=14) O)).1 (aZ (T9.get (i:=14) O)).2 (T9.blk (i:=6) O) aJ)<|fun w78 zD=> ?_
 simp only[jd,lf,n5,gQ,Nat.reduceAdd]at zD
 refine aa<|SR<|lP dh zD 5 O O rfl<|V (af O)<|V (fA ct 8 O pu O)<|aH O zD (akQ BF.fo J (zD.blk (i:=6) O) (zD.yY (i:=7) O BF.fo.hW) (zD.sl (i:=9) O)) (ay call46 O)<|fun w80 ao6=>lN ao6 (aT Tryz.zeroValue3)<|fun b84 w82 alj=>bg alj (i:=0) O (bK O O (v:=I _) O O O (alj.blk (i:=0) O) az)<|fun w87 zu=>aa<|SR<|lP dh zu 6 O O rfl<|V (af O)<|V (fA ct 8 O pu O)<|cG O (azU BF.fo J (R:=([_,_,_,_,_,_,_,_,_,_,_,_,_,_,_]++(F1.us.map (dS 3)++R))) (zu.pj [7,7,7,7])) (ay call47 O)<| ?_
 rintro _ aA9 ⟨rfl,aIo,aIp,aIq,aIr,aIs,W96,aIt,aIu,aIv,akN,avr,OU⟩
 have J5:=Hp.mQ (A:=[_,_,_,_]) (R:=([_,_,_,_,_,_,_,_,_,_,_,_,_,_,_]++(F1.us.map (dS 3)++R))) OU
 simp only[gB,eR]at J5
 have ny:=J5.pk [4,4,4,4,4,4,4]
 refine aa<|SR<|lP dh ny 6 O O rfl<| ?_
 refine V (Mb bz bz bz) ?_
 refine cG O (iL _ _ (.var s.ak.length ((s.cs.length:Int)-1)) J _ (ny.pj [7,7,7,7,7,7,7,7,7,7,7,7])) (aL zY O O) ?_
 rintro _ aGK ⟨rfl,aIw,Rb⟩
 simp only[nE]at Rb
 have wP:=Rb.pk [12,12,12,12,12,12,12]
 refine aa<|SR<|lI bx wP 5 O O rfl<|aI rfl<|aa<|aj<|have aBP:=(((wP.sub (sP (sQ (sQ (sQ (sQ sR)))))).pj [3,3,3,3,3,3,3,3,3,3,3,3,2,1])).eI 3 1;have xJ:=Hp.aER (A:=[_,_,_,_,_,_,_,_,_,_,_,_]) (B:=[bu.blk b9 (.cells #[pt n] 31 (0,0)),bu.blk b27 (.cells #[I s.ak.length] 3 (0,0)),bu.blk b84 (.cells #[I ((s.cs.length:Int)-1)] 3 (0,0))]) (U:=(F1.us.map (dS 3))) (R:=R) aBP;jx (v:=I s.ak.length) O O (.inr ⟨kD,J,rfl,(jO 48 #[pt b9,pt b27,pt b84]),([bu.blk b9 (.cells #[pt n] 31 (0,0)),bu.blk b27 (.cells #[I s.ak.length] 3 (0,0)),bu.blk b84 (.cells #[I ((s.cs.length:Int)-1)] 3 (0,0))]++(akN++L2)),_,(fun b o hb=>bH _ (bH _ (OV b o hb))),⟨_,_,_,rfl,aJ,aJ,aJ⟩,ajg hok.hlt hok.QL hok.O4 BF.fo.ne,⟨{F1 with vW:=aIo,vU:=aIp,vT:=aIq,cW:=aIr,cU:=aIs,W:=W96,ul:=aIt,ts:=aIu,cn:=aIv,vt:=v39,vv:=v51,vy:=v63,vu:=v75,vd:=aIw,vm:=v23,us:=F1.us++[de]},([bu.blk b9 (.cells #[pt n] 31 (0,0)),bu.blk b27 (.cells #[I s.ak.length] 3 (0,0)),bu.blk b84 (.cells #[I ((s.cs.length:Int)-1)] 3 (0,0))]++(akN++L2)),⟨avr.mono fun e he=>bH _ he,ajh BF.us⟩,fun _ _ q=>q,rfl⟩,?_⟩)
 simp only[NZ,nE,qZ,gP,lZ,Ci];exact xJ
theorem xO(v:Value)(l:List dX)(hl:l.length<=1000)(w:World)(hs:Sl w v 10 l.length (l.flatMap kq)):Calls Tryz.prog 57 #[v] w (tg 3 1 (dB l).length ((dB l).map I) w):=by
 have hm:=hs.small
 unfold maxLen at hm
 refine eH func57 rfl rfl fun hH=>SR<|va (v:= .slice none 0 0) rfl<|aa<|SR<|va (v:= .slice none 0 0) rfl<|have jc:=hH.eI 3 1;aa<|ai<|SR<| ?_
 refine V (run_move bz) ?_
 refine V (aD (hs.hp jc) O ic O)<|aF (v:=I 0) rfl<|aa<|aA<|bt (G:=Int×(List Int)×Value) (fun⟨k,m,v3⟩ s' w'=>(Fr (3::(5::6::(rg 9 57 []))) _ s')/\(Hp w w' (.row v3 3 1 (m.length) (m.map I)::_))/\(s' 3=v3)/\(s' 9=I k)/\(0<=k)/\(k<=l.length)/\(m=dB (l.take k.toNat))/\((m.length:Int)<=k)) (fun⟨k,m,v3⟩=>(l.length-k).toNat) ((0,[],(.slice none 0 0:Value))) ⟨Fr.refl _ _,jc,rfl,rfl,J,J,rfl,aJ⟩<| ?_
 rintro⟨k,m,v3⟩ sg2 w2 ⟨Vk,bq,WG,alk,h0,hk,hm,hml⟩
 obtain⟨aRm,aIx,aIy⟩:=Vk.w3 2 7 8
 refine SR<|V (aN alk aIy)<|aa<|ai<|aG O (fun h4=> ?_) (fun h4=> ?_)
 .refine an<|ai<|aA<|SR<|V (ah (hs.hp bq) ic px aIx alk J)<|V (dY (dv:=bG) gS (hs.hp bq) ec O O O J)<|lN bq (aT zi)<|fun b7 w5 jQ=>bg jQ (i:=0) O (dK (c':=(kq _).toArray) O O O (we _) (jQ.blk (i:=0) O) O)<|fun w8 iD=>aa<|ai<|SR<|V (fA ec 0 O aP O)<|lI bx iD 0 O O rfl<|V (kL O O)<|mB rfl<|bM 16 O (fun h11=> ?_) (fun h11=> ?_)
  .refine aF (v:=B true) rfl<|aa<|cz rfl<|a8 (id:=1) rfl<|au<|V (ax alk O J)<|mI rfl<|aa<| ?_
   refine⟨(k+1,m,v3),aX,Vk.u4.u4.u4.u1.u1,(Hp.conv (iD.sub (sQ sR)) aM),WG,(aK I aM),J,J,?_,J⟩
   rw[jP h0 ‹k<_›,<-hm];((rw[aW J];done))
  refine V (fA ec 1 O aP O)<|lI bx iD 0 O O rfl<|V (aN O O)<|mB rfl<|aa<|aG O (fun TB=> ?_) (fun TB=> ?_)
  .refine a8 (id:=1) rfl<|au<|V (ax alk O J)<|mI rfl<|aa<| ?_
   refine⟨(k+1,m,v3),aX,Vk.u4.u4.u4.u1.u1,(Hp.conv (iD.sub (sQ sR)) aM),WG,(aK I aM),J,J,?_,J⟩
   rw[jP h0 ‹k<_›,<-hm];((rw[aW J];done))
  refine an<|SR<|va (v:=I 0) rfl<|aa<|ai<|aA<|bt (G:=Int) (fun i s' w'=>(Fr (6::(rg 21 15 [])) _ s')/\(Hp w w' _)/\(s' 6=I i)/\(0<=i)/\(i<=m.length)/\(∀j:Nat,j<i.toNat->m.getD j 0<(l.getD k.toNat bG).n)) (fun i=>(m.length-i).toNat) (0) ⟨Fr.refl _ _,iD,rfl,J,J,fun j h=>absurd h J⟩<| ?_
  rintro i aaf Q1 ⟨mW,cD,mM,i0,hi,hlt⟩
  have xH:=mW.w1 5
  obtain⟨kI,Bu⟩:=mW.t2 3 WG 9 alk
  refine ai<|ai<|ew aQ cD<|fun Tz cH=>have uk:=cH;AQ 0 O uk (run_move mM)<|AQ 1 O uk (run_move kI)<|AT 2 O uk (fun w hS=>aD (hS.sl (i:=1) O) O bD O)<|AQ 3 O uk (aN O O)<|AQ 4 O uk (mV (B _) O)<|CC (dj:=25) O (fun p9=> ?_) (fun p9=> ?_)
  .refine BQ 5 O O (bT p9) cH (run_move kI)<|BQ 6 O O (bT p9) cH (run_move mM)<|AG 7 O O (bT p9) cH (fun w hS=>ah (hS.sl (i:=1) O) bD aP O O J)<|AG 8 O O (bT p9) cH (fun w hS=>aE bx O O ((hS.sl (i:=1) O).cell _ _ (eU J)))<|BQ 9 O O (bT p9) cH (fA ec 1 O aP xH)<|AG 10 O O (bT p9) cH (fun w hS=>aE bx O O (hS.cell (i:=0) O (v:=I _) O))<|BQ 11 O O (bT p9) cH (aN O O)<|AQ 12 O uk (gN (bT p9) (v:=B _) O)<|AD<|aG O (fun O7=> ?_) (fun O7=> ?_)
   .refine an<|aA<|au<|aF mM<|V (ax O O J)<|aI rfl<|aa<| ?_
    refine⟨i+1,aX,mW.u4.u4.u4.u4,cH,(aK I aM),J,J,?_⟩
    exact fun j hj=>if e:j=i.toNat then e▸‹_<_›else hlt j J
   refine a8 (id:=2) rfl<|ai<|ai<|ew aQ cH<|fun N4 cK=>have aaY:=cK;AQ 0 O aaY (run_move mM)<|AQ 1 O aaY (run_move kI)<|AT 2 O aaY (fun w hS=>aD (hS.sl (i:=1) O) O bD O)<|AQ 3 O aaY (aN O O)<|AQ 4 O aaY (mV (B _) O)<|CC (dj:=40) O (fun yI=> ?_) (fun yI=> ?_)
   .refine BQ 5 O O (bT yI) cK (run_move kI)<|BQ 6 O O (bT yI) cK (run_move mM)<|AG 7 O O (bT yI) cK (fun w hS=>ah (hS.sl (i:=1) O) bD aP O O J)<|AG 8 O O (bT yI) cK (fun w hS=>aE bx O O ((hS.sl (i:=1) O).cell _ _ (eU J)))<|BQ 9 O O (bT yI) cK (fA ec 1 O aP xH)<|AG 10 O O (bT yI) cK (fun w hS=>aE bx O O (hS.cell (i:=0) O (v:=I _) O))<|BQ 11 O O (bT yI) cK (bW O O)<|AQ 12 O aaY (gN (bT yI) (v:=B _) O)<|AD<|aG O (fun WJ=> ?_) (fun WJ=> ?_)
    .refine a8 (id:=1) rfl<|au<|V (ax Bu O J)<|mI rfl<|aa<| ?_
     refine⟨(k+1,m,v3),aX,(((Vk.u4.u4.u4.u1).t mW O)).u4.u4.u4.u4.u4.u4.u4,(Hp.conv (cK.sub (sQ sR)) aM),kI,(aK I aM),J,J,?_,J⟩
     rw[jP h0 ‹k<_›,<-hm];((rw[aY ⟨J,J⟩];exact(aiU (i:=i.toNat) J hlt J).symm))
    refine an<|SR<|aF kI<|ud 1 1 cK (cA bD O O (sz:=1) (vs:=[I 0]) O O az az O O)<|fun b29 w27 iJ=> ?_
    (try simp only[lC]at iJ)
    refine gh O iJ (i:=2) O (iJ.dU (i:=0) (n:=1) (sz:=1) O O az) O O bD O O (size:=1) (bytes:=8) O O O az gZ J iA<|fun v30 w31 ij=> ?_
    refine V (run_assign bz) ?_
    refine aa<|ai<|fX aQ ij (sP (sP (sQ sR)))<|fun w33 kr=>have alm:=kr.sub (sP (sP (sQ sR)));?_
    refine AQ 0 O alm (run_move bz) ?_
    refine AQ 1 O alm (run_move mM)<|AQ 2 O alm (ax O O J)<| ?_
    refine AQ 4 O alm (run_move bz) ?_
    refine AQ 5 O alm (run_move mM)<|gj 3 6 aQ ?_ ?_
    .refine cf O aC O kr (sP (sP (sQ sR))) (gD (kr.sl (i:=2) O) bD aP O O J)<|A1 6<|cf O aC O kr (sP (sP (sQ sR))) (gD (kr.sl (i:=2) O) bD aP O O J)<|A1 7<|CO O aC O (qM (c:=m.length-i.toNat) (o:=(i+1).toNat) kr (i:=2) O J bD O O O (Sl.fr (kr.sl (i:=2) O) i.toNat J) Cv J (fun u hu=>tX (sF hu))) (fun w' h=>h.sub (sP (sP (sQ sR))))<|fun w41 q5=>AD<|au<| ?_
     refine V (run_move bz) ?_
     refine aF mM<|V (fA ec 1 O aP xH)<|lI bx q5 1 O O rfl<|V (ah (q5.sl (i:=2) O) bD aP O O J)<|Ap q5 (i:=2) O J O (u:=I _) O O O O J<|fun w43 pK=>aa<|au<|V (ax Bu O J)<|mI rfl<|aa<| ?_
     refine⟨(k+1,(m.take i.toNat++(l.getD k.toNat bG).n::m.drop i.toNat),v30),aX,(((Vk.u4.u4.u4.u1).t mW O)).u4.u4.u4.u4.u4.u4.u4.u4.u4.u4.u4.u1,(Hp.conv (pK.sub (sQ (sQ sR))) Cr),rfl,(aK I aM),J,J,?_,L3⟩
     rw[jP h0 ‹k<_›,<-hm];((rw[aY ⟨J,J⟩];exact(AH (i:=i.toNat) J hlt (fun _=>J)).symm))
    refine cf O aC O kr (sP (sP (sQ sR))) (gD (kr.sl (i:=2) O) bD aP O O J)<|A1 3<|cf O aC O kr (sP (sP (sQ sR))) (gD (kr.sl (i:=2) O) bD aP O O J)<|A1 7<|CO O aC O (qM (c:=m.length-i.toNat) (o:=(i+1).toNat) kr (i:=2) O J bD O O O (Sl.fr (kr.sl (i:=2) O) i.toNat J) Cv J (fun u hu=>tX (sF hu))) (fun w' h=>h.sub (sP (sP (sQ sR))))<|fun w51 B0=>AD<|au<| ?_
    refine V (run_move bz) ?_
    refine aF mM<|V (fA ec 1 O aP xH)<|lI bx B0 1 O O rfl<|V (ah (B0.sl (i:=2) O) bD aP O O J)<|Ap B0 (i:=2) O J O (u:=I _) O O O O J<|fun w53 gU=>aa<|au<|V (ax Bu O J)<|mI rfl<|aa<| ?_
    refine⟨(k+1,(m.take i.toNat++(l.getD k.toNat bG).n::m.drop i.toNat),v30),aX,(((Vk.u4.u4.u4.u1).t mW O)).u4.u4.u4.u4.u4.u4.u4.u4.u4.u4.u4.u1,(Hp.conv (gU.sub (sQ (sQ sR))) Cr),rfl,(aK I aM),J,J,?_,L3⟩
    rw[jP h0 ‹k<_›,<-hm];((rw[aY ⟨J,J⟩];exact(AH (i:=i.toNat) J hlt (fun _=>J)).symm))
   refine AK 5 O O (bF yI) cK<|AK 6 O O (bF yI) cK<|AK 7 O O (bF yI) cK<|AK 8 O O (bF yI) cK<|AK 9 O O (bF yI) cK<|AK 10 O O (bF yI) cK<|AK 11 O O (bF yI) cK<|AQ 12 O aaY (dR (bF yI) (v:=B false) O)<|AD<|cT rfl<|an<|SR<|aF kI<|ud 1 1 cK (cA bD O O (sz:=1) (vs:=[I 0]) O O az az O O)<|fun b57 w55 nu=> ?_
   (try simp only[lC]at nu)
   refine gh O nu (i:=2) O (nu.dU (i:=0) (n:=1) (sz:=1) O O az) O O bD O O (size:=1) (bytes:=8) O O O az gZ J iA<|fun v58 w59 wH=> ?_
   refine V (run_assign bz) ?_
   refine aa<|ai<|fX aQ wH (sP (sP (sQ sR)))<|fun w61 sj=>have aln:=sj.sub (sP (sP (sQ sR)));?_
   refine AQ 0 O aln (run_move bz) ?_
   refine AQ 1 O aln (run_move mM)<|AQ 2 O aln (ax O O J)<| ?_
   refine AQ 4 O aln (run_move bz) ?_
   refine AQ 5 O aln (run_move mM)<|gj 3 6 aQ ?_ ?_
   .refine cf O aC O sj (sP (sP (sQ sR))) (gD (sj.sl (i:=2) O) bD aP O O J)<|A1 6<|cf O aC O sj (sP (sP (sQ sR))) (gD (sj.sl (i:=2) O) bD aP O O J)<|A1 7<|CO O aC O (qM (c:=m.length-i.toNat) (o:=(i+1).toNat) sj (i:=2) O J bD O O O (Sl.fr (sj.sl (i:=2) O) i.toNat J) Cv J (fun u hu=>tX (sF hu))) (fun w' h=>h.sub (sP (sP (sQ sR))))<|fun w69 wI=>AD<|au<| ?_
    refine V (run_move bz) ?_
    refine aF mM<|V (fA ec 1 O aP xH)<|lI bx wI 1 O O rfl<|V (ah (wI.sl (i:=2) O) bD aP O O J)<|Ap wI (i:=2) O J O (u:=I _) O O O O J<|fun w71 Jn=>aa<|au<|V (ax Bu O J)<|mI rfl<|aa<| ?_
    refine⟨(k+1,(m.take i.toNat++(l.getD k.toNat bG).n::m.drop i.toNat),v58),aX,(((Vk.u4.u4.u4.u1).t mW O)).u4.u4.u4.u4.u4.u4.u4.u4.u4.u4.u4.u1,(Hp.conv (Jn.sub (sQ (sQ sR))) Cr),rfl,(aK I aM),J,J,?_,J⟩
    rw[jP h0 ‹k<_›,<-hm];((rw[aY ⟨J,J⟩];exact(AH (i:=i.toNat) J hlt (fun _=>J)).symm))
   refine cf O aC O sj (sP (sP (sQ sR))) (gD (sj.sl (i:=2) O) bD aP O O J)<|A1 3<|cf O aC O sj (sP (sP (sQ sR))) (gD (sj.sl (i:=2) O) bD aP O O J)<|A1 7<|CO O aC O (qM (c:=m.length-i.toNat) (o:=(i+1).toNat) sj (i:=2) O J bD O O O (Sl.fr (sj.sl (i:=2) O) i.toNat J) Cv J (fun u hu=>tX (sF hu))) (fun w' h=>h.sub (sP (sP (sQ sR))))<|fun w79 pL=>AD<|au<| ?_
   refine V (run_move bz) ?_
   refine aF mM<|V (fA ec 1 O aP xH)<|lI bx pL 1 O O rfl<|V (ah (pL.sl (i:=2) O) bD aP O O J)<|Ap pL (i:=2) O J O (u:=I _) O O O O J<|fun w81 o5=>aa<|au<|V (ax Bu O J)<|mI rfl<|aa<| ?_
   refine⟨(k+1,(m.take i.toNat++(l.getD k.toNat bG).n::m.drop i.toNat),v58),aX,(((Vk.u4.u4.u4.u1).t mW O)).u4.u4.u4.u4.u4.u4.u4.u4.u4.u4.u4.u1,(Hp.conv (o5.sub (sQ (sQ sR))) Cr),rfl,(aK I aM),J,J,?_,J⟩
   rw[jP h0 ‹k<_›,<-hm];((rw[aY ⟨J,J⟩];exact(AH (i:=i.toNat) J hlt (fun _=>J)).symm))
  refine AK 5 O O (bF p9) cH<|AK 6 O O (bF p9) cH<|AK 7 O O (bF p9) cH<|AK 8 O O (bF p9) cH<|AK 9 O O (bF p9) cH<|AK 10 O O (bF p9) cH<|AK 11 O O (bF p9) cH<|AQ 12 O uk (dR (bF p9) (v:=B false) O)<|AD<|cT rfl<|a8 (id:=2) rfl<|ai<|ai<|ew aQ cH<|fun w83 kx=>have sq:=kx;AQ 0 O sq (run_move mM)<|AQ 1 O sq (run_move kI)<|AT 2 O sq (fun w hS=>aD (hS.sl (i:=1) O) O bD O)<|AQ 3 O sq (aN O O)<|AQ 4 O sq (mV (B _) O)<|CC (dj:=40) O (fun Ub=> ?_) (fun Ub=> ?_)
  .refine BQ 5 O O (bT Ub) kx (run_move kI)<|BQ 6 O O (bT Ub) kx (run_move mM)<|AG 7 O O (bT Ub) kx (fun w hS=>ah (hS.sl (i:=1) O) bD aP O O J)<|AG 8 O O (bT Ub) kx (fun w hS=>aE bx O O ((hS.sl (i:=1) O).cell _ _ (eU J)))<|BQ 9 O O (bT Ub) kx (fA ec 1 O aP xH)<|AG 10 O O (bT Ub) kx (fun w hS=>aE bx O O (hS.cell (i:=0) O (v:=I _) O))<|BQ 11 O O (bT Ub) kx (bW O O)<|AQ 12 O sq (gN (bT Ub) (v:=B _) O)<|AD<|aG O (fun h88=> ?_) (fun h88=> ?_)
   .refine a8 (id:=1) rfl<|au<|V (ax Bu O J)<|mI rfl<|aa<| ?_
    refine⟨(k+1,m,v3),aX,(((Vk.u4.u4.u4.u1).t mW O)).u4.u4.u4.u4.u4.u4.u4,(Hp.conv (kx.sub (sQ sR)) aM),kI,(aK I aM),J,J,?_,J⟩
    rw[jP h0 ‹k<_›,<-hm];((rw[aW J];done))
   refine an<|SR<|aF kI<|ud 1 1 kx (cA bD O O (sz:=1) (vs:=[I 0]) O O az az O O)<|fun b91 w89 nZ=> ?_
   (try simp only[lC]at nZ)
   refine gh O nZ (i:=2) O (nZ.dU (i:=0) (n:=1) (sz:=1) O O az) O O bD O O (size:=1) (bytes:=8) O O O az gZ J iA<|fun v92 w93 uI=> ?_
   refine V (run_assign bz) ?_
   refine aa<|ai<|fX aQ uI (sP (sP (sQ sR)))<|fun w95 qc=>have alo:=qc.sub (sP (sP (sQ sR)));?_
   refine AQ 0 O alo (run_move bz) ?_
   refine AQ 1 O alo (run_move mM)<|AQ 2 O alo (ax O O J)<| ?_
   refine AQ 4 O alo (run_move bz) ?_
   refine AQ 5 O alo (run_move mM)<|gj 3 6 aQ ?_ ?_
   .refine cf O aC O qc (sP (sP (sQ sR))) (gD (qc.sl (i:=2) O) bD aP O O J)<|A1 6<|cf O aC O qc (sP (sP (sQ sR))) (gD (qc.sl (i:=2) O) bD aP O O J)<|A1 7<|CO O aC O (qM (c:=m.length-i.toNat) (o:=(i+1).toNat) qc (i:=2) O J bD O O O (Sl.fr (qc.sl (i:=2) O) i.toNat J) Cv J (fun u hu=>tX (sF hu))) (fun w' h=>h.sub (sP (sP (sQ sR))))<|fun aBQ BB=>AD<|au<| ?_
    refine V (run_move bz) ?_
    refine aF mM<|V (fA ec 1 O aP xH)<|lI bx BB 1 O O rfl<|V (ah (BB.sl (i:=2) O) bD aP O O J)<|Ap BB (i:=2) O J O (u:=I _) O O O O J<|fun aow ny=>aa<|au<|V (ax Bu O J)<|mI rfl<|aa<| ?_
    refine⟨(k+1,(m.take i.toNat++(l.getD k.toNat bG).n::m.drop i.toNat),v92),aX,(((Vk.u4.u4.u4.u1).t mW O)).u4.u4.u4.u4.u4.u4.u4.u4.u4.u4.u4.u1,(Hp.conv (ny.sub (sQ (sQ sR))) Cr),rfl,(aK I aM),J,J,?_,J⟩
    rw[jP h0 ‹k<_›,<-hm];((rw[aY ⟨J,J⟩];exact(AH (i:=i.toNat) J hlt (fun _=>J)).symm))
   refine cf O aC O qc (sP (sP (sQ sR))) (gD (qc.sl (i:=2) O) bD aP O O J)<|A1 3<|cf O aC O qc (sP (sP (sQ sR))) (gD (qc.sl (i:=2) O) bD aP O O J)<|A1 7<|CO O aC O (qM (c:=m.length-i.toNat) (o:=(i+1).toNat) qc (i:=2) O J bD O O O (Sl.fr (qc.sl (i:=2) O) i.toNat J) Cv J (fun u hu=>tX (sF hu))) (fun w' h=>h.sub (sP (sP (sQ sR))))<|fun ayS xJ=>AD<|au<| ?_
   refine V (run_move bz) ?_
   refine aF mM<|V (fA ec 1 O aP xH)<|lI bx xJ 1 O O rfl<|V (ah (xJ.sl (i:=2) O) bD aP O O J)<|Ap xJ (i:=2) O J O (u:=I _) O O O O J<|fun avb zy=>aa<|au<|V (ax Bu O J)<|mI rfl<|aa<| ?_
   refine⟨(k+1,(m.take i.toNat++(l.getD k.toNat bG).n::m.drop i.toNat),v92),aX,(((Vk.u4.u4.u4.u1).t mW O)).u4.u4.u4.u4.u4.u4.u4.u4.u4.u4.u4.u1,(Hp.conv (zy.sub (sQ (sQ sR))) Cr),rfl,(aK I aM),J,J,?_,J⟩
   rw[jP h0 ‹k<_›,<-hm];((rw[aY ⟨J,J⟩];exact(AH (i:=i.toNat) J hlt (fun _=>J)).symm))
  refine AK 5 O O (bF Ub) kx<|AK 6 O O (bF Ub) kx<|AK 7 O O (bF Ub) kx<|AK 8 O O (bF Ub) kx<|AK 9 O O (bF Ub) kx<|AK 10 O O (bF Ub) kx<|AK 11 O O (bF Ub) kx<|AQ 12 O sq (dR (bF Ub) (v:=B false) O)<|AD<|cT rfl<|an<|SR<|aF kI<|ud 1 1 kx (cA bD O O (sz:=1) (vs:=[I 0]) O O az az O O)<|fun aRn alp wO=> ?_
  (try simp only[lC]at wO)
  refine gh O wO (i:=2) O (wO.dU (i:=0) (n:=1) (sz:=1) O O az) O O bD O O (size:=1) (bytes:=8) O O O az gZ J iA<|fun aBR aGB OC=> ?_
  refine V (run_assign bz) ?_
  refine aa<|ai<|fX aQ OC (sP (sP (sQ sR)))<|fun aox oe=>have Xv:=oe.sub (sP (sP (sQ sR)));?_
  refine AQ 0 O Xv (run_move bz) ?_
  refine AQ 1 O Xv (run_move mM)<|AQ 2 O Xv (ax O O J)<| ?_
  refine AQ 4 O Xv (run_move bz) ?_
  refine AQ 5 O Xv (run_move mM)<|gj 3 6 aQ ?_ ?_
  .refine cf O aC O oe (sP (sP (sQ sR))) (gD (oe.sl (i:=2) O) bD aP O O J)<|A1 6<|cf O aC O oe (sP (sP (sQ sR))) (gD (oe.sl (i:=2) O) bD aP O O J)<|A1 7<|CO O aC O (qM (c:=m.length-i.toNat) (o:=(i+1).toNat) oe (i:=2) O J bD O O O (Sl.fr (oe.sl (i:=2) O) i.toNat J) Cv J (fun u hu=>tX (sF hu))) (fun w' h=>h.sub (sP (sP (sQ sR))))<|fun au2 BC=>AD<|au<| ?_
   refine V (run_move bz) ?_
   refine aF mM<|V (fA ec 1 O aP xH)<|lI bx BC 1 O O rfl<|V (ah (BC.sl (i:=2) O) bD aP O O J)<|Ap BC (i:=2) O J O (u:=I _) O O O O J<|fun auj Dq=>aa<|au<|V (ax Bu O J)<|mI rfl<|aa<| ?_
   refine⟨(k+1,(m.take i.toNat++(l.getD k.toNat bG).n::m.drop i.toNat),aBR),aX,(((Vk.u4.u4.u4.u1).t mW O)).u4.u4.u4.u4.u4.u4.u4.u4.u4.u4.u4.u1,(Hp.conv (Dq.sub (sQ (sQ sR))) Cr),rfl,(aK I aM),J,J,?_,L3⟩
   rw[jP h0 ‹k<_›,<-hm];((rw[aY ⟨J,J⟩];exact(AH (i:=i.toNat) J hlt (fun _=>J)).symm))
  refine cf O aC O oe (sP (sP (sQ sR))) (gD (oe.sl (i:=2) O) bD aP O O J)<|A1 3<|cf O aC O oe (sP (sP (sQ sR))) (gD (oe.sl (i:=2) O) bD aP O O J)<|A1 7<|CO O aC O (qM (c:=m.length-i.toNat) (o:=(i+1).toNat) oe (i:=2) O J bD O O O (Sl.fr (oe.sl (i:=2) O) i.toNat J) Cv J (fun u hu=>tX (sF hu))) (fun w' h=>h.sub (sP (sP (sQ sR))))<|fun ao4 og=>AD<|au<| ?_
  refine V (run_move bz) ?_
  refine aF mM<|V (fA ec 1 O aP xH)<|lI bx og 1 O O rfl<|V (ah (og.sl (i:=2) O) bD aP O O J)<|Ap og (i:=2) O J O (u:=I _) O O O O J<|fun auk xK=>aa<|au<|V (ax Bu O J)<|mI rfl<|aa<| ?_
  refine⟨(k+1,(m.take i.toNat++(l.getD k.toNat bG).n::m.drop i.toNat),aBR),aX,(((Vk.u4.u4.u4.u1).t mW O)).u4.u4.u4.u4.u4.u4.u4.u4.u4.u4.u4.u1,(Hp.conv (xK.sub (sQ (sQ sR))) Cr),rfl,(aK I aM),J,J,?_,L3⟩
  rw[jP h0 ‹k<_›,<-hm];((rw[aY ⟨J,J⟩];exact(AH (i:=i.toNat) J hlt (fun _=>J)).symm))
 refine a8 (id:=0) rfl<|SR<|aF WG<| ?_
 refine V (run_assign bz) ?_
 refine aa<|aj<|Pa O O bq (i:=0) O ((by rw[hm,jg J])) ((by rw[hm,jg J]))
theorem O1{s:NP}{R L0 Z:List bu}(k:Int)(v:Value)(l:List dX)(t:iS)(y:BitVec 64)(hok:Em s)(hll:l.length<=1000)(hlg:lg.length<=550000000000)(htm:tm.length<=100000000)(w:World)(hT:pc W0)(hls:∀x∈s.aq,lm (Kz (Kw W0) L0) x.p)(hc:oE (Kz (Kw W0) L0) v 10 l.length (l.flatMap kq))(hZ:wL n m s lg tm R L0 Z)(hH:Hp W0 w Z):Calls Tryz.prog 25 #[pt n,I k,v,.agg (jH t).toArray,U y] w (j3 fun u w'=>(¬(s.sk=false/\wY s.aq s.bf k l t=true)/\u=B false/\∃Z',wL n m s lg tm R L0 Z'/\Hp W0 w' Z')\/(s.sk=false/\wY s.aq s.bf k l t=true/\u=B true/\∃(fv cv vv:Value) (L1 Z':List bu),(∀b o,bu.blk b o∈L0->bu.blk b o∈L1)/\Ej (Kz (Kw W0) L1) (⟨k,cv,l,t,y,vv,dB l⟩:dD)/\nr NX n L1 (fv,.add s.qs.length (⟨k,cv,l,t,y,vv,dB l⟩:dD))/\iO [(fv,.add s.qs.length (⟨k,cv,l,t,y,vv,dB l⟩:dD))] s (BL s (⟨k,cv,l,t,y,vv,dB l⟩:dD))/\wL n m (BL s (⟨k,cv,l,t,y,vv,dB l⟩:dD)) (lg++[(fv,.add s.qs.length (⟨k,cv,l,t,y,vv,dB l⟩:dD))]) (tm++[(lg.length:Int)]) R L1 Z'/\Hp W0 w' Z')):=by
 have hqn:=hok.hqn
 refine enter func25 rfl ntmps25 rfl ?_
 obtain⟨F1,L2,BF,OV,rfl⟩:=hZ
 have bY:=hH
 simp only[NZ,nE]at bY
 have Zh:=hc.mono (Le.zb (K:=Kw W0) OV)
 have aIA:∀x∈s.aq,lm (Kz (Kw W0) L2) x.p:=fun x hx=>(hls x hx).mono (Le.zb OV)
 have KD:∀k:Nat,(F1.us.getD k de).l.length<=1000:=fun k=>by rw[<-C2,BF.us];by_cases c:k<s.us.length;exact(hok.yp k c).1;rw[eV,ot J];simp
 refine SR<|gO bY (v:=Pn _ _) rfl<|fun b8 w6 eE=>gO eE (v:= .agg _) rfl<|fun b11 w9 cg=>va (v:=B false) rfl<|aa<|ai<|SR<|lP dh cg 1 O O rfl<|aH O cg (o7 _ (cg.blk (i:=2) O)) (ay call40 O)<|fun zl bV=>V (bJ O)<|mB rfl<|eK 18 O (fun yt=> ?_) (fun yt=> ?_)
 .refine aF (v:=B true) rfl<|aa<|cz rfl<|SR<|va (v:=B false) rfl<|aa<|aj<|jx (v:=B false) O O (.inl ⟨kD,rfl,_,⟨F1,L2,BF,OV,rfl⟩,(bV.sub (sQ (sQ sR)))⟩)
 refine lP dh bV 1 O O rfl<|mI rfl<| ?_
 refine V (run_move bz) ?_
 refine V (cC (cs:=jH _) kQ O O O (bj (bV.blk (i:=0) O)))<|aH O bV (KE _ _ _ _ _ (bV.blk (i:=2) O) (bV.sl (i:=6) O) (bV.sl (i:=7) O) (Zh.mono (bV.kz (Le.refl _) (fun x hx=>(mT (mT (mT (mT (mT (mT (mT (mT (mT (mT (mT (mT (mT (mT (bH _ (bH _ hx))))))))))))))))))).sl (fun x hx=>(aIA x hx).mono (bV.kz (Le.refl _) (fun x hx=>(mT (mT (mT (mT (mT (mT (mT (mT (mT (mT (mT (mT (mT (mT (bH _ (bH _ hx))))))))))))))))))) (hT.hp bV)) (jE call56 O O O O)<|fun TC dQ=>V (bJ O)<|mB rfl<|aa<|bX O (fun Pt=> ?_) (fun Pt=> ?_)
 .refine SR<|va (v:=B false) rfl<|aa<|aj<|jx (v:=B false) O O (.inl ⟨kD,rfl,_,⟨F1,L2,BF,OV,rfl⟩,(dQ.sub (sQ (sQ sR)))⟩)
 refine an<|SR<|lP dh dQ 1 O O rfl<|cG O (qg J _ (dQ.pj [2,2,2,2,2,2,2,2,2,2,2,2])) (ay call41 O)<| ?_
 rintro _ w24 ⟨rfl,v26,om⟩
 simp only[nE]at om
 have dG:=om.pk [12,12]
 refine aa<|SR<|lP dh dG 1 O O rfl<|V (af O)<|V (fA ct 6 O xZ O)<|lV ov dG 2 O O rfl<|V (aD (dG.sl (i:=11) O) O ov O)<|lN dG (aT Tryz.zeroValue3)<|fun b30 w28 gE=>bg gE (i:=0) O (bK O O (v:=I _) O O O (gE.blk (i:=0) O) az)<|fun w33 kr=> ?_
 simp only[z2,dm,pull]at kr
 refine aa<|FH (G:=(Nat)×(Value)×(Value)×(List bu)) kr (12::(rg 33 9 [])) (fun(L:List bu) (⟨q12,cv,vv,Zq⟩:(Nat)×(Value)×(Value)×(List bu))=> .blk q12 (.cells (qw (⟨k,cv,l,t,y,vv,dB l⟩:dD)).toArray 128 (0,0))::(L.take 15++((F1.us.map (dS 3))++(Zq++(R++L2))))) (fun(⟨q12,cv,vv,Zq⟩:(Nat)×(Value)×(Value)×(List bu)) s'=>(s' 12= .pointer (some ⟨q12,0,none⟩))/\(Ej (Kz (Kw W0) Zq) (⟨k,cv,l,t,y,vv,dB l⟩:dD))) ?_ ?_
 .refine fZ (z:=⟨none,_,_,_,_,none⟩) aQ O aQ kr sR<|fun w35 j8=>have s8:=j8.sub sR;AQ 0 O s8 (mV (I _) O)<| ?_
  refine AQ 2 O s8 (run_move bz) ?_
  refine AT 4 O s8 (fun w hS=>cC (cs:=jH _) kQ O O O (bj (hS.blk (i:=1) O)))<|AQ 5 O s8 (mV (U _) O)<| ?_
  refine AQ 6 O s8 (run_move bz) ?_
  refine gj 1 9 aQ ?_ ?_
  .refine cB O aC O j8 sR (f:=fun b=> .slice (some ⟨b,0,none⟩) 0 0) (tj ic px)<|fun b39 w37 uG=> ?_
   (try simp only[lC]at uG)
   have lO:=uG.sM 0 10 O az
   refine gj 3 9 aQ ?_ ?_
   .refine fB O aC O lO (j:=0) O (fun _=>(sQ sR)) (Zh.mono (lO.kz (Le.refl _) (fun x hx=>(mT (mT (mT (mT (mT (mT (mT (mT (mT (mT (mT (mT (mT (mT (mT (mT (bH _ (bH _ hx))))))))))))))))))))).sl O O ic O O (size:=10) (bytes:=80) O O O az (NK _) J iA<|fun v43 w44 r9=> ?_
    simp only[z2,dm,pull]at r9
    refine gj 7 9 aQ ?_ ?_
    .refine L9 O aC O r9 (sQ sR) (xO _ _ J _ (Zh.mono (r9.kz (Le.refl _) (fun x hx=>(mT (mT (mT (mT (mT (mT (mT (mT (mT (mT (mT (mT (mT (mT (mT (mT (bH _ (bH _ hx))))))))))))))))))))).sl) (ay call57 O)<|fun v48 w46 o4=>AQ 8 O (o4.sub (sQ (sQ sR))) (dL (vs:=[(0,I k),(1,v43),(2,.agg (jH t).toArray),(3,U y),(4,v48)]) O (Bb k l t y (dB l) (aZ (o4.get (i:=1) O)).1 (aZ (o4.get (i:=0) O)).1))<|A1 9<|cB O aC O o4 (sQ (sQ sR)) (f:=fun b=> .pointer (some ⟨b,0,none⟩)) (aT Tryz.zeroValue128)<|fun b51 w49 eO=>AD<| ?_
     obtain⟨Z52,aIB,aIC,-⟩:=(eO.pj [2]).SG (Kw W0)
     have jz:Hp _ w49 (_::_::_::_::_::_::_::_::_::_::_::_::_::_::_::_::_::(Z52++((F1.us.map (dS 3))++(R++L2)))):=aIB.Gh (L:=[_,_,_,_,_,_,_,_,_,_,_,_,_,_,_,_,_]) (L':=((F1.us.map (dS 3))++(R++L2)))
     have nu:=Hp.mQ (A:=[_,_,_,_,_,_,_,_,_,_,_,_,_,_,_,_,_]) (B:=Z52) (R:=(F1.us.map (dS 3))) jz
     simp only[gB,eR]at nu
     obtain⟨Z57,aID,aIE,-⟩:=(nu.pj [1]).SG (Kw W0)
     have wH:Hp _ w49 (_::_::_::_::_::_::_::_::_::_::_::_::_::_::_::_::(Z57++((F1.us.map (dS 3))++(Z52++(R++L2))))):=aID.Gh (L:=[_,_,_,_,_,_,_,_,_,_,_,_,_,_,_,_]) (L':=((F1.us.map (dS 3))++(Z52++(R++L2))))
     have Es:=Hp.mQ (A:=[_,_,_,_,_,_,_,_,_,_,_,_,_,_,_,_]) (B:=Z57) (R:=(F1.us.map (dS 3))) wH
     simp only[gB,eR]at Es
     have zJ:Ej (Kz (Kw W0) (Z57++Z52)) (⟨k,v43,l,t,y,v48,dB l⟩:dD):=⟨oE.mono (by simpa using aIC) (Le.zz fun x hx=>bH _ hx),aIE.mono (Le.zz fun x hx=>dI _ hx)⟩
     refine bg Es (i:=0) O (dK O O O (tY zJ) (Es.blk (i:=0) O) O)<|fun w62 o6=> ?_
     simp only[z2,dm,pull]at o6
     refine aa ?_
     refine⟨((Fr.refl _ _)).u4.u4.u1.u1,(b51,v43,v48,(Z57++Z52)),(Hp.conv o6 R6),rfl,?_⟩
     exact zJ
    refine cB O aC O r9 (sQ sR) (f:=fun b=> .pointer (some ⟨b,0,none⟩)) (aT Tryz.zeroValue128)<|fun b66 w64 wZ=>A1 7<|L9 O aC O wZ (sQ (sQ sR)) (xO _ _ J _ (Zh.mono (wZ.kz (Le.refl _) (fun x hx=>(mT (mT (mT (mT (mT (mT (mT (mT (mT (mT (mT (mT (mT (mT (mT (mT (mT (bH _ (bH _ hx)))))))))))))))))))))).sl) (ay call57 O)<|fun v69 w67 kJ=>AQ 8 O (kJ.sub (sQ (sQ (sQ sR)))) (dL (vs:=[(0,I k),(1,v43),(2,.agg (jH t).toArray),(3,U y),(4,v69)]) O (Bb k l t y (dB l) (aZ (kJ.get (i:=2) O)).1 (aZ (kJ.get (i:=0) O)).1))<|AD<| ?_
    obtain⟨Gm,avs,avt,-⟩:=(kJ.pj [2]).SG (Kw W0)
    have vc:Hp _ w67 (_::_::_::_::_::_::_::_::_::_::_::_::_::_::_::_::_::(Gm++((F1.us.map (dS 3))++(R++L2)))):=avs.Gh (L:=[_,_,_,_,_,_,_,_,_,_,_,_,_,_,_,_,_]) (L':=((F1.us.map (dS 3))++(R++L2)))
    have xb:=Hp.mQ (A:=[_,_,_,_,_,_,_,_,_,_,_,_,_,_,_,_,_]) (B:=Gm) (R:=(F1.us.map (dS 3))) vc
    simp only[gB,eR]at xb
    obtain⟨Z75,aIF,aIG,-⟩:=xb.SG (Kw W0)
    have zx:Hp _ w67 (_::_::_::_::_::_::_::_::_::_::_::_::_::_::_::_::(Z75++((F1.us.map (dS 3))++(Gm++(R++L2))))):=aIF.Gh (L:=[_,_,_,_,_,_,_,_,_,_,_,_,_,_,_,_]) (L':=((F1.us.map (dS 3))++(Gm++(R++L2))))
    have zD:=Hp.mQ (A:=[_,_,_,_,_,_,_,_,_,_,_,_,_,_,_,_]) (B:=Z75) (R:=(F1.us.map (dS 3))) zx
    simp only[gB,eR]at zD
    have zJ:Ej (Kz (Kw W0) (Z75++Gm)) (⟨k,v43,l,t,y,v69,dB l⟩:dD):=⟨oE.mono (by simpa using avt) (Le.zz fun x hx=>bH _ hx),aIG.mono (Le.zz fun x hx=>dI _ hx)⟩
    refine bg zD (i:=0) O (dK O O O (tY zJ) (zD.blk (i:=0) O) O)<|fun w80 ao6=> ?_
    simp only[z2,dm,pull]at ao6
    refine aa ?_
    refine⟨((Fr.refl _ _)).u4.u4.u1.u1,(b66,v43,v69,(Z75++Gm)),(Hp.conv ao6 R6),rfl,?_⟩
    exact zJ
   refine cB O aC O lO (sQ sR) (f:=fun b=> .pointer (some ⟨b,0,none⟩)) (aT Tryz.zeroValue128)<|fun b84 w82 alj=>A1 3<|fB O aC O alj (j:=1) O (fun _=>(sQ (sQ sR))) (Zh.mono (alj.kz (Le.refl _) (fun x hx=>(mT (mT (mT (mT (mT (mT (mT (mT (mT (mT (mT (mT (mT (mT (mT (mT (mT (bH _ (bH _ hx)))))))))))))))))))))).sl O O ic O O (size:=10) (bytes:=80) O O O az (NK _) J iA<|fun v87 w88 Jp=> ?_
   simp only[z2,dm,pull]at Jp
   refine A1 7<|L9 O aC O Jp (sQ (sQ sR)) (xO _ _ J _ (Zh.mono (Jp.kz (Le.refl _) (fun x hx=>(mT (mT (mT (mT (mT (mT (mT (mT (mT (mT (mT (mT (mT (mT (mT (mT (mT (bH _ (bH _ hx)))))))))))))))))))))).sl) (ay call57 O)<|fun v92 w90 OJ=>AQ 8 O (OJ.sub (sQ (sQ (sQ sR)))) (dL (vs:=[(0,I k),(1,v87),(2,.agg (jH t).toArray),(3,U y),(4,v92)]) O (Bb k l t y (dB l) (aZ (OJ.get (i:=2) O)).1 (aZ (OJ.get (i:=0) O)).1))<|AD<| ?_
   obtain⟨Z93,aIH,aII,-⟩:=(OJ.pj [2]).SG (Kw W0)
   have qc:Hp _ w90 (_::_::_::_::_::_::_::_::_::_::_::_::_::_::_::_::_::(Z93++((F1.us.map (dS 3))++(R++L2)))):=aIH.Gh (L:=[_,_,_,_,_,_,_,_,_,_,_,_,_,_,_,_,_]) (L':=((F1.us.map (dS 3))++(R++L2)))
   have T1:=Hp.mQ (A:=[_,_,_,_,_,_,_,_,_,_,_,_,_,_,_,_,_]) (B:=Z93) (R:=(F1.us.map (dS 3))) qc
   simp only[gB,eR]at T1
   obtain⟨Z98,aIJ,aBS,-⟩:=T1.SG (Kw W0)
   have E6:Hp _ w90 (_::_::_::_::_::_::_::_::_::_::_::_::_::_::_::_::(Z98++((F1.us.map (dS 3))++(Z93++(R++L2))))):=aIJ.Gh (L:=[_,_,_,_,_,_,_,_,_,_,_,_,_,_,_,_]) (L':=((F1.us.map (dS 3))++(Z93++(R++L2))))
   have qd:=Hp.mQ (A:=[_,_,_,_,_,_,_,_,_,_,_,_,_,_,_,_]) (B:=Z98) (R:=(F1.us.map (dS 3))) E6
   simp only[gB,eR]at qd
   have zJ:Ej (Kz (Kw W0) (Z98++Z93)) (⟨k,v87,l,t,y,v92,dB l⟩:dD):=⟨oE.mono (by simpa using aII) (Le.zz fun x hx=>bH _ hx),aBS.mono (Le.zz fun x hx=>dI _ hx)⟩
   refine bg qd (i:=0) O (dK O O O (tY zJ) (qd.blk (i:=0) O) O)<|fun aBQ BB=> ?_
   simp only[z2,dm,pull]at BB
   refine aa ?_
   refine⟨((Fr.refl _ _)).u4.u4.u1.u1,(b84,v87,v92,(Z98++Z93)),(Hp.conv BB R6),rfl,?_⟩
   exact zJ
  refine cB O aC O j8 sR (f:=fun b=> .pointer (some ⟨b,0,none⟩)) (aT Tryz.zeroValue128)<|fun ayR aow ny=>A1 1<|cB O aC O ny (sQ sR) (f:=fun b=> .slice (some ⟨b,0,none⟩) 0 0) (tj ic px)<|fun ao7 aua xI=> ?_
  (try simp only[lC]at xI)
  have Hz:=xI.sM 0 10 O az
  refine A1 3<|fB O aC O Hz (j:=0) O (fun _=>(sQ (sQ sR))) (Zh.mono (Hz.kz (Le.refl _) (fun x hx=>(mT (mT (mT (mT (mT (mT (mT (mT (mT (mT (mT (mT (mT (mT (mT (mT (mT (bH _ (bH _ hx)))))))))))))))))))))).sl O O ic O O (size:=10) (bytes:=80) O O O az (NK _) J iA<|fun avu avb zy=> ?_
  simp only[z2,dm,pull]at zy
  refine A1 7<|L9 O aC O zy (sQ (sQ sR)) (xO _ _ J _ (Zh.mono (zy.kz (Le.refl _) (fun x hx=>(mT (mT (mT (mT (mT (mT (mT (mT (mT (mT (mT (mT (mT (mT (mT (mT (mT (bH _ (bH _ hx)))))))))))))))))))))).sl) (ay call57 O)<|fun avv alp wO=>AQ 8 O (wO.sub (sQ (sQ (sQ sR)))) (dL (vs:=[(0,I k),(1,avu),(2,.agg (jH t).toArray),(3,U y),(4,avv)]) O (Bb k l t y (dB l) (aZ (wO.get (i:=1) O)).1 (aZ (wO.get (i:=0) O)).1))<|AD<| ?_
  obtain⟨afi,aBT,aBU,-⟩:=(wO.pj [1]).SG (Kw W0)
  have J6:Hp _ alp (_::_::_::_::_::_::_::_::_::_::_::_::_::_::_::_::_::(afi++((F1.us.map (dS 3))++(R++L2)))):=aBT.Gh (L:=[_,_,_,_,_,_,_,_,_,_,_,_,_,_,_,_,_]) (L':=((F1.us.map (dS 3))++(R++L2)))
  have oe:=Hp.mQ (A:=[_,_,_,_,_,_,_,_,_,_,_,_,_,_,_,_,_]) (B:=afi) (R:=(F1.us.map (dS 3))) J6
  simp only[gB,eR]at oe
  obtain⟨ao8,aBV,alq,-⟩:=oe.SG (Kw W0)
  have alr:Hp _ alp (_::_::_::_::_::_::_::_::_::_::_::_::_::_::_::_::(ao8++((F1.us.map (dS 3))++(afi++(R++L2))))):=aBV.Gh (L:=[_,_,_,_,_,_,_,_,_,_,_,_,_,_,_,_]) (L':=((F1.us.map (dS 3))++(afi++(R++L2))))
  have DA:=Hp.mQ (A:=[_,_,_,_,_,_,_,_,_,_,_,_,_,_,_,_]) (B:=ao8) (R:=(F1.us.map (dS 3))) alr
  simp only[gB,eR]at DA
  have zJ:Ej (Kz (Kw W0) (ao8++afi)) (⟨k,avu,l,t,y,avv,dB l⟩:dD):=⟨oE.mono (by simpa using aBU) (Le.zz fun x hx=>bH _ hx),alq.mono (Le.zz fun x hx=>dI _ hx)⟩
  refine bg DA (i:=0) O (dK O O O (tY zJ) (DA.blk (i:=0) O) O)<|fun azL OL=> ?_
  simp only[z2,dm,pull]at OL
  refine aa ?_
  refine⟨((Fr.refl _ _)).u4.u4.u1.u1,(ayR,avu,avv,(ao8++afi)),(Hp.conv OL R6),rfl,?_⟩
  exact zJ
 rintro⟨q12,cv,vv,Zq⟩ aL9 aRp aBW BC ⟨Uc,afj⟩
 simp only[HM,xQ,gB,eR]at BC
 obtain⟨aaZ,aDs,ao9⟩:=aBW.w3 5 10 11
 have hfb:wY s.aq s.bf k l t=true:=nf ‹(!wY _ _ _ _ _)=false›
 have hvs:=aeF hfb
 have QM:=Wq l
 have hvl:∀v∈dB l,0<=v/\v<s.us.length:=fun v hv=>by have:=hvs v hv;have:=hok.hlt;have:=hok.O4;omega
 have hvc:(dB l).length<=1000:=kf (aew l) hll
 have hvw:(⟨k,cv,l,t,y,vv,dB l⟩:dD).vars.length=(dB l).length:=rfl
 refine ai<|fZ (z:=⟨none,_,_,_,_,none⟩) aQ O aQ BC (sP (sP (sP (sP (sP (sP (sP (sP (sP (sP (sP (sP (sP (sQ sR))))))))))))))<|fun auj Dq=>have zC:=Dq.sub (sP (sP (sP (sP (sP (sP (sP (sP (sP (sP (sP (sP (sP (sQ sR))))))))))))));AT 0 O zC (fun w hS=>aE dh O aaZ (hS.cell (i:=3) O (v:=Pn _ _) O))<|AT 1 O zC (fun w hS=>aE dh O aaZ (hS.cell (i:=3) O (v:=Pn _ _) O))<|AQ 2 O zC (af O)<|AQ 3 O zC (fA ct 6 O xZ O)<|tV 4 O zC ov 4 O O rfl<|AT 5 O zC (fun w hS=>cC (cs:=qw _) jh O O Uc (bj (hS.blk (i:=0) O)))<|A1 6<|cB O aC O Dq (sP (sP (sP (sP (sP (sP (sP (sP (sP (sP (sP (sP (sP (sQ sR)))))))))))))) (f:=fun b=> .slice (some ⟨b,0,none⟩) 1 1) (lJ pZ ov O O O (l:=[(⟨k,cv,l,t,y,vv,dB l⟩:dD)]) O az az O)<|fun aIj ao3 DB=>A1 7<|Tb (a:=(⟨k,cv,l,t,y,vv,dB l⟩:dD)) O aC pZ az O DB (i:=14) O (fun _=>(sQ (sP (sP (sP (sP (sP (sP (sP (sP (sP (sP (sP (sP (sP (sQ sR)))))))))))))))) (Hp.gR pZ DB (i:=0) (l:=[(⟨k,cv,l,t,y,vv,dB l⟩:dD)]) O fT) O O ov O O (bytes:=136) O O O (fun u hu=>tY afj u pz) J az<|fun ale ao4 og=> ?_
 simp only[z2,dm,pull]at og
 refine AQ 8 O (og.sub (sQ (sP (sP (sP (sP (sP (sP (sP (sP (sP (sP (sP (sP (sP (sQ sR)))))))))))))))) (af O)<|AQ 9 O (og.sub (sQ (sP (sP (sP (sP (sP (sP (sP (sP (sP (sP (sP (sP (sP (sQ sR)))))))))))))))) (fA ct 6 O xZ O)<|AD<|bg og (i:=5) O (bK O O (v:=ale) O (aZ (og.get (i:=14) O)).1 (aZ (og.get (i:=14) O)).2 (og.blk (i:=5) O) aJ)<|fun auk xK=> ?_
 simp only[jd,lf,n5,gQ,Nat.reduceAdd]at xK
 refine aa<|ai<|SR<|V (fA jh 12 O dJ Uc)<|V (bZ (afj.vars.mono (xK.kz (Le.refl _) (fun x hx=>(mT (mT (mT (mT (mT (mT (mT (mT (mT (mT (mT (mT (mT (mT (mT (mT (mT (bH _ (dI _ hx)))))))))))))))))))))).sl bD O O (xK.cell (i:=1) O O))<|V (aD (afj.vars.mono (xK.kz (Le.refl _) (fun x hx=>(mT (mT (mT (mT (mT (mT (mT (mT (mT (mT (mT (mT (mT (mT (mT (mT (mT (bH _ (dI _ hx)))))))))))))))))))))).sl O bD O)<|aF (v:=I 0) rfl<|aa<|aA<|bt (G:=Int×(List j5)×(List bu)) (fun⟨j,XJ,Z1⟩ s' w'=>(Fr (14::(rg 55 21 [])) _ s')/\(Hp W0 w' (_::_::_::_::_::_::_::_::_::_::_::_::_::jY j5.v F1.vu 99 XJ::_::_::_::Z1))/\(s' 55=I j)/\(0<=j)/\(j<=(dB l).length)/\(Z1=XJ.map (dS 3)++(Zq++(R++L2)))/\(qu XJ=((dB l).take j.toNat).foldl (FW s.qs.length) s.us)) (fun⟨j,XJ,Z1⟩=>((dB l).length-j).toNat) ((0,F1.us,((F1.us.map (dS 3))++(Zq++(R++L2))))) ⟨Fr.refl _ _,xK,rfl,J,J,rfl,BF.us⟩<| ?_
 rintro⟨j,XJ,Z1⟩ aMa aRq ⟨als,Xw,Ud,h0,hj,hz,hgs⟩
 obtain⟨apa,apb⟩:=als.w2 53 54
 obtain⟨Ue,acX,apc⟩:=als.t3 5 aaZ 11 ao9 12 Uc
 subst hz
 have hgn:XJ.length=s.us.length:=by have:=aK List.length hgs;rwa[gz,p7]at this
 have hub:∀k:Nat,(XJ.getD k de).l.length<=1001:=fun k=>by rw[<-C2,hgs];exact anR (QM.sublist (List.take_sublist _ _)) (fun v hv=>hvl v (uK hv)) (by rw[<-BF.us,C2];exact KD k)
 refine SR<|V (aN Ud apb)<|aa<|ai<|aG O (fun aIK=> ?_) (fun aIK=> ?_)
 .refine an<|ai<|aA<|SR<|V (ah (afj.vars.mono (Xw.kz (Le.refl _) (fun x hx=>(mT (mT (mT (mT (mT (mT (mT (mT (mT (mT (mT (mT (mT (mT (mT (mT (mT (bH _ (dI _ hx)))))))))))))))))))))).sl bD aP apa Ud J)<|V (aE bx O O ((afj.vars.mono (Xw.kz (Le.refl _) (fun x hx=>(mT (mT (mT (mT (mT (mT (mT (mT (mT (mT (mT (mT (mT (mT (mT (mT (mT (bH _ (dI _ hx)))))))))))))))))))))).sl.cell _ _ (eU J)))<|V (run_assign (show _=I ((dB l).getD j.toNat 0)from O))<|aa<|have hvj:=hvl _ (dy (d:=0) h0 ‹j<_›);?_
  rw[<-hgn]at hvj
  refine fZ (z:=⟨none,_,_,_,_,none⟩) aQ O aQ Xw (sP (sP (sP (sP (sP (sP (sP (sP (sP (sP (sP (sP (sP (sP (sP (sP (sP (sA sR))))))))))))))))))<|fun aRs Xg=>have zE:=Xg.sub (sP (sP (sP (sP (sP (sP (sP (sP (sP (sP (sP (sP (sP (sP (sP (sP (sP (sA sR))))))))))))))))));AT 0 O zE (fun w hS=>aE dh O Ue (hS.cell (i:=4) O (v:=Pn _ _) O))<|AQ 1 O zE (af O)<|AQ 2 O zE (fA ct 5 O zV O)<|tV 3 O zE pN 5 O O rfl<|AQ 4 O zE (mV (I _) O)<|AT 5 O zE (fun w hS=>aE dh O Ue (hS.cell (i:=4) O (v:=Pn _ _) O))<|AQ 6 O zE (af O)<|AQ 7 O zE (fA ct 5 O zV O)<|tV 8 O zE pN 5 O O rfl<|AQ 9 O zE (mV (I _) O)<|AT 10 O zE (fun w hS=>ah (hS.sl (i:=13) O) pN dJ O (show _=I ((dB l).getD j.toNat 0)from O) J)<|AT 11 O zE (fun w hS=>aE bD O O ((hS.sl (i:=13) O).cell _ _ (lT (dv:=de) J)))<|AT 12 O zE (fun w hS=>aE bx O acX (hS.cell (i:=2) O (v:=I _) O))<|A1 13<|cB O aC O Xg (sP (sP (sP (sP (sP (sP (sP (sP (sP (sP (sP (sP (sP (sP (sP (sP (sP (sA sR)))))))))))))))))) (f:=fun b=> .slice (some ⟨b,0,none⟩) 1 1) (cA bD O O (sz:=1) (vs:=[I _]) O O az az O O)<|fun aRt aFQ Dr=> ?_
  (try simp only[lC]at Dr)
  refine A1 14<|aiF (A:=[_,_,_,_,_,_,_,_,_,_,_,_,_,_,_,_,_,_]) (gs:=XJ) (q:=((dB l).getD j.toNat 0)) (a:=(s.qs.length:Int)) (R:=(Zq++(R++L2))) O aC O Dr (fun _=>(sQ (sP (sP (sP (sP (sP (sP (sP (sP (sP (sP (sP (sP (sP (sP (sP (sP (sP (sA (sA sR))))))))))))))))))))) hvj (Dr.dU (i:=0) (n:=1) (sz:=1) O O az) O O bD O O (bytes:=8) O O O (by have:=hub (((dB l).getD j.toNat 0)).toNat;omega) az<|fun TQ aRu acY=> ?_
  simp only[gB,eR]at acY
  refine AT 15 O (acY.sub (sQ (sP (sP (sP (sP (sP (sP (sP (sP (sP (sP (sP (sP (sP (sP (sP (sP (sP (sA sR)))))))))))))))))))) (fun w hS=>ah (hS.sl (i:=13) O) pN dJ O (show _=I ((dB l).getD j.toNat 0)from O) J)<|AD<|have arC:=Hp.axE (A:=[_,_,_,_,_,_,_,_,_,_,_,_,_,_,_,_,_,_]) (gs:=XJ) (q:=((dB l).getD j.toNat 0)) (R:=(Zq++(R++L2))) acY J;rN (f:=j5.v) (a:=⟨TQ,(XJ.getD (((dB l).getD j.toNat 0)).toNat de).l++[(s.qs.length:Int)]⟩) acY (i:=14) O J O O arC.1 arC.2 rfl<|fun aRv arD=> ?_
  simp only[z2,dm,pull]at arD
  refine aa<|au<|V (ax Ud O J)<|mI rfl<|aa<| ?_
  refine⟨(j+1,(XJ.set (((dB l).getD j.toNat 0)).toNat ⟨TQ,(XJ.getD (((dB l).getD j.toNat 0)).toNat de).l++[(s.qs.length:Int)]⟩),(((XJ.set (((dB l).getD j.toNat 0)).toNat ⟨TQ,(XJ.getD (((dB l).getD j.toNat 0)).toNat de).l++[(s.qs.length:Int)]⟩).map (dS 3))++(Zq++(R++L2)))),aX,als.u4.u4.u4.u4.u4.u1.u1,(Hp.conv (arD.sub (sQ sR)) aM),(aK I aM),J,J,aM,?_⟩
  (rw[oX h0 ‹j<_›,<-hgs];unfold FW;rw[ab4,FQ])
 refine a8 (id:=0) rfl<|SR<|V (aE dh O Ue (Xw.cell (i:=4) O (v:=Pn _ _) O))<|V (Mb Ue acX apc)<|cG O (iL _ _ (.add s.qs.length (⟨k,cv,l,t,y,vv,dB l⟩:dD)) J _ (Xw.pj [5,5,5,5,5,5,5,5,5,5,5,5])) (aL zY O O)<| ?_
 rintro _ aIL ⟨rfl,aIM,acZ⟩
 simp only[nE]at acZ
 have aBX:=acZ.pk [12,12,12,12,12]
 refine aa<|SR<|va (v:=B true) rfl<|aa<|aj<|have OD:=((aBX.sub (sQ (sP (sP (sQ sR))))).pj [3,3,3,3,3,3,3,3,3,3,3,3,2,1]);have DF:=Hp.aES (A:=[_,_,_,_,_,_,_,_,_,_,_,_]) (B:=[bu.blk b8 (.cells #[pt n] 31 (0,0)),bu.blk b30 (.cells #[I s.qs.length] 3 (0,0)),bu.blk q12 (.cells (qw (⟨k,cv,l,t,y,vv,dB l⟩:dD)).toArray 128 (0,0))]) (U:=(XJ.map (dS 3))) (Q:=Zq) (R:=R) OD;?_
 rw[jg J]at hgs
 refine jx (v:=B true) O O (.inr ⟨kD,hfb,rfl,(jO 58 #[pt b8,pt b30,pt q12]),cv,vv,([bu.blk b8 (.cells #[pt n] 31 (0,0)),bu.blk b30 (.cells #[I s.qs.length] 3 (0,0)),bu.blk q12 (.cells (qw (⟨k,cv,l,t,y,vv,dB l⟩:dD)).toArray 128 (0,0))]++(Zq++L2)),_,(fun b o hb=>bH _ (bH _ (OV b o hb))),afj.mono (Le.zz fun x hx=>bH _ (dI _ hx)),⟨_,_,_,rfl,aJ,aJ,aJ⟩,ajj QM hvl,⟨{F1 with vu:=F1.vu,vq:=ale,vd:=aIM,vm:=v26,us:=XJ},([bu.blk b8 (.cells #[pt n] 31 (0,0)),bu.blk b30 (.cells #[I s.qs.length] 3 (0,0)),bu.blk q12 (.cells (qw (⟨k,cv,l,t,y,vv,dB l⟩:dD)).toArray 128 (0,0))]++(Zq++L2)),⟨BF.fo.mono fun e he=>bH _ (bH _ he),hgs⟩,fun _ _ q=>q,rfl⟩,?_⟩)
 simp only[NZ,nE,BL];exact DF
theorem rY(K:Vu)(p:ko)(hpo:lM p=true)(hcs:∀x∈p.aO,x.code.length<=1000)(w:World)(hK:Le K (Kw w))(hp:rL K p):Calls Tryz.prog 14 #[.agg (sy p).toArray] w (EI K (fun K' u=>∃(sv:Value) (v:List El) (b:Bool),u= .tuple #[sv,B b]/\oE K' sv 8 v.length (v.flatMap pM)/\v.length=p.s.vars.length/\nU (iI p.s) (QP p.s p.aO) (ze p.s v)/\(b=true↔vb (iI p.s) (QP p.s p.aO))) w):=by
 have BA:=hp.aO.small
 unfold maxLen at BA
 obtain⟨hrs,Vz⟩:=FZ hpo
 obtain⟨⟨hs1,hs2⟩,hsl,hsv⟩:=zf hrs
 refine eH func14 rfl rfl fun hH=>SR<|gO hH (v:= .agg _) rfl<|fun b3 w1 bq=>va (v:= .slice none 0 0) rfl<|va (v:=B false) rfl<|aa<|SR<|V (fA kR 0 O zX O)<|V (iN (sub:=CM _) gH O O O (bq.blk (i:=0) O) (D3 _))<|IN O bq (A5 K p.s J _ (hK.trans bq.kw) hp.s) (ay call37 O)<|fun v6 w7 Z9 eX aIN=>have dr:Hp _ w7 (_::Z9):=eX.amN (L:=[_]);?_
 obtain⟨n12,rfl,aIP,aIQ⟩:=aIN
 refine V (DM mN O isAgg46 O O) ?_
 refine V (run_assign bz) ?_
 refine aa<|ai<|SR<|va (v:=B true) rfl<|aa<|aA<|bt (G:=Bool×(List El)×Value×(List bu)) (fun⟨ag,v,vs,Z1⟩ s' w'=>(Fr (rg 4 7 (rg 19 64 [])) _ s')/\(Hp w w' (_::Z1))/\(s' 4=vs)/\(s' 5=B ag)/\(Pj p.s p.aO v)/\(ag=false->∀x∈p.aO,x.op=8->0<=x.to.var->cS (eA (iw p.s x.bf) x.code v).1 (v.getD x.to.var.toNat df)=true)/\(oE (Kz K Z1) vs 8 v.length (v.flatMap pM))) (fun⟨ag,v,vs,Z1⟩=>aeI p.s v+(if ag=true then 1 else 0)) ((true,n12.labels,n12.lv,Z9)) ⟨Fr.refl _ _,dr,rfl,rfl,(by rw[show n12.labels=(M4 p.s.sc).labels from aK As.labels aIP];exact Pj.start hrs),(fun h=>mO),aIQ.labels⟩<| ?_
 rintro⟨ag,v,vs,Z1⟩ ayO Tz ⟨xd,gW,arE,aBY,hI,hd,hv⟩
 obtain⟨Xe,Q7,acI⟩:=xd.w3 1 2 3
 refine ai<|SR<|aF aBY<|aa<|bX O (fun Hu=> ?_) (fun Hu=> ?_)
 .refine an<|aA<|SR<|va (v:=B false) rfl<|aa<|SR<|va (v:=I 0) rfl<|aa<|aA<|bt (G:=Int×Bool×(List El)×Value×(List bu)) (fun⟨i,ag1,v1,F3,Z2⟩ s' w'=>(Fr (rg 4 7 (rg 20 63 [])) _ s')/\(Hp w w' (_::Z2))/\(s' 4=F3)/\(s' 5=B ag1)/\(s' 6=I i)/\(0<=i)/\(i<=p.aO.length)/\(Pj p.s p.aO v1)/\(aeI p.s v1+(if ag1=true then 1 else 0)<=aeI p.s v)/\(ag1=false->∀j:Nat,j<i->(p.aO.getD j dN).op=8->0<=(p.aO.getD j dN).to.var->cS (eA (iw p.s (p.aO.getD j dN).bf) (p.aO.getD j dN).code v1).1 (v1.getD (p.aO.getD j dN).to.var.toNat df)=true)/\(oE (Kz K Z2) F3 8 v1.length (v1.flatMap pM))) (fun⟨i,ag1,v1,F3,Z2⟩=>(p.aO.length-i).toNat) ((0,false,v,vs,Z1)) ⟨Fr.refl _ _,gW,arE,rfl,rfl,J,J,hI,aJ,(fun h j hj=>J),hv⟩<| ?_
  rintro⟨i,ag1,v1,F3,Z2⟩ aop Lf ⟨r8,dQ,wB,JW,Bv,h0,hi,hI1,BA,hh,hv1⟩
  have JX:=r8.t1 1 Xe
  refine ai<|SR<|aF Bv<|V (fA kR 2 O qo JX)<|V (bZ ((hp.mono hK).aO.sl.hp dQ) kg O O (dQ.cell (i:=0) O O))<|V (aD ((hp.mono hK).aO.sl.hp dQ) O kg O)<|V (aN O O)<|aa<|aG O (fun Pt=> ?_) (fun Pt=> ?_)
  .refine an<|ai<|aA<|SR<|V (fA kR 2 O qo JX)<|V (bZ ((hp.mono hK).aO.sl.hp dQ) kg O O (dQ.cell (i:=0) O O))<|aF Bv<|V (ah ((hp.mono hK).aO.sl.hp dQ) kg H6 O O J)<|V (dY (dv:=dN) ni ((hp.mono hK).aO.sl.hp dQ) fw O O O J)<|lN dQ (aT Hj)<|fun b24 TD eP=>bg eP (i:=0) O (dK (c':=(u3 _).toArray) O O O (yW ((hp.mono hK).at J J)) (eP.blk (i:=0) O) O)<|fun w27 iJ=>aa<|ai<|SR<|V (fA fw 0 O aP O)<|lI bx iJ 0 O O rfl<|V (kL O O)<|mB rfl<|bM 35 O (fun Pr=> ?_) (fun Pr=> ?_)
   .refine aF (v:=B true) rfl<|aa<|cz rfl<|a8 (id:=3) rfl<|au<|aF Bv<|V (ax O O J)<|aI rfl<|aa<| ?_
    refine⟨(i+1,ag1,v1,F3,Z2),aX,r8.u4.u4.u4.u4.u4.u1.u1.u1,(iJ.sub (sQ sR)),wB,JW,(aK I aM),J,J,?_,?_,?_,?_⟩
    .exact hI1
    .exact BA
    ·(intro h j hj ho ht;by_cases e:j=i.toNat;(subst e;(exact absurd ho jK));exact hh h j J ho ht)
    exact hv1
   refine V (fA fw 3 O kV O)<|V (fA kQ 0 O aP O)<|lI bx iJ 0 O O rfl<|V (aN O O)<|mB rfl<|aa<|aG O (fun BZ=> ?_) (fun BZ=> ?_)
   .refine a8 (id:=3) rfl<|au<|aF Bv<|V (ax O O J)<|aI rfl<|aa<| ?_
    refine⟨(i+1,ag1,v1,F3,Z2),aX,r8.u4.u4.u4.u4.u4.u1.u1.u1,(iJ.sub (sQ sR)),wB,JW,(aK I aM),J,J,?_,?_,?_,?_⟩
    .exact hI1
    .exact BA
    ·(intro h j hj ho ht;by_cases e:j=i.toNat;(subst e;(exact absurd ht J));exact hh h j J ho ht)
    exact hv1
   refine an<|SR<|have ho8:(p.aO.getD i.toNat dN).op=8:=J;have hxm:=dy (d:=dN) h0 ‹i<_›;have hxa:=Vz _ hxm;have Ui:=(Ec hxa ho8).1;have hxc:=hcs _ hxm;have hl1:=hI1.len;have ht8:0<=(p.aO.getD i.toNat dN).to.var:=J;have hxt:=(Ts (v:=v1) hxa ho8 ht8).1;V (fA kR 0 O zX JX)<|V (fA gH 0 O ox O)<|V (bZ ((hp.mono hK).s.aq.sl.hp iJ) je O O (iJ.cell (i:=1) O O))<|V (fA fw 1 O aP O)<|lI bx iJ 0 O O rfl<|V (ah ((hp.mono hK).s.aq.sl.hp iJ) je x8 O O J)<|V (fA sI 1 O vE O)<|V (mj (dv:=mP) (off:=1) (cs:=yj _) oG ((hp.mono hK).s.aq.sl.hp iJ) dw O O O J (Ak _))<|lN iJ (aT Tryz.zeroValue56)<|fun b35 w33 kr=>bg kr (i:=0) O (DY ((hp.mono hK).s.at J J) O O O (kr.blk (i:=0) O) O)<|fun w38 jS=>aa<|SR<|V (cC (cs:=[B _,_]) dw O O O (bj (jS.blk (i:=0) O)))<|V (fA fw 2 O x9 O)<|V (bZ (((hp.mono hK).at J J).code.sl.hp jS) ic O O (jS.cell (i:=1) O O))<|aF wB<|aH O jS (n4 _ _ _ _ _ J _ (((hp.mono hK).at J J).code.sl.hp jS) (hv1.mono (jS.kz hK (fun x hx=>(mT (mT (mT hx)))))).sl (((hp.mono hK).s.at J J).mono jS.kw)) (bA call38 O O O)<|fun w40 jW=> ?_
   refine V (run_move bz) ?_
   refine V (bk O (v:= .agg _) O)<|V (bk O (v:=B _) O)<|lN jW (aT fg)<|fun b45 w43 pK=>bg pK (i:=0) O (cR O O O (pK.blk (i:=0) O))<|fun w48 F7=>aB rfl<|aa<|ai<|ew aQ F7<|fun w50 qy=>have um:=qy;AT 0 O um (fun w hS=>cN bI O O O (hS.blk (i:=0) O))<|AQ 1 O um (run_move wB)<|AQ 2 O um (fA fw 3 O kV O)<|AQ 3 O um (fA kQ 0 O aP O)<|tI 4 O um bx 2 O O rfl<|AT 5 O um (fun w hS=>ah (hv1.mono (hS.kz hK (fun x hx=>(mT (mT (mT (mT hx))))))).sl bU fl O O J)<|AT 6 O um (fun w hS=>gy (hv1.mono (hS.kz hK (fun x hx=>(mT (mT (mT (mT hx))))))).sl bI O O O J)<|A1 7<|cm O aC O qy sR (lD _ _ _) (aL call22 O O)<|fun w52 jA=>AQ 8 O jA (bJ O)<|AD<|bX O (fun Hx=> ?_) (fun Hx=> ?_)
   .refine SR<|have hrz:=hI1.raise hxm hxa ho8 ht8 LS;ud 0 0 jA (tj bU fl)<|fun b59 w57 oP=> ?_
    (try simp only[lC]at oP)
    have wH:=oP.sM 0 8 O az
    refine aF wB<|gh O wH (i:=0) O (hv1.mono (wH.kz hK (fun x hx=>(mT (mT (mT (mT (mT hx)))))))).sl O O bU O O (size:=8) (bytes:=64) O O O az (gV _) J iA<|fun v61 w62 o6=> ?_
    simp only[eR,gQ]at o6
    refine V (run_assign bz) ?_
    refine aa<|ai<|fZ (z:=⟨none,_,_,_,_,none⟩) aQ O aQ o6 sR<|fun w64 wZ=>have KF:=wZ;?_
    refine AQ 0 O KF (run_move bz) ?_
    refine AQ 1 O KF (fA fw 3 O kV O)<|AQ 2 O KF (fA kQ 0 O aP O)<|tI 3 O KF bx 3 O O rfl<|AT 4 O KF (fun w hS=>cC (cs:=[B _,_]) dw O O O (bj (hS.blk (i:=2) O)))<| ?_
    refine AQ 5 O KF (run_move bz) ?_
    refine AQ 6 O KF (fA fw 3 O kV O)<|AQ 7 O KF (fA kQ 0 O aP O)<|tI 8 O KF bx 3 O O rfl<|AT 9 O KF (fun w hS=>ah (hS.sl (i:=0) O) bU fl O O J)<|AT 10 O KF (fun w hS=>gy (hS.sl (i:=0) O) bI O O O J)<|AT 11 O KF (fun w hS=>cN bI O O O (hS.blk (i:=1) O))<|A1 12<|cm O aC O wZ sR (sC _ _ _ _ (((hp.mono hK).s.at J J).mono wZ.kw)) (bA call39 O O O)<|fun w66 T7=>AT 13 O T7 (fun w hS=>ah (hS.sl (i:=0) O) bU fl O O J)<|AD<|asn T7 (i:=0) O J O (new:=pM (eo (iw p.s (p.aO.getD i.toNat dN).bf) (v1.getD (p.aO.getD i.toNat dN).to.var.toNat df) (eA (iw p.s (p.aO.getD i.toNat dN).bf) (p.aO.getD i.toNat dN).code v1).1)) ((rfl:_=Value.agg (iM (eo (iw p.s (p.aO.getD i.toNat dN).bf) (v1.getD (p.aO.getD i.toNat dN).to.var.toNat df) (eA (iw p.s (p.aO.getD i.toNat dN).bf) (p.aO.getD i.toNat dN).code v1).1))).trans (by rw[iq])) (uZ _) (by rw[cY];rfl) (by rw[cY];omega)<|fun w68 KA=> ?_
    obtain⟨Gm,avs,avt,-⟩:=KA.SG (K)
    have vc:Hp _ w68 (_::_::_::_::(Gm++Z2)):=avs.Gh (L:=[_,_,_,_]) (L':=Z2)
    have aIR:oE (Kz K (Gm++Z2)) v61 8 (v1.set (p.aO.getD i.toNat dN).to.var.toNat (eo (iw p.s (p.aO.getD i.toNat dN).bf) (v1.getD (p.aO.getD i.toNat dN).to.var.toNat df) (eA (iw p.s (p.aO.getD i.toNat dN).bf) (p.aO.getD i.toNat dN).code v1).1)).length ((v1.set (p.aO.getD i.toNat dN).to.var.toNat (eo (iw p.s (p.aO.getD i.toNat dN).bf) (v1.getD (p.aO.getD i.toNat dN).to.var.toNat df) (eA (iw p.s (p.aO.getD i.toNat dN).bf) (p.aO.getD i.toNat dN).code v1).1)).flatMap pM):=(an1 avt J J).mono (Le.zz fun x hx=>dI _ hx)
    refine aa<|au<|va (v:=B true) rfl<|aa<|au<|aF Bv<|V (ax O O J)<|aI rfl<|aa<| ?_
    refine⟨(i+1,true,(v1.set (p.aO.getD i.toNat dN).to.var.toNat (eo (iw p.s (p.aO.getD i.toNat dN).bf) (v1.getD (p.aO.getD i.toNat dN).to.var.toNat df) (eA (iw p.s (p.aO.getD i.toNat dN).bf) (p.aO.getD i.toNat dN).code v1).1)),v61,(Gm++Z2)),aX,r8.u4.u4.u4.u4.u4.u4.u4.u4.u4.u4.u4.u4.u4.u4.u4.u4.u4.u1.u1,(vc.sub (sQ (sQ (sQ sR)))),rfl,rfl,(aK I aM),J,J,?_,?_,?_,?_⟩
    .exact hrz.1
    ·(have:=hrz.2;simp only[uB];split at BA<;>omega)
    .exact fun h=>by cases h
    exact aIR
   refine an<|au<|aF Bv<|V (ax O O J)<|aI rfl<|aa<| ?_
   refine⟨(i+1,ag1,v1,F3,Z2),aX,r8.u4.u4.u4.u4.u4.u4.u4.u4.u4.u4.u4.u4.u1.u1.u1,(jA.sub (sQ (sQ (sQ sR)))),wB,JW,(aK I aM),J,J,?_,?_,?_,?_⟩
   .exact hI1
   .exact BA
   ·(intro h j hj ho ht;by_cases e:j=i.toNat;(subst e;(exact nf ‹(!cS _ _)=false›));exact hh h j J ho ht)
   exact hv1
  refine a8 (id:=2) O ?_
  refine⟨(ag1,v1,F3,Z2),?_,(((xd.u1.u1.u1).t r8 O)).u4.u1,dQ,wB,JW,?_,?_,?_⟩
  ·((try dsimp only);rw[aY ‹ag=true›];omega)
  .exact hI1
  ·(intro h x hx ho ht;obtain⟨j,hj,rfl⟩:=vA.1 hx;have:=hh h j J;rw[getD_eq hj]at this;exact this ho ht)
  exact hv1
 refine a8 (id:=0) rfl<|ai<|SR<|va (v:=I 0) rfl<|aa<|aA<|have hle:nU (iI p.s) (QP p.s p.aO) (ze p.s v):=hI.done Vz (hd ‹ag=false›);bt (G:=Int) (fun q s' w'=>(Fr (2::3::(rg 11 4 (rg 83 43 []))) _ s')/\(Hp w w' _)/\(s' 11=I q)/\(0<=q)/\(q<=p.aO.length)/\(∀j:Nat,j<q->(p.aO.getD j dN).op=8->(p.aO.getD j dN).to.var<0->cS (eA (iw p.s (p.aO.getD j dN).bf) (p.aO.getD j dN).code v).1 (p.aO.getD j dN).to.c=true)) (fun q=>(p.aO.length-q).toNat) (0) ⟨Fr.refl _ _,gW,rfl,J,J,(fun j hj=>J)⟩<| ?_
 rintro q aRx w75 ⟨alv,ve,JF,q0,hq,htt⟩
 obtain⟨alw,ac0⟩:=alv.t2 1 Xe 4 arE
 refine ai<|SR<|aF JF<|V (fA kR 2 O qo alw)<|V (bZ ((hp.mono hK).aO.sl.hp ve) kg O O (ve.cell (i:=0) O O))<|V (aD ((hp.mono hK).aO.sl.hp ve) O kg O)<|V (aN O O)<|aa<|aG O (fun h77=> ?_) (fun h77=> ?_)
 .refine an<|ai<|aA<|SR<|V (fA kR 2 O qo alw)<|V (bZ ((hp.mono hK).aO.sl.hp ve) kg O O (ve.cell (i:=0) O O))<|aF JF<|V (ah ((hp.mono hK).aO.sl.hp ve) kg H6 O O J)<|V (dY (dv:=dN) ni ((hp.mono hK).aO.sl.hp ve) fw O O O J)<|lN ve (aT Hj)<|fun b80 w78 zD=>bg zD (i:=0) O (dK (c':=(u3 _).toArray) O O O (yW ((hp.mono hK).at J J)) (zD.blk (i:=0) O) O)<|fun w83 kx=>aa<|SR<|V (fA fw 0 O aP O)<|lI bx kx 0 O O rfl<|V (bW O O)<|mB rfl<|bM 98 O (fun Ub=> ?_) (fun Ub=> ?_)
  .refine V (fA fw 3 O kV O)<|V (fA kQ 0 O aP O)<|lI bx kx 0 O O rfl<|V (aN O O)<|mB rfl<|aa<|aG O (fun h88=> ?_) (fun h88=> ?_)
   .refine ai<|have ho8:(p.aO.getD q.toNat dN).op=8:=J;have hxm:=dy (d:=dN) q0 ‹q<_›;have hxa:=Vz _ hxm;have Ui:=(Ec hxa ho8).1;have hxc:=hcs _ hxm;have hl1:=hI.len;ew aQ kx<|fun w89 nZ=>have Dt:=nZ;AQ 0 O Dt (fA kR 0 O zX alw)<|AQ 1 O Dt (fA gH 0 O ox O)<|AT 2 O Dt (fun w hS=>bZ ((hp.mono hK).s.aq.sl.hp hS) je O O (hS.cell (i:=1) O O))<|AQ 3 O Dt (fA fw 1 O aP O)<|tI 4 O Dt bx 0 O O rfl<|AT 5 O Dt (fun w hS=>ah ((hp.mono hK).s.aq.sl.hp hS) je x8 O O J)<|AQ 6 O Dt (fA sI 1 O vE O)<|AT 7 O Dt (fun w hS=>mj (dv:=mP) (off:=1) (cs:=yj _) oG ((hp.mono hK).s.aq.sl.hp hS) dw O O O J (Ak _))<|AQ 8 O Dt (fA fw 2 O x9 O)<|AT 9 O Dt (fun w hS=>bZ (((hp.mono hK).at J J).code.sl.hp hS) ic O O (hS.cell (i:=0) O O))<|AQ 10 O Dt (run_move ac0)<|gj 11 15 aQ ?_ ?_
    .refine cm O aC O nZ sR (n4 _ _ _ _ _ J _ (((hp.mono hK).at J J).code.sl.hp nZ) (hv.mono (nZ.kz hK (fun x hx=>(mT (mT hx))))).sl (((hp.mono hK).s.at J J).mono nZ.kw)) (bA call38 O O O)<|fun w91 Jo=>have avw:=Jo;?_
     refine AQ 12 O avw (run_move bz) ?_
     refine AQ 13 O avw (bk O (v:= .agg _) O)<|AQ 14 O avw (bk O (v:=B _) O)<|A1 15<|cB O aC O Jo sR (f:=fun b=> .pointer (some ⟨b,0,none⟩)) (aT fg)<|fun b96 w94 Gf=>A1 16<|dW O aC Gf (j:=0) O (sQ sR) (cR O O O (Gf.blk (i:=0) O))<|fun ae4 qd=>AQ 17 O (qd.sub (sQ sR)) (aV (B _) O)<|AD<|SR<|V (cN bI O O O (qd.blk (i:=0) O))<|V (fA fw 3 O kV O)<|V (fA kQ 1 O fl O)<|V (nN bI O O O (qd.blk (i:=1) O) (abG _))<|aH O qd (lD _ _ _) (aL call22 O O)<|fun aBQ BB=>V (bJ O)<|aa<|bX O (fun aIT=> ?_) (fun aIT=> ?_)
     .refine SR<|aF ac0<| ?_
      refine V (run_assign bz) ?_
      refine va (v:=B false) rfl<|aa<|aj<|agd O O O ⟨Z1,(BB.sub (sQ (sQ (sQ sR)))),vs,v,false,rfl,hv,hI.len,hle,⟨(fun h=>mO),fun h=>absurd ((NS hle hI.len Vz).1 h _ (dy (d:=dN) q0 ‹q<_›) jK J) LS⟩⟩
     refine an<|au<|aF JF<|V (ax O O J)<|aI rfl<|aa<| ?_
     refine⟨q+1,aX,alv.u4.u4.u4.u4.u4.u4.u4.u4.u4.u4.u4.u1.u1,(BB.sub (sQ (sQ sR))),(aK I aM),J,J,?_⟩
     (intro j hj ho ht;by_cases e:j=q.toNat;(subst e;(exact nf ‹(!cS _ _)=false›));exact htt j J ho ht)
    refine cB O aC O nZ sR (f:=fun b=> .pointer (some ⟨b,0,none⟩)) (aT fg)<|fun ao7 aua xI=>A1 11<|cm O aC O xI (sQ sR) (n4 _ _ _ _ _ J _ (((hp.mono hK).at J J).code.sl.hp xI) (hv.mono (xI.kz hK (fun x hx=>(mT (mT (mT hx)))))).sl (((hp.mono hK).s.at J J).mono xI.kw)) (bA call38 O O O)<|fun aRy wP=>have alx:=wP.sub (sQ sR);?_
    refine AQ 12 O alx (run_move bz) ?_
    refine AQ 13 O alx (bk O (v:= .agg _) O)<|AQ 14 O alx (bk O (v:=B _) O)<|A1 16<|dW O aC wP (j:=0) O (sQ sR) (cR O O O (wP.blk (i:=0) O))<|fun aRz Rk=>AQ 17 O (Rk.sub (sQ sR)) (aV (B _) O)<|AD<|SR<|V (cN bI O O O (Rk.blk (i:=0) O))<|V (fA fw 3 O kV O)<|V (fA kQ 1 O fl O)<|V (nN bI O O O (Rk.blk (i:=1) O) (abG _))<|aH O Rk (lD _ _ _) (aL call22 O O)<|fun aB1 ac1=>V (bJ O)<|aa<|bX O (fun aIU=> ?_) (fun aIU=> ?_)
    .refine SR<|aF ac0<| ?_
     refine V (run_assign bz) ?_
     refine va (v:=B false) rfl<|aa<|aj<|agd O O O ⟨Z1,(ac1.sub (sQ (sQ (sQ sR)))),vs,v,false,rfl,hv,hI.len,hle,⟨(fun h=>mO),fun h=>absurd ((NS hle hI.len Vz).1 h _ (dy (d:=dN) q0 ‹q<_›) jK J) LS⟩⟩
    refine an<|au<|aF JF<|V (ax O O J)<|aI rfl<|aa<| ?_
    refine⟨q+1,aX,alv.u4.u4.u4.u4.u4.u4.u4.u4.u4.u4.u4.u1.u1,(ac1.sub (sQ (sQ sR))),(aK I aM),J,J,?_⟩
    (intro j hj ho ht;by_cases e:j=q.toNat;(subst e;(exact nf ‹(!cS _ _)=false›));exact htt j J ho ht)
   refine an<|au<|aF JF<|V (ax O O J)<|aI rfl<|aa<| ?_
   refine⟨q+1,aX,alv.u4.u4.u4.u4.u4.u1.u1.u1,(kx.sub (sQ sR)),(aK I aM),J,J,?_⟩
   (intro j hj ho ht;by_cases e:j=q.toNat;(subst e;(exact absurd ht J));exact htt j J ho ht)
  refine aF (v:=B false) rfl<|aa<|cT rfl<|an<|au<|aF JF<|V (ax O O J)<|aI rfl<|aa<| ?_
  refine⟨q+1,aX,alv.u4.u4.u4.u4.u4.u1.u1.u1,(kx.sub (sQ sR)),(aK I aM),J,J,?_⟩
  (intro j hj ho ht;by_cases e:j=q.toNat;(subst e;(exact absurd ho jK));exact htt j J ho ht)
 refine a8 (id:=4) rfl<|SR<|aF ac0<| ?_
 refine V (run_assign bz) ?_
 refine va (v:=B true) rfl<|aa<|aj<|agd O O O ⟨Z1,(ve.sub (sQ sR)),vs,v,true,rfl,hv,hI.len,hle,⟨fun _=>(NS hle hI.len Vz).2 fun x hx ho ht=>by obtain⟨j,hj,rfl⟩:=vA.1 hx;have:=htt j J;rw[getD_eq hj]at this;exact this ho ht,fun _=>rfl⟩⟩
section
variable{W0 w:World}{n:Nat}{s:NP}{lg:List (Value×mE)}{tm:List Int}{ids:List Nat}{f:Ct}{tl:List (Nat×Rl)}{b c:Nat}{A R Z:List bu}
theorem O2(hT:pc W0)(hW:zg s)(hb:b<=70)(hc:c<=1000)(hZ:kA fr W0 n s lg tm ids f tl b c Z)(hH:Hp W0 w (A++(Z++R))):Calls Tryz.prog 15 #[pt n] w (j3 fun u w'=>∃(ok:Bool) (s':NP) (new:List (Value×mE)) (f':Ct) (a j:Nat) (Z':List bu),u=B ok/\axX s s' ok/\iO new s s'/\p6 f f' a a (a+j)/\a<=muM s/\j<=s.ak.length/\kA fr W0 n s' (lg++new) (tmS s lg tm) ids f' tl (b+1) c Z'/\Hp W0 w' (A++(Z'++R))):=by
 obtain⟨Z2,hM,bq⟩:=hZ.auJ hH
 obtain⟨m,L0,Zf,⟨b1,b2,b3,b4⟩,hZf,hlv,zJ,hch,hN⟩:=hM
 have hmu:=hW.mu
 have hnv:=hW.nv
 refine(HG (JB s) (muB s) (muM s) J hW.ns.ok hW.wy J J b4 J (axW hW) w hT hlv hZf zJ hN bq).mono fun e w' hr=>j3.mono ?_ hr
 rintro u w' (⟨h1,rfl,Z3,Xx,uo⟩|⟨EC,us,ok,cc,Un,a,s',new,L1,Z3,Zf',f',yp,rfl,hR,hJ,ha,hs',hnc,hnl,hbk,hL,avx,hk,Xx,uo⟩)
 .obtain⟨Zo,ho,hh⟩:=kA.out (A:=A) (R:=R) (fr:=fr) (b:=b+1) (c:=c) ⟨m,L0,Zf,⟨J,J,J,b4.mono J⟩,hZf,hlv,zJ,hch,Xx⟩ uo
  refine⟨false,s,[],f,0,0,Zo,rfl,⟨fun _=>⟨rfl,rfl⟩,fun q=>(by rw[h1]at q;cases q)⟩,iO.nil s,p6.refl f,J,J,?_,hh⟩
  rw[mG,axZ h1];exact ho
 have Vz:=ajF hW yp hR ha
 have hS:=ato hW EC yp hR (by unfold JN;rw[acm];exact hJ)
 have hj:(s5 s.cs us s.aq s.bf s.qs s.sn s.ak.length ⟨s.ak,s.bp,[],List.replicate s.qs.length false⟩).j<=s.ak.length:=(Tr hW.ns yp).2.2.2
 rw[<-hs']at hS
 have hlt:s'.aq=s.aq:=hS.aq
 obtain⟨Zo,ho,hh⟩:=kA.out (A:=A) (R:=R) (fr:=fr) (b:=b+1) (c:=c) ⟨m+s.ak.length,L1,Zf',⟨J,by simp only[ed];omega,by simp only[ed,ey];omega,(hk.ok b4).mono J⟩,avx,by rw[hlt];exact hlv.mono (Le.zb hL),by rw[hS.qs];exact zJ.mono (Le.zb hL),fun x hx=>by rcases fh.1 hx with q|q;exact(hch x q).EP hL;exact hnc x q,Xx⟩ uo
 rw[<-ax0 (lg:=lg) (tm:=tm) EC]at ho
 exact⟨ok,s',new,f',a,_,Zo,rfl,⟨fun q=>(by rw[EC]at q;cases q),fun _=>hS⟩,hbk,hk,Vz,hj,ho,hh⟩
end
section
variable{W0 w:World}{n:Nat}{s:NP}{lg:List (Value×mE)}{tm:List Int}{ids:List Nat}{f:Ct}{tl:List (Nat×Rl)}{b c:Nat}{A R Z:List bu}
theorem alz(l:Int)(hok:Em s)(hb:b<=70)(hc:c<=1000)(hZ:kA fr W0 n s lg tm ids f tl b c Z)(hH:Hp W0 w (A++(Z++R))):Calls Tryz.prog 18 #[pt n,I l] w (j3 fun u w'=>(¬(s.sk=false/\0<=l/\l<s.aq.length)/\u=I (-1)/\∃Z',kA fr W0 n s lg tm ids f tl b c Z'/\Hp W0 w' (A++(Z'++R)))\/(s.sk=false/\(0<=l/\l<s.aq.length)/\u=I s.ak.length/\∃(fv:Value) (Z':List bu),iO [(fv,mE.var s.ak.length ((s.cs.length:Int)-1))] s (qZ s l (s.aq.getD l.toNat p5).low)/\kA fr W0 n (qZ s l (s.aq.getD l.toNat p5).low) (lg++[(fv,mE.var s.ak.length ((s.cs.length:Int)-1))]) (tm++[(lg.length:Int)]) ids f tl b (c+1) Z'/\Hp W0 w' (A++(Z'++R)))):=by
 obtain⟨Z2,hM,bq⟩:=hZ.auJ hH
 obtain⟨m,L0,Zf,⟨b1,b2,b3,b4⟩,hZf,hlv,zJ,hch,hN⟩:=hM
 refine(O0 l J hok J J w hN bq).mono fun e w' hr=>j3.mono ?_ hr
 rintro u w' (⟨h1,rfl,Z3,Xx,uo⟩|⟨h1,h2,rfl,fv,L1,Z3,hL,hC,hbk,Xx,uo⟩)
 .refine .inl ⟨h1,rfl,?_⟩
  obtain⟨Zo,ho,hh⟩:=kA.out (A:=A) (R:=R) (fr:=fr) ⟨m,L0,Zf,⟨b1,b2,b3,b4⟩,hZf,hlv,zJ,hch,Xx⟩ uo
  exact⟨Zo,ho,hh⟩
 obtain⟨Zo,ho,hh⟩:=kA.out (A:=A) (R:=R) (fr:=fr) (s:=qZ s l (s.aq.getD l.toNat p5).low) (lg:=lg++[(fv,mE.var s.ak.length ((s.cs.length:Int)-1))]) (tm:=tm++[(lg.length:Int)]) (b:=b) (c:=c+1) ⟨m+1,L1,Zf,⟨J,by simp only[ed,ey];omega,by simp only[ed,ey];omega,b4⟩,hZf,hlv.mono (Le.zb hL),zJ.mono (Le.zb hL),fun x hx=>by rcases fh.1 hx with q|q;exact(hch x q).EP hL;rw[gG.1 q];exact hC,Xx⟩ uo
 exact .inr ⟨h1,h2,rfl,fv,Zo,hbk,ho,hh⟩
end
section
variable{W0 w:World}{n:Nat}{s:NP}{lg:List (Value×mE)}{tm:List Int}{ids:List Nat}{f:Ct}{tl:List (Nat×Rl)}{b c:Nat}{A R Z:List bu}
theorem ac2(k:Int)(v:Value)(l:List dX)(t:iS)(y:BitVec 64)(hok:Em s)(hll:l.length<=1000)(hb:b<=70)(hc:c<=1000)(hT:pc W0){X:List bu}(hcv:oE (Kz (Kw W0) X) v 10 l.length (l.flatMap kq))(hZ:kA fr W0 n s lg tm ids f tl b c Z)(hH:Hp W0 w (A++(Z++X))):Calls Tryz.prog 25 #[pt n,I k,v,.agg (jH t).toArray,U y] w (j3 fun u w'=>∃(ok:Bool) (s':NP) (new:List (Value×mE)) (Uo:List Int) (Z':List bu),u=B ok/\Tt s s' k l t y ok/\iO new s s'/\TmA ok lg tm Uo/\kA fr W0 n s' (lg++new) Uo ids f tl b (c+1) Z'/\Hp W0 w' (A++(Z'++[]))):=by
 obtain⟨m,L0,Zf,Z2,⟨b1,b2,b3,b4⟩,hZf,hlv,zJ,hch,hN,bq,hXL⟩:=hZ.azX hH
 refine(O1 k v l t y hok hll J J w hT (fun x hx=>(hlv x hx).zH) (hcv.mono (Le.zb hXL)) hN bq).mono fun e w' hr=>j3.mono ?_ hr
 rintro u w' (⟨h1,rfl,Z3,Xx,uo⟩|⟨h1,h2,rfl,fv,cv,vv,L1,Z3,hL,hq,hC,hbk,Xx,uo⟩)
 .obtain⟨Zo,ho,hh⟩:=kA.out (A:=A) (R:=[]) (fr:=fr) (b:=b) (c:=c+1) ⟨m,L0,Zf,⟨J,J,J,b4⟩,hZf,hlv,zJ,hch,Xx⟩ uo
  refine⟨false,s,[],tm,Zo,rfl,Tt.no h1,iO.nil s,rfl,?_,hh⟩
  rw[mG];exact ho
 obtain⟨Zo,ho,hh⟩:=kA.out (A:=A) (R:=[]) (fr:=fr) (s:=BL s (⟨k,cv,l,t,y,vv,dB l⟩:dD)) (lg:=lg++[(fv,mE.add s.qs.length (⟨k,cv,l,t,y,vv,dB l⟩:dD))]) (tm:=tm++[(lg.length:Int)]) (b:=b) (c:=c+1) ⟨m,L1,Zf,⟨J,by simp only[ed,ey];omega,by simp only[ed,ey];omega,b4⟩,hZf,hlv.mono (Le.zb hL),fun x hx=>by rcases fh.1 hx with q|q;exact(zJ.mono (Le.zb hL)) x q;rw[gG.1 q];exact hq,fun x hx=>by rcases fh.1 hx with q|q;exact(hch x q).EP hL;rw[gG.1 q];exact hC,Xx⟩ uo
 exact⟨true,_,_,_,Zo,rfl,Tt.yes h1 h2,hbk,rfl,ho,hh⟩
end
section
variable{W0 w:World}{n:Nat}{s:NP}{lg:List (Value×mE)}{tm:List Int}{ids:List Nat}{f:Ct}{tl:List (Nat×Rl)}{b c:Nat}{A R Z:List bu}
theorem arG(p:kW)(hfn:p.a6.length<=1000)(hnn:∀f∈p.a6,f.names.length<=1000)(hll:s.aq.length<=1000)(hwr:WrF s.wr ids)(hb:b<=70)(hc:c<=1000)(hT:pc W0){X:List bu}(hsh:lm (Kz (Kw W0) X) p)(hZ:kA fr W0 n s lg tm ids f tl b c Z)(hH:Hp W0 w (A++(Z++X))):Calls Tryz.prog 19 #[pt n,.agg (qW p)] w (j3 fun u w'=>((s.sk=true\/mJ p.sh=false)/\u=I (-1)/\∃Z',kA fr W0 n s lg tm ids f tl b c Z'/\Hp W0 w' (A++(Z'++[])))\/(s.sk=false/\∃(x:pY) (fv:Value) (QU:List (Nat×Rl)) (Z':List bu),mJ p.sh=true/\u=I s.aq.length/\x.p.sh=p.sh/\x.low=gI p.sh ez/\WrD s.wr x.d/\iO [(fv,mE.bf s.aq.length)] s {s with aq:=s.aq++[x]}/\kA fr W0 n {s with aq:=s.aq++[x]} (lg++[(fv,mE.bf s.aq.length)]) (tm++[(lg.length:Int)]) ids f (tl++QU) b (c+1) Z'/\Hp W0 w' (A++(Z'++[])))):=by
 obtain⟨m,L0,Zf,Z2,⟨b1,b2,b3,b4⟩,hZf,hlv,zJ,hch,hN,bq,hXL⟩:=hZ.azX hH
 refine(OY p hfn hnn hll J J hwr w hT (hsh.mono (Le.zb hXL)) hZf hN bq).mono fun e w' hr=>j3.mono ?_ hr
 rintro u w' (⟨h1,rfl,Z3,Xx,uo⟩|⟨h1,x,fv,QU,L1,Z3,Zf',h2,rfl,h3,h4,h5,hL,hx,hC,avx,hbk,Xx,uo⟩)
 .refine .inl ⟨h1,rfl,?_⟩
  obtain⟨Zo,ho,hh⟩:=kA.out (A:=A) (R:=[]) (fr:=fr) ⟨m,L0,Zf,⟨b1,b2,b3,b4⟩,hZf,hlv,zJ,hch,Xx⟩ uo
  exact⟨Zo,ho,hh⟩
 obtain⟨Zo,ho,hh⟩:=kA.out (A:=A) (R:=[]) (fr:=fr) (s:={s with aq:=s.aq++[x]}) (lg:=lg++[(fv,mE.bf s.aq.length)]) (tm:=tm++[(lg.length:Int)]) (tl:=tl++QU) (b:=b) (c:=c+1) ⟨m,L1,Zf',⟨J,by simp only[ed,ey];omega,by simp only[ed,ey];omega,b4⟩,avx,Wf.snoc (fun y hy=>((hlv y hy).mono (Le.zb hL)).more) hx,zJ.mono (Le.zb hL),fun x hx=>by rcases fh.1 hx with q|q;exact(hch x q).EP hL;rw[gG.1 q];exact hC,Xx⟩ uo
 exact .inr ⟨h1,x,fv,QU,Zo,h2,rfl,h3,h4,h5,hbk,ho,hh⟩
end
section
variable{W0 w:World}{n:Nat}{s:NP}{lg:List (Value×mE)}{tm:List Int}{ids:List Nat}{f:Ct}{tl:List (Nat×Rl)}{b c:Nat}{A R Z:List bu}
theorem ac3(v:Int)(hZ:kA fr W0 n s lg tm ids f tl b c Z){L:List bu}(hH:Hp W0 w L)(hs:∀x,x∈Z->x∈L):Calls Tryz.prog 23 #[pt n,I v] w (Pure (.agg (iM (if 0<=v/\v<s.ak.length then s.ak.getD v.toNat df else df))) w):=by
 obtain⟨m,L0,Zf,_,_,_,_,_,F,L1,hI,hL,rfl⟩:=hZ
 exact JC v w (hH.aik (hs _ (rj ..))) (Sl.Ss (hH.ok (wu pM 8 F.vv 37 s.ak) (hs _ aJ)))
end
section
variable{W0 w:World}{n:Nat}{s:NP}{lg:List (Value×mE)}{tm:List Int}{ids:List Nat}{f:Ct}{tl:List (Nat×Rl)}{b c:Nat}{A R Z:List bu}
theorem arH(v:Int)(hZ:kA fr W0 n s lg tm ids f tl b c Z){L:List bu}(hH:Hp W0 w L)(hs:∀x,x∈Z->x∈L):Calls Tryz.prog 21 #[pt n,I v] w (Pure (U (if 0<=v/\v<s.bp.length then s.bp.getD v.toNat 0 else 0)) w):=by
 obtain⟨m,L0,Zf,_,_,_,_,_,F,L1,hI,hL,rfl⟩:=hZ
 exact OW v w (hH.aik (hs _ (rj ..))) ((show Sl w F.vy 1 s.bp.length (s.bp.map U)from Sl.Ss (hH.ok (jY U F.vy 35 s.bp) (hs _ aJ))))
end
section
variable{W0 w:World}{n:Nat}{s:NP}{lg:List (Value×mE)}{tm:List Int}{ids:List Nat}{f:Ct}{tl:List (Nat×Rl)}{b c:Nat}{A R Z:List bu}
theorem ac4(hZ:kA fr W0 n s lg tm ids f tl b c Z){L:List bu}(hH:Hp W0 w L)(hs:∀x,x∈Z->x∈L):Calls Tryz.prog 16 #[pt n] w (Pure (.tuple #[U s.wy,B s.sk]) w):=by
 obtain⟨m,L0,Zf,_,_,_,_,_,F,L1,hI,hL,rfl⟩:=hZ
 exact JA w (hH.aik (hs _ (rj ..)))
end
theorem Bc{ids:List Nat}{f:Ct}{Zf:List bu}(p:lQ)(x:Value)(hrs:iZ p=true)(hwr:WrF x ids)(hf:FO 0 f)(w:World)(hT:pc W0)(hs:Ef (Kw W0) p)(hZ:kY (BN fr) ids f [] Zf)(hH:Hp W0 w Zf):Calls Tryz.prog 12 #[.agg (MW p),x] w (j3 fun u w'=>∃(n:Nat) (s:NP) (lg:List (Value×mE)) (tm:List Int) (tl:List (Nat×Rl)) (Z:List bu) (c:Nat),u= .tuple #[pt n,B true]/\tZ p s/\zg s/\s.qs=[]/\s.sk=false/\s.wr=x/\(∀y∈s.aq,WrD x y.d)/\c<=100/\kA fr W0 n s lg tm ids f tl 0 c Z/\Hp W0 w' Z):=by
 obtain⟨⟨hs1,hs2⟩,hsl,hsv⟩:=zf hrs
 have hsm:=ajG hrs
 refine en func12 rfl rfl<|SR<|gO hH (v:= .agg _) rfl<|fun b3 w1 bq=>va (v:= .pointer none) rfl<|va (v:=B false) rfl<|aa<|SR<|V (run_move (show _=x from O))<|cG O (OX _ hwr.cells _) (ay call36 O)<| ?_
 rintro _ BR ⟨n6,Zn7,rfl,h10,hn9⟩
 obtain⟨Z8,aIW,cM⟩:=kA.new (A:=[_]) (fr:=fr) hn9 hZ hf (Hp.GH bq h10)
 simp only[gB,eR]at cM
 refine va (v:=Pn _ _) rfl<|aa<|ai<|SR<|V (fA gH 0 O ox O)<|V (bZ (hs.aq.sl.hp cM) je O O (cM.cell (i:=0) O O))<|V (aD (hs.aq.sl.hp cM) O je O)<|aF (v:=I 0) rfl<|aa<|aA<|bt (G:=Int×(List pY)×(List bu)) (fun⟨k,ls,Z1⟩ s' w'=>(Fr (4::5::(7::8::(rg 16 13 []))) _ s')/\(Hp W0 w' (_::Z1))/\(s' 16=I k)/\(0<=k)/\(k<=p.aq.length)/\(NU p k.toNat ls)/\(∀y∈ls,WrD x y.d)/\(∃lg tm tl HL,Z1=HL++[]/\kA fr W0 n6 (npL ls x) lg tm ids f tl 0 k.toNat HL)) (fun⟨k,ls,Z1⟩=>(p.aq.length-k).toNat) ((0,[],(Z8++[]))) ⟨Fr.refl _ _,cM,rfl,J,J,⟨aJ,fun x hx=>by cases hx⟩,(fun y hy=>by cases hy),⟨_,_,_,_,rfl,aIW⟩⟩<| ?_
 rintro⟨k,ls,Z1⟩ aaf Q1 ⟨mW,cD,Uf,h0,hk,hB,hwd,hS⟩
 obtain⟨Bt,mM,avy,avz⟩:=mW.w4 2 6 14 15
 obtain⟨lg1,Lh,QU,HL,rfl,Lj⟩:=hS
 have hln:=hB.len J
 refine SR<|V (aN Uf avz)<|aa<|ai<|aG O (fun yt=> ?_) (fun yt=> ?_)
 .refine an<|ai<|aA<|SR<|aF Uf<|V (ah (hs.aq.sl.hp cD) je x8 avy Uf J)<|V (dY (dv:=mP) oG (hs.aq.sl.hp cD) sI O O O J)<|lN cD (aT WA)<|fun b19 TC dQ=>aI rfl<|bg dQ (i:=0) O (dK (c':=(MV _).toArray) O O O (Vl (hs.at J J)) (dQ.blk (i:=0) O) O)<|fun TD eP=>aa<|SR<|have hlm:=dy (d:=mP) h0 ‹k<_›;aF mM<|V (fA sI 1 O vE O)<|V (iN (sub:=yj _) dw O O O (eP.blk (i:=0) O) O)<|cG O (arG (p.aq.getD k.toNat mP).zH (hsm _ hlm).1 (hsm _ hlm).2 (by show ls.length<=1000;omega) hwr J J hT ((hs.at h0 ‹k<_›).mono (Le.z _ _)) (A:=[_,_]) (X:=[]) Lj eP) (aL call19 O O)<| ?_
  rintro _ w37 (⟨hno,-⟩|⟨-,x26,aRD,aRE,Z29,aIX,rfl,aIY,aIZ,aI0,aRF,aI1,h36⟩)
  .exact absurd hno (by rintro(q|q);cases q;rw[hsl _ hlm]at q;cases q)
  have uG:Hp _ w37 (_::_::(Z29++[])):=h36
  refine mI rfl<|V (kL O O)<|aa<|cT (bF ((fun h=>h (by show(ls.length:Int)=k;omega))))<|an<|au<|V (ax Uf O J)<|mI rfl<|aa<| ?_
  refine⟨(k+1,ls++[x26],(Z29++[])),aX,mW.u4.u4.u4.u1.u1,(uG.sub (sQ sR)),(aK I aM),J,J,?_,?_,?_⟩
  .exact hB.next h0 ‹k<_› aIX aIY aIZ
  ·(intro y hy;rcases fh.1 hy with q|q;exact hwd y q;rw[gG.1 q];exact aI0)
  (rw[show(k+1).toNat=k.toNat+1 by omega];exact⟨_,_,_,_,rfl,aI1⟩)
 refine a8 (id:=0) rfl<|ai<|SR<|V (fA gH 1 O uz Bt)<|V (bZ (hs.vars.sl.hp cD) l6 O O (cD.cell (i:=0) O O))<|V (aD (hs.vars.sl.hp cD) O l6 O)<|aF (v:=I 0) rfl<|aa<|aA<|have hkl:k.toNat=p.aq.length:=J;?_
 rw[hkl]at Lj
 refine bt (G:=Int×NP×(List bu)) (fun⟨j,s,Z2⟩ s' w'=>(Fr (4::5::(9::10::(rg 32 13 []))) _ s')/\(Hp W0 w' (_::Z2))/\(s' 32=I j)/\(0<=j)/\(j<=p.vars.length)/\(Kn p x j.toNat s)/\(∀y∈s.aq,WrD x y.d)/\(∃lg tm tl XI,Z2=XI++[]/\kA fr W0 n6 s lg tm ids f tl 0 (p.aq.length+j.toNat) XI)) (fun⟨j,s,Z2⟩=>(p.vars.length-j).toNat) ((0,npL ls x,(HL++[]))) ⟨Fr.refl _ _,cD,rfl,J,J,hB.fin h0 ‹¬k<_›,hwd,⟨_,_,_,_,rfl,Lj⟩⟩ ?_
 rintro⟨j,s,Z2⟩ aRG w40 ⟨avA,lO,Ug,j0,hj,hI,aB2,hS2⟩
 obtain⟨avB,avC⟩:=avA.w2 30 31
 have arI:=avA.t1 6 mM
 obtain⟨lg2,tm2,tl2,XI,rfl,hZ2⟩:=hS2
 have QM:=hI.nv
 have aI2:=hI.len
 refine SR<|V (aN Ug avC)<|aa<|ai<|aG O (fun h42=> ?_) (fun h42=> ?_)
 .refine an<|ai<|aA<|SR<|aF Ug<|V (ah (hs.vars.sl.hp lO) l6 Fm avB Ug J)<|V (dY (dv:=fq) tN (hs.vars.sl.hp lO) o8 O O O J)<|lN lO (aT Tryz.zeroValue63)<|fun b45 w43 pK=>aI rfl<|bg pK (i:=0) O (dK (c':=(O8 _).toArray) O O O LX (pK.blk (i:=0) O) O)<|fun w48 F7=>aa<|SR<|have hvl:=(hsv _ (dy (d:=fq) j0 ‹j<_›)).2;?_
  rw[<-aI2]at hvl
  refine aF arI<|V (fA o8 2 O aP O)<|lI bx F7 0 O O rfl<|cG O (alz (p.vars.getD j.toNat fq).bf hI.nw.ns.ok J J (A:=[_,_]) (R:=[]) hZ2 F7) (aL call18 O O)<| ?_
  rintro _ w57 (⟨hno,-⟩|⟨-,-,rfl,aRH,Z53,aRI,aI3,Hx⟩)
  .exact absurd ⟨hI.sk,hvl.1,hvl.2⟩ hno
  have oP:Hp _ w57 (_::_::(Z53++[])):=Hx
  refine mI rfl<|V (kL O O)<|aa<|cT (bF ((fun h=>h J)))<|an<|au<|V (ax Ug O J)<|mI rfl<|aa<| ?_
  refine⟨(j+1,qZ s (p.vars.getD j.toNat fq).bf (s.aq.getD (p.vars.getD j.toNat fq).bf.toNat p5).low,(Z53++[])),aX,avA.u4.u4.u4.u1.u1,(oP.sub (sQ sR)),(aK I aM),J,J,?_,?_,?_⟩
  .exact hI.next j0 ‹j<_› hs2 hvl
  .exact aB2
  (rw[show(j+1).toNat=j.toNat+1 by omega,<-xW];exact⟨_,_,_,_,rfl,aI3⟩)
 refine a8 (id:=2) rfl<|SR<|aF arI<|va (v:=Pn _ _) rfl<|va (v:=B true) rfl<|aa<|aj<|agd O O O ⟨n6,s,_,_,_,_,p.aq.length+j.toNat,rfl,hI.fin j0 hj ‹¬j<_›,hI.nw,hI.qs,hI.sk,hI.wr,aB2,J,hZ2,by simpa using(lO.sub (sQ sR))⟩
theorem DG{s:NP}{ids:List Nat}{f:Ct}{tl:List (Nat×Rl)}{b c:Nat}{Z:List bu}(x:gL)(i:Int)(hok:Em s)(oF:x.code.length<=1000)(hi:0<=i/\i<=1000)(hb:b<=70)(hc:c<=1000)(w:World)(hT:pc W0)(hx:Ke (Kw W0) x)(hZ:kA fr W0 n s lg tm ids f tl b c Z)(hH:Hp W0 w Z):Calls Tryz.prog 13 #[pt n,.agg (u3 x).toArray,I i] w (j3 fun u w'=>∃(ok:Bool) (s':NP) (new:List (Value×mE)) (Uo:List Int) (Z':List bu),u=B ok/\Tu s s' x i.toNat ok/\iO new s s'/\TmX x.op ok lg tm Uo/\kA fr W0 n s' (lg++new) Uo ids f tl b (c+1) Z'/\Hp W0 w' Z'):=by
 refine en func13 rfl rfl<|have hH:=(show Hp W0 w (Z++[])by simpa using hH);SR<|gO hH (v:= .agg _) rfl<|fun b3 w1 bq=>va (v:=B false) rfl<|aa<|SR<|V (fA fw 0 O aP O)<|lI bx bq 0 O O rfl<|V (kL O O)<|mB rfl<|bM 10 O (fun h5=> ?_) (fun h5=> ?_)
 .refine aF (v:=B true) rfl<|aB rfl<|aa<|aj<|jx (v:=B true) O O ⟨true,s,[],tm,Z,rfl,⟨fun _=>⟨rfl,rfl⟩,fun q=>absurd q jK⟩,iO.nil s,TmX.no jK,by rw[mG];exact kA.more hZ (eu _) (Nat.le_succ _),(by simpa using(bq.sub (sQ sR)))⟩
 refine aF (v:=Pn _ _) rfl<|V (fA fw 1 O aP O)<|lI bx bq 0 O O rfl<|V (fA fw 2 O x9 O)<|V (bZ (hx.code.sl.hp bq) ic O O (bq.cell (i:=0) O O))<|V (fA fw 3 O kV O)<|V (iN (sub:=jH _) kQ O O O (bq.blk (i:=0) O) (abF _))<|mI rfl<|V (jL bx zS O)<|V (Gs (a:=1#64) O O)<|cG O (ac2 x.bf x.cv x.code x.to _ hok oF hb hc hT (A:=[_]) (X:=[]) (hx.code.mono (Le.z _ _)) hZ bq) (sL call25 O O O O O)<| ?_
 rintro _ Lf ⟨ok8,s9,aI4,aI5,Z12,rfl,aB4,aI6,auu,aI7,Hu⟩
 have iC:Hp _ Lf (_::(Z12++[])):=Hu
 refine mB rfl<|aB rfl<|aa<|aj<|jx (v:=B ok8) O O ⟨ok8,s9,aI4,aI5,Z12,rfl,⟨fun q=>absurd J q,fun _=>by rw[aE2 hi]at aB4;exact aB4⟩,aI6,TmX.yes J auu,aI7,(by simpa using(iC.sub (sQ sR)))⟩
theorem ke(w:World)(hT:pc w):Calls Tryz.prog 11 #[] w (Pure (B true) w):=by
 have hwr:WrF .nilFunc []:= .inl O
 have hZ:=kY.nil (T:=BN [])
 have hf:=FO.zero
 obtain⟨-,Vz⟩:=FZ (aE3 N_ N_ N_ N_ N_ N_ N_ N_)
 have oF:=aE4 N_ N_ N_
 refine eH func11 rfl rfl fun hH=>SR<|va (v:=B false) rfl<|aa<|SR<|cG O (OX _ hwr.cells _) (ay call36 (show _=Value.nilFunc from O))<| ?_
 rintro _ Eo ⟨n3,Zn4,rfl,h7,hn6⟩
 obtain⟨Z5,hZ8,iD⟩:=kA.new (A:=[]) (fr:=[]) hn6 hZ hf (by simpa using Hp.GH hH h7)
 simp only[gB,eR]at iD
 refine va (v:=Pn _ _) rfl<|aa<|SR<|aF (v:=Pn _ _) rfl<|ud 2 2 iD (cA dZ O O (sz:=1) (vs:=[.string ⟨#[108,111]⟩,.string ⟨#[104,105]⟩]) O O az az O O)<|fun Of Je cM=>have cD:Hp _ Je (([bu.blk Of (.cells (JL wV).toArray 9 (0,0))]++(Z5++[]))):=Hp.Gh (Z:=[bu.blk Of (.cells (JL wV).toArray 9 (0,0))]) (L:=[]) (L':=(Z5++[])) cM;have aI8:oE (Kz (Kw w) [bu.blk Of (.cells (JL wV).toArray 9 (0,0))]) (.slice (some ⟨Of,0,none⟩) 2 2) 1 2 (JL wV):=GI (rj ..) O fT;have cH:=Hp.mQ (A:=[]) (B:=[bu.blk Of (.cells (JL wV).toArray 9 (0,0))]) (R:=Z5) cD;V (dL (vs:=[(0,I 1),(1,.slice (some ⟨Of,0,none⟩) 2 2)]) O (aeN 1 Of 2 wV))<|ud 1 1 cH (Aj di O O O (l:=[_]) O az az O)<|fun b19 TC dQ=>have cP:Hp _ TC (([bu.blk b19 (.cells ([(⟨1,.slice (some ⟨Of,0,none⟩) 2 2,wV,Rl.none⟩:qI)].flatMap sS).toArray 88 (0,0))]++(Z5++([bu.blk Of (.cells (JL wV).toArray 9 (0,0))]++[])))):=Hp.Gh (Z:=[bu.blk b19 (.cells ([(⟨1,.slice (some ⟨Of,0,none⟩) 2 2,wV,Rl.none⟩:qI)].flatMap sS).toArray 88 (0,0))]) (L:=[]) (L':=(Z5++([bu.blk Of (.cells (JL wV).toArray 9 (0,0))]++[]))) dQ;have aI9:oE (Kz (Kw w) [bu.blk b19 (.cells ([(⟨1,.slice (some ⟨Of,0,none⟩) 2 2,wV,Rl.none⟩:qI)].flatMap sS).toArray 88 (0,0))]) (.slice (some ⟨b19,0,none⟩) 1 1) 67 1 ([(⟨1,.slice (some ⟨Of,0,none⟩) 2 2,wV,Rl.none⟩:qI)].flatMap sS):=GI (rj ..) (fO fC _) fT;have cK:=Hp.mQ (A:=[]) (B:=[bu.blk b19 (.cells ([(⟨1,.slice (some ⟨Of,0,none⟩) 2 2,wV,Rl.none⟩:qI)].flatMap sS).toArray 88 (0,0))]) (R:=Z5) cP;V (dL (vs:=[(1,.slice (some ⟨b19,0,none⟩) 1 1)]) O (aaa O))<|have hsh:lm (Kz (Kw w) ([bu.blk b19 (.cells ([(⟨1,.slice (some ⟨Of,0,none⟩) 2 2,wV,Rl.none⟩:qI)].flatMap sS).toArray 88 (0,0))]++([bu.blk Of (.cells (JL wV).toArray 9 (0,0))]++[]))) (⟨false,.slice (some ⟨b19,0,none⟩) 1 1,[(⟨1,.slice (some ⟨Of,0,none⟩) 2 2,wV,Rl.none⟩:qI)]⟩:kW):=⟨(aI9.mono (Le.zz (fun x hx=>(dI _ hx)))),fun x hx=>by rw[gG.1 hx];exact⟨(aI8.mono (Le.zz (fun x hx=>(bH _ (dI _ hx)))))⟩⟩;cG O (arG (⟨false,.slice (some ⟨b19,0,none⟩) 1 1,[(⟨1,.slice (some ⟨Of,0,none⟩) 2 2,wV,Rl.none⟩:qI)]⟩:kW) (show 1<=1000 by decide) (fun f hf=>by rw[gG.1 hf];exact(by decide:wV.length<=1000)) az hwr J J hT hsh (A:=[]) (X:=([bu.blk b19 (.cells ([(⟨1,.slice (some ⟨Of,0,none⟩) 2 2,wV,Rl.none⟩:qI)].flatMap sS).toArray 88 (0,0))]++([bu.blk Of (.cells (JL wV).toArray 9 (0,0))]++[]))) hZ8 cK) (aL call19 O O)<| ?_
 rintro _ w36 (⟨hno,-⟩|⟨-,x25,aRM,aRN,Z28,aJa,rfl,aJb,aJc,auM,aRP,akX,BT⟩)
 .exact absurd hno (by rintro(q|q);cases q;exact absurd (q.symm.trans aE5) az)
 have uF:Hp _ w36 ((Z28++[])):=BT
 refine V (run_assign (show _=I 0 from O))<|aa<|SR<|have hB1:NU (rQ N_ N_ N_ N_) 1 [x25]:=NU.next (p:=(rQ N_ N_ N_ N_)) (k:=0) (ls:=[]) ⟨rfl,fun x hx=>by cases hx⟩ J az aJa aJb aJc;have hI0:=NU.fin (p:=(rQ N_ N_ N_ N_)) (k:=1) (x:= .nilFunc) hB1 J az;aF (v:=Pn _ _) rfl<|mI rfl<|cG O (alz 0 hI0.nw.ns.ok J J (A:=[]) (R:=[]) akX uF) (aL call18 O O)<| ?_
 rintro _ w45 (⟨hno,-⟩|⟨-,-,rfl,aRR,Z41,aRT,aJd,h44⟩)
 .exact absurd ⟨hI0.sk,az,(show(0:Int)<((1:Nat):Int)by decide)⟩ hno
 have oq:Hp _ w45 ((Z41++[])):=h44
 have hI1:=Kn.next (j:=0) hI0 J az az ⟨az,(show(0:Int)<((1:Nat):Int)by decide)⟩
 refine aF (v:=Pn _ _) rfl<|mI rfl<|cG O (alz 0 hI1.nw.ns.ok J J (A:=[]) (R:=[]) aJd oq) (aL call18 O O)<| ?_
 rintro _ w54 (⟨hno,-⟩|⟨-,-,rfl,aRU,Z50,aRV,aJe,h53⟩)
 .exact absurd ⟨hI1.sk,az,(show(0:Int)<((1:Nat):Int)by decide)⟩ hno
 have jz:Hp _ w54 ((Z50++[])):=h53
 refine V (run_assign (show _=I 0 from O))<|V (run_assign (show _=I 1 from O))<|aa<|SR<|have hI2:=Kn.next (j:=1) hI1 J az az ⟨az,(show(0:Int)<((1:Nat):Int)by decide)⟩;have hL0:=AI.start (l:=(Bp N_ N_ N_)) (Kn.fin (j:=2) hI2 J az az) hI2.nw hI2.qs;aF (v:=Pn _ _) rfl<|mI rfl<|V (dL (vs:=[(0,U 1#64)]) O (QY _))<|V (dL (vs:=[(0,I 2),(2,.agg (iM xD))]) O (aaN 2 xD))<|ud 1 1 jz (lJ gS ic O O O (l:=[_]) O az az O)<|fun b58 w56 aaX=>have B3:Hp _ w56 (([bu.blk b58 (.cells ([⟨2,0,xD⟩].flatMap kq).toArray 90 (0,0))]++(Z50++[]))):=Hp.Gh (Z:=[bu.blk b58 (.cells ([⟨2,0,xD⟩].flatMap kq).toArray 90 (0,0))]) (L:=[]) (L':=(Z50++[])) aaX;have aJf:oE (Kz (Kw w) [bu.blk b58 (.cells ([⟨2,0,xD⟩].flatMap kq).toArray 90 (0,0))]) (.slice (some ⟨b58,0,none⟩) 1 1) 10 1 ([⟨2,0,xD⟩].flatMap kq):=GI (rj ..) (fO gS _) fT;have Es:=Hp.mQ (A:=[]) (B:=[bu.blk b58 (.cells ([⟨2,0,xD⟩].flatMap kq).toArray 90 (0,0))]) (R:=Z50) B3;mI rfl<|V (dL (vs:=[(0,I 0)]) O (DE 0))<|cG O (ac2 0 _ [⟨2,0,xD⟩] ⟨0,df⟩ 1#64 hI2.nw.ns.ok az J J hT (A:=[]) (X:=([bu.blk b58 (.cells ([⟨2,0,xD⟩].flatMap kq).toArray 90 (0,0))]++[])) (aJf.mono (Le.zz (fun x hx=>(dI _ hx)))) aJe Es) (sL call25 O O O O (show _=U 1#64 from O))<| ?_
 rintro _ w74 ⟨afk,s65,aJg,aRY,Z68,rfl,aJh,aRZ,aR0,ao2,h73⟩
 have ve:Hp _ w74 ((Z68++[])):=h73
 refine aB rfl<|aa<|SR<|have hX0:Tu _ s65 ((Bp N_ N_ N_).getD 0 dN) 0 afk:=⟨fun q=>absurd O q,fun _=>aJh⟩;?_
 obtain⟨aJi,hL1,aJj,-⟩:=AI.add hL0 az az Vz oF hI2.sk hX0
 subst aJi
 refine aF (v:=Pn _ _) rfl<|mI rfl<|mI rfl<|V (dL (vs:=[(0,I 1),(1,I 0)]) O (OP 1 0))<|ud 1 1 ve (lJ gS ic O O O (l:=[_]) O az az O)<|fun b79 w77 zx=>have pL:Hp _ w77 (([bu.blk b79 (.cells ([⟨1,0,df⟩].flatMap kq).toArray 90 (0,0))]++(Z68++[]))):=Hp.Gh (Z:=[bu.blk b79 (.cells ([⟨1,0,df⟩].flatMap kq).toArray 90 (0,0))]) (L:=[]) (L':=(Z68++[])) zx;have aJk:oE (Kz (Kw w) [bu.blk b79 (.cells ([⟨1,0,df⟩].flatMap kq).toArray 90 (0,0))]) (.slice (some ⟨b79,0,none⟩) 1 1) 10 1 ([⟨1,0,df⟩].flatMap kq):=GI (rj ..) (fO gS _) fT;have o5:=Hp.mQ (A:=[]) (B:=[bu.blk b79 (.cells ([⟨1,0,df⟩].flatMap kq).toArray 90 (0,0))]) (R:=Z68) pL;mI rfl<|V (dL (vs:=[(0,I 1)]) O (DE 1))<|cG O (ac2 0 _ [⟨1,0,df⟩] ⟨1,df⟩ 2#64 hL1.nw.ns.ok az J J hT (A:=[]) (X:=([bu.blk b79 (.cells ([⟨1,0,df⟩].flatMap kq).toArray 90 (0,0))]++[])) (aJk.mono (Le.zz (fun x hx=>(dI _ hx)))) ao2 o5) (sL call25 O O O O (show _=U 2#64 from O))<| ?_
 rintro _ w95 ⟨aJl,s86,aR4,aR5,Z89,rfl,aJm,aR7,aR8,aJn,h94⟩
 have qc:Hp _ w95 ((Z89++[])):=h94
 refine aB rfl<|aa<|SR<|have hX1:Tu s65 s86 ((Bp N_ N_ N_).getD 1 dN) 1 aJl:=⟨fun q=>absurd O q,fun _=>aJm⟩;?_
 obtain⟨aaT,hL2,avD,-⟩:=AI.add hL1 az az Vz oF aJj hX1
 subst aaT
 refine aF (v:=Pn _ _) rfl<|cG O (O2 hT hL2.nw J J (A:=[]) (R:=[]) aJn qc) (ay call15 O)<| ?_
 rintro _ aJo ⟨aB6,afl,aMm,f103,aSb,aSc,ape,rfl,aB7,aMn,aMo,aMp,aMq,alA,auY⟩
 have J2:Hp _ aJo ((ape++[])):=auY
 have hP1:=AI.set hL2 az (aB7.go avD)
 have aJp:aB6=true:=hP1.is.2 att
 subst aJp
 have Qq:afl.ak.length=2:=hP1.net.np.nv
 have hy2:afl.bp.length=2:=hP1.net.nw.ns.ok.QL.trans Qq
 have hv1:sx (afl.ak.getD 1 df) xD:=an5 (hP1.low O) (hP1.all O)
 have hy1:afl.bp.getD 1 0&&&3#64=3#64:=ax6 (x:=vQ afl.ak) hv1 (hP1.why O 1 az)
 refine mB rfl<|cF O rfl<|aF (v:=Pn _ _) rfl<|mI rfl<|aH O J2 (ac3 _ alA J2 (fun x hx=>(dI _ hx))) (aL call23 O O)<|fun alp wO=>V (dL (vs:=[(0,U 1#64)]) O (QY _))<|V (IP Hi O O)<|mB rfl<|mB rfl<|cF O (bT ((by rw[(aY (show(0:Int)<=1/\(1:Int)<_ from⟨J,J⟩))];exact hv1)))<|aF (v:=Pn _ _) rfl<|mI rfl<|aH O wO (arH _ alA wO (fun x hx=>(dI _ hx))) (aL call21 O O)<|fun aB1 ac1=>V (mh O (b:=3#64) O)<|V (jm O (b:=3#64) O)<|mB rfl<|aB rfl<|aa<|SR<|aF (v:=Pn _ _) rfl<|mI rfl<|mI rfl<|V (dL (vs:=[(0,I 1),(1,I 1)]) O (OP 1 1))<|ud 1 1 ac1 (lJ gS ic O O O (l:=[_]) O az az O)<|fun aa0 aox oe=>have aB8:Hp _ aox (([bu.blk aa0 (.cells ([⟨1,1,df⟩].flatMap kq).toArray 90 (0,0))]++(ape++[]))):=Hp.Gh (Z:=[bu.blk aa0 (.cells ([⟨1,1,df⟩].flatMap kq).toArray 90 (0,0))]) (L:=[]) (L':=(ape++[])) oe;have alq:oE (Kz (Kw w) [bu.blk aa0 (.cells ([⟨1,1,df⟩].flatMap kq).toArray 90 (0,0))]) (.slice (some ⟨aa0,0,none⟩) 1 1) 10 1 ([⟨1,1,df⟩].flatMap kq):=GI (rj ..) (fO gS _) fT;have alr:=Hp.mQ (A:=[]) (B:=[bu.blk aa0 (.cells ([⟨1,1,df⟩].flatMap kq).toArray 90 (0,0))]) (R:=ape) aB8;V (dL (vs:=[(0,I (-1))]) O (DE (-1)))<|cG O (ac2 0 _ [⟨1,1,df⟩] ⟨-1,df⟩ 4#64 hP1.net.nw.ns.ok az J J hT (A:=[]) (X:=([bu.blk aa0 (.cells ([⟨1,1,df⟩].flatMap kq).toArray 90 (0,0))]++[])) (alq.mono (Le.zz (fun x hx=>(dI _ hx)))) alA alr) (sL call25 O O O O (show _=U 4#64 from O))<| ?_
 rintro _ ao4 ⟨aB9,aJq,aMr,aMs,aJr,rfl,aCa,aMt,aMu,aCb,aJs⟩
 have og:Hp _ ao4 ((aJr++[])):=aJs
 refine aB rfl<|aa<|SR<|have hX2:Tu afl aJq ((Bp N_ N_ N_).getD 2 dN) 2 aB9:=⟨fun q=>absurd O q,fun _=>aCa⟩;?_
 obtain⟨WK,hL3,aJt,-⟩:=AI.add hP1.net az az Vz oF hP1.sk hX2
 subst WK
 refine aF (v:=Pn _ _) rfl<|cG O (O2 hT hL3.nw J J (A:=[]) (R:=[]) aCb og) (ay call15 O)<| ?_
 rintro _ ayU ⟨arJ,aSf,aMw,f149,aSg,aSh,aJu,rfl,aCc,aMx,aMy,aMz,aMA,aCd,aJv⟩
 have Xh:Hp _ ayU ((aJu++[])):=aJv
 refine aB rfl<|aa<|SR<|have hP2:=AI.set hL3 az (aCc.go aJt);have aJx:arJ=false:=(by cases h:arJ;rfl;exact absurd (hP2.is.1 h) ax7);?_
 subst aJx
 refine aF (v:=Pn _ _) rfl<|aH O Xh (ac4 aCd Xh (fun x hx=>(dI _ hx))) (ay call16 O)<|fun aIL acZ=> ?_
 refine V (run_move bz) ?_
 refine V (bk O (v:=U _) O)<|V (bk O (v:=B _) O)<|aU rfl<|aB rfl<|aa<|SR<|mB rfl<|mB rfl<|cF O rfl<|mB rfl<|mB rfl<|mB rfl<|cF O rfl<|mB rfl<|mB rfl<|mB rfl<|cF O (bT ((by rw[(aY (show(0:Int)<=1/\(1:Int)<_ from⟨J,J⟩))];exact hy1)))<|mB rfl<|mB rfl<|mB rfl<|cF O rfl<|mB rfl<|V (bJ O)<|mB rfl<|mB rfl<|cF O rfl<|mB rfl<|mB rfl<|mB rfl<|cF O (bR (c:=true) (hP2.sk))<|mU rfl<|V (mh O (b:=7#64) O)<|V (jm O (b:=7#64) O)<|mB rfl<|aB rfl<|aa<|aj<|oB O ?_ acZ
 exact gY (an6 (hP2.no O))
end
section
open Go Go.RowKit Go.Proofs.YtlhjdflgjbkpmaaGreatDoor.E Go.Proofs.YtlhjdflgjbkpmaaGreatDoor.M
set_option maxRecDepth 100000
open Go.Proofs.Tryz
variable{fr:List bu}
variable{W0 w:World}{n m:Nat}{cs:List (List Nat)}{wr:Value}{vL:Value}{vt:Value}{vv:Value}{vy:Value}{vu:Value}{vq:Value}{sn:Int}{vW:Value}{vU:Value}{vT:Value}{cn:Int}{sk:Bool}{wy:BitVec 64}{vd:Value}{vm:Value}{cW:Option (Nat×Array Value)}{cU:Option (Nat×Array Value)}{W:List (BitVec 64)}{ul:List (Value×jU)}{ts:List Int}{aq:List pY}{bf:List Int}{ak:List El}{bp:List (BitVec 64)}{us:List j5}{qs:List dD}{lg:List (Value×mE)}{tm:List Int}{L:List bu}
theorem Bd(p:ko)(w:World)(hp:rL (Kw w) p):Calls Tryz.prog 10 #[.agg (sy p).toArray] w (Pure (B (lM p)) w):=by
 have BA:=hp.aO.small
 unfold maxLen at BA
 refine eH func10 rfl rfl fun hH=>SR<|gO hH (v:= .agg _) rfl<|fun b3 w1 bq=>va (v:=B false) rfl<|aa<|ai<|SR<|V (fA kR 0 O zX O)<|V (iN (sub:=CM _) gH O O O (bq.blk (i:=0) O) (D3 _))<|aH O bq (A6 _ _ (hp.s.mono bq.kw)) (ay call34 O)<|fun w4 bY=>V (bJ O)<|mB rfl<|eK 8 O (fun h8=> ?_) (fun h8=> ?_)
 .refine aF (v:=B true) rfl<|aa<|cz rfl<|SR<|va (v:=B false) rfl<|aa<|aj<|oB O ?_ bY
  (rw[ahW (nt ‹(!iZ p.s)=true›)];done)
 refine V (fA kR 2 O qo O)<|V (bZ (hp.aO.sl.hp bY) kg O O (bY.cell (i:=0) O O))<|V (aD (hp.aO.sl.hp bY) O kg O)<|V (dP O O)<|mB rfl<|aa<|aG O (fun h10=> ?_) (fun h10=> ?_)
 .refine SR<|va (v:=B false) rfl<|aa<|aj<|oB O ?_ bY
  (rw[ahX J];done)
 refine an<|ai<|SR<|va (v:=I 0) rfl<|aa<|aA<|have hsz:¬64<p.aO.length:=J;bt (G:=Int) (fun k s' w'=>(Fr (2::3::(rg 14 16 [])) _ s')/\(Hp w w' _)/\(s' 3=I k)/\(0<=k)/\(k<=p.aO.length)/\(∀j:Int,0<=j->j<k->kT p.s (p.aO.getD j.toNat dN)=true)) (fun k=>(p.aO.length-k).toNat) (0) ⟨Fr.refl _ _,bY,rfl,J,J,fun j a b=>absurd b J⟩<| ?_
 rintro k ayl Je ⟨Kp,dr,alB,h0,hk,hg⟩
 have EZ:=Kp.w1 1
 refine ai<|SR<|aF alB<|V (fA kR 2 O qo EZ)<|V (bZ (hp.aO.sl.hp dr) kg O O (dr.cell (i:=0) O O))<|V (aD (hp.aO.sl.hp dr) O kg O)<|V (aN O O)<|aa<|aG O (fun TB=> ?_) (fun TB=> ?_)
 .refine an<|ai<|aA<|ai<|ew aQ dr<|fun Q1 gW=>have aa1:=gW;AQ 0 O aa1 (fA kR 0 O zX EZ)<|AT 1 O aa1 (fun w hS=>iN (sub:=CM _) gH O O O (hS.blk (i:=0) O) (D3 _))<|AQ 2 O aa1 (fA kR 2 O qo EZ)<|AT 3 O aa1 (fun w hS=>bZ (hp.aO.sl.hp hS) kg O O (hS.cell (i:=0) O O))<|AQ 4 O aa1 (run_move alB)<|AT 5 O aa1 (fun w hS=>ah (hp.aO.sl.hp hS) kg H6 O O J)<|AT 6 O aa1 (fun w hS=>dY (dv:=dN) ni (hp.aO.sl.hp hS) fw O O O J)<|A1 7<|cm O aC O gW sR (A7 _ _ _ (hp.s.mono gW.kw) ((hp.at J J).mono gW.kw)) (aL call35 O O)<|fun Jg er=>AQ 8 O er (bJ O)<|AD<|bX O (fun O7=> ?_) (fun O7=> ?_)
  .refine SR<|va (v:=B false) rfl<|aa<|aj<|oB O ?_ er
   (rw[ahY h0 ‹k<_› (nt ‹(!kT p.s _)=true›)];done)
  refine an<|au<|aF alB<|V (ax O O J)<|aI rfl<|aa<| ?_
  refine⟨k+1,aX,Kp.u4.u4.u4.u4.u1,er,(aK I aM),J,J,?_⟩
  exact fun j u v=>if e:j=k then e▸nf ‹(!kT _ _)=false›else hg j u J
 refine a8 (id:=0) rfl<|SR<|va (v:=B true) rfl<|aa<|aj<|oB O ?_ dr
 (rw[ahZ (nf ‹(!iZ p.s)=false›) J ‹¬k<_› hg];done)
theorem B8(x:gL)(w:World)(hx:Ke (Kw w) x):Calls Tryz.prog 33 #[.agg (u3 x).toArray] w (Pure (B (xw x)) w):=by
 have BA:=hx.code.small
 have Kj:=hx.a.fields.small
 have hm3:=hx.b.fields.small
 unfold maxLen at BA Kj hm3
 refine eH func33 rfl rfl fun hH=>SR<|gO hH (v:= .agg _) rfl<|fun b3 w1 bq=>va (v:=B false) rfl<|aa<|ai<|SR<|V (fA fw 2 O x9 O)<|V (bZ (hx.code.sl.hp bq) ic O O (bq.cell (i:=0) O O))<|V (aD (hx.code.sl.hp bq) O ic O)<|V (dP O O)<|mB rfl<|bM 9 O (fun h5=> ?_) (fun h5=> ?_)
 .refine aF (v:=B true) rfl<|mB rfl<|cF O rfl<|aF (v:=B true) rfl<|mB rfl<|cF O rfl<|aF (v:=B true) rfl<|aa<|cz rfl<|SR<|va (v:=B true) rfl<|aa<|aj<|oB O ?_ bq
  exact(D4 J).symm
 refine V (fA fw 12 O HZ O)<|V (fA qk 0 O vF O)<|V (bZ (hx.a.fields.sl.hp bq) m8 O O (bq.cell (i:=0) O O))<|V (aD (hx.a.fields.sl.hp bq) O m8 O)<|V (dP O O)<|mB rfl<|mB rfl<|bM 16 O (fun h7=> ?_) (fun h7=> ?_)
 .refine aF (v:=B true) rfl<|mB rfl<|cF O rfl<|aF (v:=B true) rfl<|aa<|cz rfl<|SR<|va (v:=B true) rfl<|aa<|aj<|oB O ?_ bq
  exact(D4 J).symm
 refine V (fA fw 14 O HZ O)<|V (fA qk 0 O vF O)<|V (bZ (hx.b.fields.sl.hp bq) m8 O O (bq.cell (i:=0) O O))<|V (aD (hx.b.fields.sl.hp bq) O m8 O)<|V (dP O O)<|mB rfl<|mB rfl<|bM 23 O (fun h9=> ?_) (fun h9=> ?_)
 .refine aF (v:=B true) rfl<|aa<|cz rfl<|SR<|va (v:=B true) rfl<|aa<|aj<|oB O ?_ bq
  exact(D4 J).symm
 refine V (fA fw 17 O kC O)<|V (aE iz O O (bq.cell (i:=0) O (v:= .string _) O))<|V (lG O iz O)<|V (dP O O)<|mB rfl<|aa<|aG O (fun h11=> ?_) (fun h11=> ?_)
 .refine SR<|va (v:=B true) rfl<|aa<|aj<|oB O ?_ bq
  exact(D4 J).symm
 refine an<|ai<|ai<|ew aQ bq<|fun zl bV=>have aa2:=bV;AQ 1 O aa2 (fA fw 12 O HZ O)<|AQ 2 O aa2 (fA qk 0 O vF O)<|AT 3 O aa2 (fun w hS=>bZ (hx.a.fields.sl.hp hS) m8 O O (hS.cell (i:=0) O O))<|AQ 5 O aa2 (fA fw 14 O HZ O)<|AQ 6 O aa2 (fA qk 0 O vF O)<|AT 7 O aa2 (fun w hS=>bZ (hx.b.fields.sl.hp hS) m8 O O (hS.cell (i:=0) O O))<|AQ 10 O aa2 (mV (I 0) O)<|A1 0<|cB O aC O bV sR (f:=fun b=> .slice (some ⟨b,0,none⟩) 0 0) (tj m8 HX)<|fun b16 Q1 gW=> ?_
 (try simp only[lC]at gW)
 have er:=gW.sM 0 10 O az
 refine A1 4<|fB O aC O er (j:=0) O (fun _=>(sQ sR)) (hx.a.fields.sl.hp er) O O m8 O O (size:=10) (bytes:=88) O O O az (Ni _) (by show(0+_)*_<=_;omega) (by show 0+_<=_;simp only[maxLen];omega)<|fun v20 Lf iC=>A1 8<|fB O aC O iC (j:=0) O (fun _=>(sQ sR)) (hx.b.fields.sl.hp iC) O O m8 O O (size:=10) (bytes:=88) O O O az (Ni _) (by show(_+_)*_<=_;omega) (by show _+_<=_;simp only[maxLen];omega)<|fun v23 N4 cK=>A1 9<|cf O aC O cK (sQ sR) (aD (cK.sl (i:=0) O) O m8 O)<|AD<|aA<|have hap:(x.a.fields++x.b.fields).length=x.a.fields.length+x.b.fields.length:=ed;?_
 simp only[gQ,eR,<-Gn,<-ed]at cK
 refine bt (G:=Int) (fun k s' w'=>(Fr (2::(4::(rg 39 9 []))) _ s')/\(Hp w w' _)/\(s' 39=I k)/\(0<=k)/\(k<=(x.a.fields++x.b.fields).length)/\(∀j:Int,0<=j->j<k->decide (40<((x.a.fields++x.b.fields).getD j.toNat nS).name.size)=false)) (fun k=>((x.a.fields++x.b.fields).length-k).toNat) (0) ⟨Fr.refl _ _,cK,rfl,J,J,fun j a b=>absurd b J⟩ ?_
 rintro k aFi Uq ⟨aka,jy,aa3,h0,hk,hg⟩
 obtain⟨avE,avF⟩:=aka.w2 37 38
 refine SR<|V (aN aa3 avF)<|aa<|ai<|aG O (fun WN=> ?_) (fun WN=> ?_)
 .refine an<|ai<|aA<|SR<|V (ah (jy.sl (i:=0) O) m8 HX avE aa3 J)<|V (dY (dv:=nS) sW (jy.sl (i:=0) O) HV O O O J)<|lN jy (aT aac)<|fun b31 w29 iU=>bg iU (i:=0) O (dK (c':=(uE _).toArray) O O O (M8 _) (iU.blk (i:=0) O) O)<|fun w32 ku=>aa<|SR<|V (fA HV 0 O kC O)<|V (aE iz O O (ku.cell (i:=0) O (v:= .string _) O))<|V (lG O iz O)<|V (dP O O)<|aa<|aG O (fun BT=> ?_) (fun BT=> ?_)
  .refine SR<|va (v:=B true) rfl<|aa<|aj<|oB O ?_ ku
   exact(ad9 O h0 J J).symm
  refine an<|au<|V (ax aa3 O J)<|mI rfl<|aa<| ?_
  refine⟨k+1,aX,aka.u4.u4.u1.u1,(ku.sub (sQ sR)),(aK I aM),J,J,?_⟩
  exact fun j u v=>if e:j=k then e▸hG (by omega)else hg j u J
 refine a8 (id:=0) rfl<|SR<|va (v:=B false) rfl<|aa<|aj<|oB O ?_ jy
 exact(am5 O J J hg).symm
theorem DH(p:ko)(w:World)(hp:rL (Kw w) p):Calls Tryz.prog 9 #[.agg (sy p).toArray] w (Pure (B (Pd p)) w):=by
 have BA:=hp.aO.small
 unfold maxLen at BA
 refine eH func9 rfl rfl fun hH=>SR<|gO hH (v:= .agg _) rfl<|fun b3 w1 bq=>va (v:=B false) rfl<|aa<|ai<|SR<|V (fA kR 0 O zX O)<|V (iN (sub:=CM _) gH O O O (bq.blk (i:=0) O) (D3 _))<|aH O bq (Dl _ _ (hp.s.mono bq.kw)) (ay call32 O)<|fun w4 bY=>mB rfl<|eK 8 O (fun h7=> ?_) (fun h7=> ?_)
 .refine aF (v:=B true) rfl<|aa<|cz rfl<|SR<|va (v:=B true) rfl<|aa<|aj<|oB O ?_ bY
  exact(Qp (.inl aR)).symm
 refine V (fA kR 2 O qo O)<|V (bZ (hp.aO.sl.hp bY) kg O O (bY.cell (i:=0) O O))<|V (aD (hp.aO.sl.hp bY) O kg O)<|V (dP O O)<|mB rfl<|aa<|aG O (fun h9=> ?_) (fun h9=> ?_)
 .refine SR<|va (v:=B true) rfl<|aa<|aj<|oB O ?_ bY
  exact(Qp (.inr J)).symm
 refine an<|ai<|SR<|V (fA kR 2 O qo O)<|V (bZ (hp.aO.sl.hp bY) kg O O (bY.cell (i:=0) O O))<|V (aD (hp.aO.sl.hp bY) O kg O)<|aF (v:=I 0) rfl<|aa<|aA<|bt (G:=Int) (fun k s' w'=>(Fr (2::(4::(rg 17 7 []))) _ s')/\(Hp w w' _)/\(s' 17=I k)/\(0<=k)/\(k<=p.aO.length)/\(∀j:Int,0<=j->j<k->xw (p.aO.getD j.toNat dN)=false)) (fun k=>(p.aO.length-k).toNat) (0) ⟨Fr.refl _ _,bY,rfl,J,J,fun j a b=>absurd b J⟩<| ?_
 rintro k WR Eo ⟨nX,cg,aa4,h0,hk,hg⟩
 obtain⟨avG,avH⟩:=nX.w2 15 16
 refine SR<|V (aN aa4 avH)<|aa<|ai<|aG O (fun h12=> ?_) (fun h12=> ?_)
 .refine an<|ai<|aA<|SR<|V (ah (hp.aO.sl.hp cg) kg H6 avG aa4 J)<|V (dY (dv:=dN) ni (hp.aO.sl.hp cg) fw O O O J)<|lN cg (aT Hj)<|fun b15 BR cD=>bg cD (i:=0) O (dK (c':=(u3 _).toArray) O O O (yW (hp.at J J)) (cD.blk (i:=0) O) O)<|fun Jg er=>aa<|SR<|V (cC (cs:=u3 _) fw O O O (bj (er.blk (i:=0) O)))<|aH O er (B8 _ _ ((hp.at J J).mono er.kw)) (ay call33 O)<|fun Lf iC=>aa<|bX O (fun Pt=> ?_) (fun Pt=> ?_)
  .refine SR<|va (v:=B true) rfl<|aa<|aj<|oB O ?_ iC
   exact(aea h0 ‹k<_› aR).symm
  refine an<|au<|V (ax aa4 O J)<|mI rfl<|aa<| ?_
  refine⟨k+1,aX,nX.u4.u4,(iC.sub (sQ sR)),(aK I aM),J,J,?_⟩
  exact fun j u v=>if e:j=k then e▸‹xw _=false›else hg j u J
 refine a8 (id:=0) rfl<|SR<|va (v:=B false) rfl<|aa<|aj<|oB O ?_ cg
 exact(ah6 aR J ‹¬k<_› hg).symm
section
variable{W0 w:World}{n:Nat}{s:NP}{lg:List (Value×mE)}{tm:List Int}{ids:List Nat}{f:Ct}{tl:List (Nat×Rl)}{b c:Nat}{A R Z fr:List bu}
theorem aCe(x:gL)(i:Int)(hok:Em s)(oF:x.code.length<=1000)(hi:0<=i/\i<=1000)(hb:b<=70)(hc:c<=1000)(hT:pc W0)(hx:Ke (Kw W0) x)(hZ:kA fr W0 n s lg tm ids f tl b c Z)(hH:Hp W0 w (A++(Z++R))):Calls Tryz.prog 13 #[pt n,.agg (u3 x).toArray,I i] w (j3 fun u w'=>∃(ok:Bool) (s':NP) (new:List (Value×mE)) (Uo:List Int) (Z':List bu),u=B ok/\Tu s s' x i.toNat ok/\iO new s s'/\TmX x.op ok lg tm Uo/\kA fr W0 n s' (lg++new) Uo ids f tl b (c+1) Z'/\Hp W0 w' (A++(Z'++R))):=by
 obtain⟨Z2,hM,bq⟩:=hZ.auJ hH
 refine(DG x i hok oF hi hb hc w hT hx hM bq).mono fun e w' hr=>j3.mono ?_ hr
 rintro u w' ⟨ok,s',new,Uo,Z3,rfl,h1,h2,h3,h4,h5⟩
 obtain⟨Zo,ho,hh⟩:=kA.out h4 h5
 exact⟨ok,s',new,Uo,Zo,rfl,h1,h2,h3,ho,hh⟩
end
section
variable{W0 w:World}{n:Nat}{s:NP}{lg:List (Value×mE)}{tm:List Int}{ids:List Nat}{f:Ct}{tl:List (Nat×Rl)}{b c:Nat}{A R Z fr:List bu}
theorem alC(p:lQ)(hrs:iZ p=true)(hT:pc W0)(hs:Ef (Kw W0) p)(hH:Hp W0 w A):Calls Tryz.prog 12 #[.agg (MW p),.nilFunc] w (j3 fun u w'=>∃(n:Nat) (s:NP) (lg:List (Value×mE)) (tm:List Int) (tl:List (Nat×Rl)) (Z:List bu) (c:Nat),u= .tuple #[pt n,B true]/\tZ p s/\zg s/\s.qs=[]/\s.sk=false/\s.wr= .nilFunc/\c<=100/\kA [] W0 n s lg tm [] ct0 tl 0 c Z/\Hp W0 w' (A++(Z++[]))):=by
 refine(Bc (fr:=A++([]++[])) p .nilFunc hrs (.inl O) FO.zero w hT hs kY.nil (by simpa using hH)).mono fun e w' hr=>j3.mono ?_ hr
 rintro u w' ⟨n,s,lg,tm,tl,Z,c,rfl,h1,h2,h3,h4,h5,h6,h7,h8,h9⟩
 obtain⟨Zo,ho,hh⟩:=kA.out (A:=A) (R:=[]) (fr:=[]) h8 h9
 exact⟨n,s,lg,tm,tl,Zo,c,rfl,h1,h2,h3,h4,h5,h7,ho,hh⟩
end
theorem sE(K:Vu)(p:ko)(a:BitVec 64)(Sr:p.aO.length<=64)(w:World)(hK:Le K (Kw w))(hp:rL K p):Calls Tryz.prog 20 #[.agg (sy p).toArray,U a] w (EI K (fun K' u=>∃v:Value,u= .agg (sy ⟨p.s,v,p8 p.aO a p.aO.length⟩).toArray/\rL K' ⟨p.s,v,p8 p.aO a p.aO.length⟩) w):=by
 have BA:=hp.aO.small
 unfold maxLen at BA
 have hn0:rL K (⟨p.s,.slice none 0 0,[]⟩:ko):=⟨hp.s,oE.nil _ _,fun x hx=>by cases hx⟩
 refine eH func20 rfl rfl fun hH=>SR<|gO hH (v:= .agg _) rfl<|fun b3 w1 bq=>lN bq (aT Rh)<|fun b6 w4 bY=>aa<|SR<|V (fA kR 0 O zX O)<|V (iN (sub:=CM _) gH O O O (bY.blk (i:=1) O) (D3 _))<|V (dL (vs:=[(0,.agg (MW p.s))]) O (Xl p.s))<|lN bY (aT Rh)<|fun b9 w7 eX=>bg eX (i:=0) O (dK (c':=#[p.s.lv,p.s.vv,.slice none 0 0]) O O O (Qj hn0) (eX.blk (i:=0) O) O)<|fun Eo dr=>have cM:=dr.eI 44 18;aa<|ai<|SR<|va (v:=I 0) rfl<|aa<|aA<|bt (G:=Int×Value×(List gL)) (fun⟨k,v0,xs⟩ s' w'=>(Fr (6::(rg 10 27 [])) _ s')/\(Hp w w' (.row v0 44 18 (xs.length) (xs.flatMap u3):: .blk b9 (.cells (#[p.s.lv,p.s.vv,v0]) 28 (0,0))::_))/\(s' 6=I k)/\(0<=k)/\(k<=p.aO.length)/\(xs=p8 p.aO a k.toNat)/\(xs.length<=64)) (fun⟨k,v0,xs⟩=>(p.aO.length-k).toNat) ((0,(.slice none 0 0:Value),[])) ⟨Fr.refl _ _,cM,rfl,J,J,rfl,aJ⟩<| ?_
 rintro⟨k,v0,xs⟩ WL BR ⟨pJ,bV,qS,h0,hk,hxs,Ui⟩
 obtain⟨Dc,Oo,wC,wF⟩:=pJ.w4 1 2 4 5
 refine ai<|SR<|aF qS<|V (fA kR 2 O qo Oo)<|V (bZ ((hp.mono hK).aO.sl.hp bV) kg O O (bV.cell (i:=3) O O))<|V (aD ((hp.mono hK).aO.sl.hp bV) O kg O)<|V (aN O O)<|aa<|aG O (fun Db=> ?_) (fun Db=> ?_)
 .refine an<|ai<|aA<|SR<|aF qS<|V (aN O O)<|mB rfl<|cF O (bT ((show k<64 by omega)))<|aF Dc<|aF qS<|V (jL bx zS O)<|V (Cy O O)<|V (Gr O (b:=2#64) O az)<|V (jm O (b:=1#64) O)<|mB rfl<|aa<|aG O (fun p9=> ?_) (fun p9=> ?_)
  .refine fX aQ bV (sQ (sQ sR))<|fun Q2 cP=>have oo:=cP.sub (sQ (sQ sR));AQ 0 O oo (fA kR 2 O qo wF)<|AQ 2 O oo (fA kR 2 O qo Oo)<|AT 3 O oo (fun w hS=>bZ ((hp.mono hK).aO.sl.hp hS) kg O O (hS.cell (i:=1) O O))<|AQ 4 O oo (run_move qS)<|AT 5 O oo (fun w hS=>ah ((hp.mono hK).aO.sl.hp hS) kg H6 O O J)<|AT 6 O oo (fun w hS=>dY (dv:=dN) ni ((hp.mono hK).aO.sl.hp hS) fw O O O J)<|gj 1 7 aQ ?_ ?_
   .refine cf O aC O cP (sQ (sQ sR)) (aE kg O O (cP.cell (i:=1) O O))<|A1 7<|cB O aC O cP (sQ (sQ sR)) (f:=fun b=> .slice (some ⟨b,0,none⟩) 1 1) (lJ ni kg O O O (l:=[_]) O az az O)<|fun b25 w23 gM=>A1 8<|fB O aC O gM (j:=1) O (fun _=>(sQ (sQ (sQ sR)))) (Hp.gR ni gM (i:=0) (l:=[_]) O fT) O O kg O O (size:=18) (bytes:=200) O O O az (fun u hu=>yW (hp.at h0 ‹k<_›) u pz) (by simp only[eG,xU];omega) (by simp only[maxLen,eG,xU];omega)<|fun v28 Uq dG=>AQ 9 O (dG.sub (sQ (sQ (sQ sR)))) (fA kR 2 O qo wF)<|A1 10<|dW O aC dG (j:=2) O (sQ (sQ (sQ sR))) (bK O O (v:=v28) O (aZ (dG.get (i:=1) O)).1 (aZ (dG.get (i:=1) O)).2 (dG.blk (i:=2) O) aJ)<|fun w31 ij=>AD<|au<|aF qS<|V (ax O O J)<|aI rfl<|aa<| ?_
    refine⟨(k+1,v28,(xs++[(p.aO.getD k.toNat dN)])),aX,pJ.u4.u4.u4.u4.u4.u4.u4,(Hp.conv (ij.sub (sQ sR)) (by first|rfl|simp)),(aK I uD),J,J,?_,?_⟩
    ·(rw[aaO h0,hxs,aY (aco h0 J jK)])
    (have:=NV (l:=p.aO) (a:=a) (k:=k.toNat);rw[<-hxs]at this;simp only[ed,ey];omega)
   refine cB O aC O cP (sQ (sQ sR)) (f:=fun b=> .slice (some ⟨b,0,none⟩) 1 1) (lJ ni kg O O O (l:=[_]) O az az O)<|fun b35 w33 kr=>A1 1<|cf O aC O kr (sQ (sQ (sQ sR))) (aE kg O O (kr.cell (i:=2) O O))<|A1 8<|fB O aC O kr (j:=1) O (fun _=>(sQ (sQ (sQ sR)))) (Hp.gR ni kr (i:=0) (l:=[_]) O fT) O O kg O O (size:=18) (bytes:=200) O O O az (fun u hu=>yW (hp.at h0 ‹k<_›) u pz) (by simp only[eG,xU];omega) (by simp only[maxLen,eG,xU];omega)<|fun v40 w38 jS=>AQ 9 O (jS.sub (sQ (sQ (sQ sR)))) (fA kR 2 O qo wF)<|A1 10<|dW O aC jS (j:=2) O (sQ (sQ (sQ sR))) (bK O O (v:=v40) O (aZ (jS.get (i:=1) O)).1 (aZ (jS.get (i:=1) O)).2 (jS.blk (i:=2) O) aJ)<|fun w43 pK=>AD<|au<|aF qS<|V (ax O O J)<|aI rfl<|aa<| ?_
   refine⟨(k+1,v40,(xs++[(p.aO.getD k.toNat dN)])),aX,pJ.u4.u4.u4.u4.u4.u4.u4,(Hp.conv (pK.sub (sQ sR)) (by first|rfl|simp)),(aK I uD),J,J,?_,?_⟩
   ·(rw[aaO h0,hxs,aY (aco h0 J jK)])
   (have:=NV (l:=p.aO) (a:=a) (k:=k.toNat);rw[<-hxs]at this;simp only[ed,ey];omega)
  refine an<|au<|aF qS<|V (ax O O J)<|aI rfl<|aa<| ?_
  refine⟨(k+1,v0,xs),aX,pJ.u4.u4.u4.u4.u1.u1,(Hp.conv bV (by first|rfl|simp)),(aK I uD),J,J,?_,J⟩
  (rw[aaO h0,hxs,aW (atv h0 J jK),mG])
 refine a8 (id:=0) rfl<|SR<| ?_
 obtain⟨Z45,aJz,aCf,-⟩:=bV.SG (K)
 have jR:Hp _ BR (_::_::_::Z45):=aJz.amN (L:=[_,_,_])
 subst hxs
 rw[show k.toNat=p.aO.length by omega]at aCf
 have aCg:rL (Kz K Z45) (⟨p.s,v0,p8 p.aO a p.aO.length⟩:ko):=⟨hp.s.mono (Le.z _ _),aCf,fun x hx=>(hp.each x (Hh (eu _) hx)).mono (Le.z _ _)⟩
 refine V (cC (cs:=sy (⟨p.s,v0,p8 p.aO a p.aO.length⟩:ko)) kR O O wF (bj (jR.blk (i:=0) O)))<|bg jR (i:=1) O (dK (c':=(sy (⟨p.s,v0,p8 p.aO a p.aO.length⟩:ko)).toArray) O wC O (Qj aCg) (jR.blk (i:=1) O) O)<|fun w50 qy=>aa<|aj<|qJ O wC qy (i:=1) O kR O O ⟨Z45,(qy.sub (sQ (sQ (sQ sR)))),_,rfl,aCg⟩
set_option maxHeartbeats 4000000 in
theorem yF(p:ko)(w:World)(hp:rL (Kw w) p)(hT:pc w):Calls Tryz.prog 5 #[.agg (sy p).toArray] w (Pure (B true) w):=by
 have BA:=hp.aO.small
 unfold maxLen at BA
 refine eH func5 rfl rfl fun hH=>SR<|gO hH (v:= .agg _) rfl<|fun b3 w1 bq=>va (v:=B false) rfl<|aa<|ai<|SR<|V (cC (cs:=sy _) kR O O O (bj (bq.blk (i:=0) O)))<|aH O bq (DH _ _ (hp.mono bq.kw)) (ay call9 O)<|fun w4 bY=>mB rfl<|eK 17 O (fun h7=> ?_) (fun h7=> ?_)
 .refine aF (v:=B true) rfl<|aa<|cz rfl<|SR<|aH O bY (ke _ (hT.hp bY)) (DP call11)<|fun w8 iD=>aB rfl<|aa<|aj<|oB O ?_ iD
  rfl
 refine V (cC (cs:=sy _) kR O O O (bj (bY.blk (i:=0) O)))<|aH O bY (Bd _ _ (hp.mono bY.kw)) (ay call10 O)<|fun Je cM=>V (bJ O)<|mB rfl<|aa<|bX O (fun Db=> ?_) (fun Db=> ?_)
 .refine SR<|aH O cM (ke _ (hT.hp cM)) (DP call11)<|fun Jg er=>aB rfl<|aa<|aj<|oB O ?_ er
  rfl
 refine an<|SR<|have hpo:lM p=true:=nf ‹(!lM p)=false›;?_
 obtain⟨hrs,Vz⟩:=FZ hpo
 have hcs:∀x∈p.aO,x.code.length<=1000:=fun x hx=>((am4 ‹Pd p=false›).2.2 x hx).c
 have Sr:=an4 hpo
 refine V (fA kR 0 O zX O)<|V (iN (sub:=CM _) gH O O O (cM.blk (i:=0) O) (D3 _))<|cG O (alC p.s hrs hT hp.s cM) (aL call12 O (show _=Value.nilFunc from O))<| ?_
 rintro _ w36 ⟨n21,s22,aSk,aSl,aJA,Z26,c27,rfl,aCh,aCi,auT,aJB,aJC,aJD,akX,BT⟩
 have uF:Hp _ w36 (_::(Z26++[])):=BT
 refine V (run_move bz) ?_
 refine V (bk O (v:=Pn _ _) O)<|V (bk O (v:=B _) O)<|va (v:=Pn _ _) rfl<|aB rfl<|aa<|ai<|SR<|mB rfl<|V (bJ O)<|aa<|cT rfl<|an<|ai<|SR<|V (fA kR 2 O qo O)<|V (bZ (hp.aO.sl.hp uF) kg O O (uF.cell (i:=0) O O))<|V (aD (hp.aO.sl.hp uF) O kg O)<|aF (v:=I 0) rfl<|aa<|aA<|bt (G:=Int×NP×(List bu)) (fun⟨k,s1,Z1⟩ s' w'=>(Fr (5::6::(rg 34 10 [])) _ s')/\(Hp w w' (_::Z1))/\(s' 34=I k)/\(0<=k)/\(k<=p.aO.length)/\(AI p.s p.aO k.toNat s1)/\(s1.sk=false)/\(s1.wr= .nilFunc)/\(∃lg tm HL,Z1=HL++[]/\kA [] w n21 s1 lg tm [] ct0 aJA 0 (c27+k.toNat) HL)) (fun⟨k,s1,Z1⟩=>(p.aO.length-k).toNat) ((0,s22,(Z26++[]))) ⟨Fr.refl _ _,uF,rfl,J,J,AI.start aCh aCi auT,aJB,aJC,⟨_,_,_,rfl,akX⟩⟩<| ?_
 rintro⟨k,s1,Z1⟩ aSn w39 ⟨aCj,jS,Uh,h0,hk,hN,EC,hw1,hS⟩
 obtain⟨alD,ac6,avI,avJ⟩:=aCj.w4 1 3 32 33
 obtain⟨lg1,Lh,HL,rfl,Lj⟩:=hS
 have hkc:=aJD
 refine SR<|V (aN Uh avJ)<|aa<|ai<|aG O (fun h41=> ?_) (fun h41=> ?_)
 .refine an<|ai<|aA<|SR<|have hxm:=dy (d:=dN) h0 ‹k<_›;aF Uh<|V (ah (hp.aO.sl.hp jS) kg H6 avI Uh J)<|V (dY (dv:=dN) ni (hp.aO.sl.hp jS) fw O O O J)<|lN jS (aT Hj)<|fun b44 w42 mz=>aI rfl<|bg mz (i:=0) O (dK (c':=(u3 _).toArray) O O O (yW (hp.at J J)) (mz.blk (i:=0) O) O)<|fun w45 oq=>aa<|au<|aF ac6<|V (cC (cs:=u3 _) fw O O O (bj (oq.blk (i:=0) O)))<|mI rfl<|cG O (aCe (p.aO.getD k.toNat dN) k hN.nw.ns.ok (hcs _ hxm) J J J hT (hp.at h0 ‹k<_›) (A:=[_,_]) (R:=[]) Lj oq) (bA call13 O O O)<| ?_
  rintro _ w59 ⟨aSp,s50,aSr,aSs,Z53,rfl,aJE,aSt,aSu,aJF,h58⟩
  have wH:Hp _ w59 (_::_::(Z53++[])):=h58
  refine aa<|au<| ?_
  obtain⟨-,Xx,avD,hw2,-⟩:=hN.add J J Vz hcs EC aJE
  refine V (ax Uh O J)<|mI rfl<|aa<| ?_
  refine⟨(k+1,s50,(Z53++[])),aX,aCj.u4.u4.u4,(wH.sub (sQ sR)),(aK I uD),J,J,?_,?_,?_,?_⟩
  ·(rw[show(k+1).toNat=k.toNat+1 by omega];exact Xx)
  .exact avD
  .exact hw2.trans hw1
  (rw[show(k+1).toNat=k.toNat+1 by omega,<-xW];exact⟨_,_,_,rfl,aJF⟩)
 refine a8 (id:=0) rfl<|ai<|SR<|have hkl:k.toNat=p.aO.length:=J;?_
 rw[hkl]at hN
 refine aF ac6<|cG O (O2 hT hN.nw J J (A:=[_]) (R:=[]) Lj jS) (ay call15 O)<| ?_
 rintro _ w78 ⟨afk,s65,aJg,f67,a68,j69,Gm,rfl,aJG,aSw,aSx,aSy,aSz,avK,h77⟩
 have zD:Hp _ w78 (_::(Gm++[])):=h77
 have hP:=hN.set (eu _) (aJG.go EC)
 refine V (bJ O)<|aa<|bX O (fun h82=> ?_) (fun h82=> ?_)
 .refine SR<|have hof:afk=false:=nt ‹(!afk)=true›;aF ac6<|aH O zD (ac4 avK zD (fun x hx=>(mT (dI _ hx)))) (ay call16 O)<|fun w83 kx=> ?_
  refine V (run_move bz) ?_
  refine V (bk O (v:=U _) O)<|V (bk O (v:=B _) O)<|aU rfl<|aB rfl<|aa<|SR<|V (cC (cs:=sy _) kR O O alD (bj (kx.blk (i:=0) O)))<|mU rfl<|IN O kx (sE (Kw w) p s65.wy Sr _ kx.kw hp) (aL call20 O O)<|fun v88 w89 Z91 nZ aJH=>have aJI:Hp _ w89 (_::(Z91++(Gm++[]))):=nZ.Gh (L:=[_]) (L':=(Gm++[]));have Gf:Hp _ w89 (_::(Gm++(Z91++[]))):=Hp.swz (A:=[_]) aJI;?_
  obtain⟨v96,rfl,aJJ⟩:=aJH
  refine IN O Gf (rY (Kz (Kw w) Z91) (⟨p.s,v96,p8 p.aO s65.wy p.aO.length⟩:ko) (acq hpo _ _) (fun x hx=>hcs x (Hh (eu _) hx)) _ (Gf.kz (Le.refl _) (fun x hx=>(mT (bH _ (dI _ hx))))) aJJ) (ay call14 O)<|fun aFK ae4 PB qd aCk=>have J5:Hp _ ae4 (_::(PB++(Gm++(Z91++[])))):=qd.Gh (L:=[_]) (L':=(Gm++(Z91++[])));have HC:Hp _ ae4 (_::(Gm++(PB++(Z91++[])))):=Hp.swz (A:=[_]) J5;?_
  obtain⟨aMC,v109,ao7,rfl,aMD,arn,aME,aCl⟩:=aCk
  refine V (run_move bz) ?_
  refine V (bk O O)<|V (bk O (v:=B _) O)<| ?_
  refine V (run_assign bz) ?_
  refine aB rfl<|aa<|SR<|have hbf:ao7=false:=(by cases Ip:ao7 with|false=>rfl|true=>exact absurd (aCl.1 Ip) (atx hP hof Sr));mB rfl<|mB rfl<|cF O (bR (c:=true) ((hP.sk.trans (by rw[hof];rfl))))<|mB rfl<|V (bJ O)<|mB rfl<|mB rfl<|cF O (bR (c:=true) ((by rw[hbf];rfl)))<|aH O HC (ke _ (hT.hp HC)) (DP call11)<|fun alp wO=>mB rfl<|aB rfl<|aa<|aj<|oB O ?_ wO
  rfl
 refine an<|ai<|SR<|have hot:afk=true:=nf ‹(!afk)=false›;have hsz:=(zf hrs).1;have hvl:s65.ak.length=p.s.vars.length:=hP.net.np.nv;have QL:s65.bp.length=s65.ak.length:=hP.net.nw.ns.ok.QL;V (fA kR 0 O zX alD)<|V (fA gH 1 O uz O)<|V (bZ (hp.s.vars.sl.hp zD) l6 O O (zD.cell (i:=0) O O))<|V (aD (hp.s.vars.sl.hp zD) O l6 O)<|aF (v:=I 0) rfl<|aa<|aA<|bt (G:=Int×(List bu)) (fun⟨i,Z2⟩ s' w'=>(Fr (2::(rg 11 4 (rg 71 33 []))) _ s')/\(Hp w w' (_::Z2))/\(s' 71=I i)/\(0<=i)/\(i<=p.s.vars.length)/\(Z2=Gm++[])) (fun⟨i,Z2⟩=>(p.s.vars.length-i).toNat) ((0,(Gm++[]))) ⟨Fr.refl _ _,zD,rfl,J,J,rfl⟩<| ?_
 rintro⟨i,Z2⟩ aMF aB1 ⟨ac7,E2,HH,i0,hi,hz2⟩
 obtain⟨apg,aph⟩:=ac7.w2 69 70
 obtain⟨avL,alE⟩:=ac7.t2 1 alD 3 ac6
 subst hz2
 refine SR<|V (aN HH aph)<|aa<|ai<|aG O (fun aJK=> ?_) (fun aJK=> ?_)
 .refine an<|ai<|aA<|SR<|aF HH<|V (ah (hp.s.vars.sl.hp E2) l6 Fm apg HH J)<|V (dY (dv:=fq) tN (hp.s.vars.sl.hp E2) o8 O O O J)<|lN E2 (aT Tryz.zeroValue63)<|fun aa0 aox oe=>aI rfl<|bg oe (i:=0) O (dK (c':=(O8 _).toArray) O O O LX (oe.blk (i:=0) O) O)<|fun ayT JZ=>aa<|ai<|fX aQ JZ (sP (sP (sA sR)))<|fun aGL DA=>have alF:=DA.sub (sP (sP (sA sR)));AT 0 O alF (fun w hS=>cC (cs:=sy _) kR O O avL (bj (hS.blk (i:=1) O)))<|AQ 1 O alF (run_move alE)<|AQ 2 O alF (mV (I _) O)<|A1 3<|cm O aC O DA (sP (sP (sA sR))) (arH _ avK DA (fun x hx=>(mT (mT (dI _ hx))))) (aL call21 O O)<|fun azL OL=>A1 4<|SH O aC O OL (sP (sP (sA sR))) (sE (Kw w) p (if 0<=i/\i<(s65.bp.length:Int)then s65.bp.getD i.toNat 0 else 0) Sr _ OL.kw hp) (aL call20 O O)<|fun aSD ao3 aa5 DB aCm=>have aCn:Hp _ ao3 (_::_::(aa5++(Gm++[]))):=DB.Gh (L:=[_,_]) (L':=(Gm++[]));have arK:Hp _ ao3 (_::_::(Gm++(aa5++[]))):=Hp.swz (A:=[_,_]) aCn;?_
  obtain⟨aJL,rfl,aCo⟩:=aCm
  refine A1 5<|SH O aC O arK (sP (sP (sA (sA sR)))) (rY (Kz (Kw w) aa5) (⟨p.s,aJL,p8 p.aO (if 0<=i/\i<(s65.bp.length:Int)then s65.bp.getD i.toNat 0 else 0) p.aO.length⟩:ko) (acq hpo _ _) (fun x hx=>hcs x (Hh (eu _) hx)) _ (arK.kz (Le.refl _) (fun x hx=>(mT (mT (bH _ (dI _ hx)))))) aCo) (ay call14 O)<|fun v146 avo avM acV aCp=>have Dr:Hp _ avo (_::_::(avM++(Gm++(aa5++[])))):=acV.Gh (L:=[_,_]) (L':=(Gm++(aa5++[])));have DC:Hp _ avo (_::_::(Gm++(avM++(aa5++[])))):=Hp.swz (A:=[_,_]) Dr;?_
  obtain⟨aCq,TQ,aJM,rfl,aCr,aCs,aMG,aCt⟩:=aCp
  have Xy:=DC.sub (sP (sP (sA (sA (sA sR)))))
  refine AQ 6 O Xy (run_move bz) ?_
  refine AQ 7 O Xy (bk O O)<|AQ 8 O Xy (bk O (v:=B _) O)<| ?_
  refine AQ 9 O Xy (run_assign bz) ?_
  refine AQ 10 O Xy (aV (B _) O)<|AD<|ai<|have Ur:=atw hP hot Sr i0 ‹i<_› (a:=(if 0<=i/\i<(s65.bp.length:Int)then s65.bp.getD i.toNat 0 else 0)) (aY ⟨i0,J⟩);have hbt:aJM=true:=aCt.2 Ur.1;have hln:TQ.length=p.s.vars.length:=aCs;have hv2:oE (Kz (Kw w) (avM++(aa5++[]))) aCq 8 TQ.length (TQ.flatMap pM):=aCr.mono (Le.trans Le.kk (Le.zz fun x hx=>by simpa using hx));fX aQ DC (sP (sP (sA sR)))<|fun aSE lE=>have ac8:=lE.sub (sP (sP (sA sR)));AQ 0 O ac8 (mV (B _) O)<|AQ 1 O ac8 (bJ O)<|AQ 2 O ac8 (mV (B _) O)<|AG 3 O O (bR (c:=false) (Cw)) (lE.sub (sP (sP (sA sR)))) (fun w hS=>fA o8 1 O aP O)<|AG 4 O O (bR (c:=false) (Cw)) (lE.sub (sP (sP (sA sR)))) (fun w hS=>aE bx O O (hS.cell (i:=0) O (v:=I _) O))<|AG 5 O O (bR (c:=false) (Cw)) (lE.sub (sP (sP (sA sR)))) (fun w hS=>bW O O)<|AG 6 O O (bR (c:=false) (Cw)) (lE.sub (sP (sP (sA sR)))) (fun w hS=>mV (B _) O)<|CC (dj:=91) O (fun yG=> ?_) (fun yG=> ?_)
  .refine AG 7 O O (bT yG) (lE.sub (sP (sP (sA sR)))) (fun w hS=>run_move alE)<|AG 8 O O (bT yG) (lE.sub (sP (sP (sA sR)))) (fun w hS=>mV (I _) O)<| ?_
   refine AG 10 O O (bT yG) (lE.sub (sP (sP (sA sR)))) (fun w hS=>run_move bz) ?_
   refine AG 11 O O (bT yG) (lE.sub (sP (sP (sA sR)))) (fun w hS=>mV (I _) O)<|AG 12 O O (bT yG) (lE.sub (sP (sP (sA sR)))) (fun w hS=>ah (hv2.mono (hS.kz (Le.refl _) (fun x hx=>(mT (mT hx))))).sl bU fl O O J)<|AG 13 O O (bT yG) (lE.sub (sP (sP (sA sR)))) (fun w hS=>gy (hv2.mono (hS.kz (Le.refl _) (fun x hx=>(mT (mT hx))))).sl bI O O O J)<|A1 9<|cm O (yM O (bT yG)) O lE (sP (sP (sA sR))) (ac3 _ avK lE (fun x hx=>(mT (mT (dI _ hx))))) (aL call23 O O)<|fun aIm DF=>A1 14<|cm O (yM O (bT yG)) O DF (sP (sP (sA sR))) (lD _ _ _) (aL call22 O O)<|fun ayV BD=>AG 15 O O (bT yG) (BD.sub (sP (sP (sA sR)))) (fun w hS=>bJ O)<|AG 16 O O (bR (c:=false) (Cw)) (BD.sub (sP (sP (sA sR)))) (fun w hS=>gN (bT yG) (v:=B _) O)<|have aCu:=BD.sub (sP (sP (sA sR)));AQ 17 O aCu (dR (bR (c:=false) (Cw)) (v:=B _) O)<|AD<|cT (bR (c:=false) ((by rw[aY ⟨i0,J⟩,Ur.2 _ jK ‹(List.getD p.s.vars _ _).kind=1›];rfl)))<|an<|au<|have aCv:Hp _ _ (_::_::(Gm++[])):=BD.sub (sP (sP (RA sR (List.nil_sublist _))));V (ax HH O J)<|mI rfl<|aa<| ?_
   refine⟨(i+1,(Gm++[])),aX,ac7.u4.u4.u4.u4.u4.u4.u4.u4.u4.u1,(aCv.sub (sQ sR)),(aK I uD),J,J,aM⟩
  refine AK 7 O O (bF yG) (lE.sub (sP (sP (sA sR))))<|AK 8 O O (bF yG) (lE.sub (sP (sP (sA sR))))<|AK 9 O O (bF yG) (lE.sub (sP (sP (sA sR))))<|AK 10 O O (bF yG) (lE.sub (sP (sP (sA sR))))<|AK 11 O O (bF yG) (lE.sub (sP (sP (sA sR))))<|AK 12 O O (bF yG) (lE.sub (sP (sP (sA sR))))<|AK 13 O O (bF yG) (lE.sub (sP (sP (sA sR))))<|AK 14 O O (bF yG) (lE.sub (sP (sP (sA sR))))<|AK 15 O O (bF yG) (lE.sub (sP (sP (sA sR))))<|AG 16 O O (bR (c:=false) (Cw)) (lE.sub (sP (sP (sA sR)))) (fun w hS=>dR (bF yG) (v:=B false) O)<|AQ 17 O ac8 (dR (bR (c:=false) (Cw)) (v:=B _) O)<|AD<|cT rfl<|an<|au<|have acW:Hp _ _ (_::_::(Gm++[])):=lE.sub (sP (sP (RA sR (List.nil_sublist _))));V (ax HH O J)<|mI rfl<|aa<| ?_
  refine⟨(i+1,(Gm++[])),aX,ac7.u4.u4.u4.u4.u4.u4.u4.u4.u4.u1,(acW.sub (sQ sR)),(aK I uD),J,J,aM⟩
 refine a8 (id:=2) rfl<|SR<|aH O E2 (ke _ (hT.hp E2)) (DP call11)<|fun aFT OE=>aB rfl<|aa<|aj<|oB O ?_ OE
 rfl
end
end Go.Proofs.YtlhjdflgjbkpmaaGreatDoor.W

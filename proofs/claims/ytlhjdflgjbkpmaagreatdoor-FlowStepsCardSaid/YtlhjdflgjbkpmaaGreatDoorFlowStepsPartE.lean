/- Part 5 of the proof of FlowSteps: its plain laws and the walks of its functions. -/
import Derived.Test.YtlhjdflgjbkpmaaGreatDoorFlowStepsPartD
set_option linter.all false
namespace Go.Proofs.YtlhjdflgjbkpmaaGreatDoor.W
section
open Go Go.RowKit Go.Proofs.YtlhjdflgjbkpmaaGreatDoor.E Go.Proofs.YtlhjdflgjbkpmaaGreatDoor.M
set_option maxRecDepth 100000
open Go.Proofs.Tryz
variable{fr:List bu}
set_option maxHeartbeats 1000000 in
theorem AZ(s:lM)(x:iO)(w:World)(hs:D4 (Kw w) s)(hx:J8 (Kw w) x):Calls Tryz.prog 35 #[.agg (IM s),.agg (uR x).toArray] w (Pure (B (kO s x)) w):=by
 have B0:=hs.aq.sl.small
 have Ke:=hs.vars.sl.small
 unfold maxLen at B0 Ke
 have hm3:=hx.code.small
 unfold maxLen at hm3
 refine eH func35 rfl rfl fun hH=>SR<|gN hH (v:= .agg _) rfl<|fun b3 w1 bp=>gN bp (v:= .agg _) rfl<|fun b6 w4 bY=>va (v:=B false) rfl<|aa<|ai<|SR<|V (fA fg 0 O aO O)<|lI bx bY 0 O O rfl<|V (bV O O)<|aa<|aF O (fun h8=> ?_) (fun h8=> ?_)
 .refine SR<|V (cA (cs:=CE _) gI O O O (bj (bY.blk (i:=1) O)))<|V (fA fg 16 O aO O)<|lI bx bY 0 O O rfl<|V (fA fg 1 O aO O)<|lI bx bY 0 O O rfl<|aH O bY (kJ _ _ _ _ _ (hs.mono bY.kw)) (jH call76 O O (show _=I 2 from O) O)<|fun w9 cg=>mB rfl<|ez 16 O (fun h12=> ?_) (fun h12=> ?_)
  .refine V (fA fg 17 O kr O)<|V (aG iy O O (cg.cell (i:=0) O (v:= .string _) O))<|aH O cg (iK _ _) (ay call74 O)<|fun C2 cG=>mB rfl<|aB rfl<|aa<|aj<|oB O ?_ cG
   (rw[ahK ‹x.op=10›,‹rf s x.var 2 x.bf=true›,mF];done)
  refine aE (v:=B false) rfl<|aB rfl<|aa<|aj<|oB O ?_ cg
  (rw[ahK ‹x.op=10›,‹rf s x.var 2 x.bf=false›,qW];done)
 refine an<|ai<|SR<|V (fA fg 1 O aO O)<|lI bx bY 0 O O rfl<|V (aN O O)<|mB rfl<|bK 24 O (fun G9=> ?_) (fun G9=> ?_)
 .refine aE (v:=B true) rfl<|aa<|ct rfl<|SR<|va (v:=B false) rfl<|aa<|aj<|oB O ?_ bY
  (rw[ahL J J];done)
 refine V (fA fg 1 O aO O)<|lI bx bY 0 O O rfl<|V (fA gI 0 O oo O)<|V (bZ (hs.aq.sl.hp bY) ji O O (bY.cell (i:=1) O O))<|V (aC (hs.aq.sl.hp bY) O ji O)<|V (dF O O)<|mB rfl<|aa<|aF O (fun N3=> ?_) (fun N3=> ?_)
 .refine SR<|va (v:=B false) rfl<|aa<|aj<|oB O ?_ bY
  (rw[ahL J J];done)
 refine an<|ai<|SR<|V (fA fg 0 O aO O)<|lI bx bY 0 O O rfl<|V (bV O O)<|aa<|aF O (fun Ob=> ?_) (fun Ob=> ?_)
 .refine SR<|V (cA (cs:=CE _) gI O O O (bj (bY.blk (i:=1) O)))<|V (fA fg 1 O aO O)<|lI bx bY 0 O O rfl<|V (fA fg 12 O HT O)<|V (iN (sub:=SE _) qb O O O (bY.blk (i:=0) O) (ar4 _))<|aH O bY (rO _ _ _ J _ (hs.mono bY.kw) (hx.a.mono bY.kw)) (bz call77 O O O)<|fun QV eM=>mB rfl<|ez 41 O (fun Jc=> ?_) (fun Jc=> ?_)
  .refine V (cA (cs:=CE _) gI O O O (bj (eM.blk (i:=1) O)))<|V (fA fg 1 O aO O)<|lI bx eM 0 O O rfl<|V (fA fg 14 O HT O)<|V (iN (sub:=SE _) qb O O O (eM.blk (i:=0) O) (ar5 _))<|aH O eM (rO _ _ _ J _ (hs.mono eM.kw) (hx.b.mono eM.kw)) (bz call77 O O O)<|fun Wx dK=>mB rfl<|aB rfl<|aa<|aj<|oB O ?_ dK
   (rw[apu ‹x.op=9› (show 0<=x.bf/\x.bf<s.aq.length by omega),‹vX s x.bf x.a=true›,mF];done)
  refine aE (v:=B false) rfl<|aB rfl<|aa<|aj<|oB O ?_ eM
  (rw[apu ‹x.op=9› (show 0<=x.bf/\x.bf<s.aq.length by omega),‹vX s x.bf x.a=false›,qW];done)
 refine an<|ai<|SR<|V (fA fg 0 O aO O)<|lI bx bY 0 O O rfl<|V (jZ O O)<|mB rfl<|bK 52 O (fun Pj=> ?_) (fun Pj=> ?_)
 .refine aE (v:=B true) rfl<|mB rfl<|cC O rfl<|aE (v:=B true) rfl<|aa<|ct rfl<|SR<|va (v:=B false) rfl<|aa<|aj<|oB O ?_ bY
  (rw[aw0 J J J];done)
 refine V (fA fg 2 O xW O)<|V (bZ (hx.code.sl.hp bY) ia O O (bY.cell (i:=0) O O))<|aH O bY (rN _ _ _ (hx.code.sl.hp bY)) (ay call78 O)<|fun w31 iC=>V (bJ O)<|mB rfl<|mB rfl<|ez 58 O (fun BK=> ?_) (fun BK=> ?_)
 .refine aE (v:=B true) rfl<|aa<|ct rfl<|SR<|va (v:=B false) rfl<|aa<|aj<|oB O ?_ iC
  (rw[Qh (show x.op=8 by omega) (show 0<=x.bf/\x.bf<s.aq.length by omega),ahI (nt ‹(!fU _)=true›),qW];done)
 refine V (cA (cs:=CE _) gI O O O (bj (iC.blk (i:=1) O)))<|V (fA fg 1 O aO O)<|lI bx iC 0 O O rfl<|V (fA fg 3 O kQ O)<|V (iN (sub:=jJ _) kM O O O (iC.blk (i:=0) O) (abx _))<|aH O iC (mq _ _ _ J _ (hs.mono iC.kw)) (bz call79 O O O)<|fun w36 uw=>V (bJ O)<|mB rfl<|aa<|bW O (fun h40=> ?_) (fun h40=> ?_)
 .refine SR<|va (v:=B false) rfl<|aa<|aj<|oB O ?_ uw
  (rw[Qh (show x.op=8 by omega) (show 0<=x.bf/\x.bf<s.aq.length by omega),nt ‹(!mh s x.bf x.to)=true›,Li];done)
 refine an<|ai<|SR<|va (v:=I 0) rfl<|aa<|aA<|bt (G:=Int) (fun k s' w'=>(Fr (rg 4 3 (rg 67 42 [])) _ s')/\(Hp w w' _)/\(s' 5=I k)/\(0<=k)/\(k<=x.code.length)/\(∀j:Int,0<=j->j<k->vY s x.bf (x.code.getD j.toNat bG)=true)) (fun k=>(x.code.length-k).toNat) (0) ⟨Fr.refl _ _,uw,rfl,J,J,fun j a b=>absurd b J⟩<| ?_
 rintro k aFd w41 ⟨WN,jU,EU,h0,hk,hg⟩
 obtain⟨aj9,Oq⟩:=WN.w2 2 3
 refine ai<|SR<|aE EU<|V (fA fg 2 O xW Oq)<|V (bZ (hx.code.sl.hp jU) ia O O (jU.cell (i:=0) O O))<|V (aC (hx.code.sl.hp jU) O ia O)<|V (aN O O)<|aa<|aF O (fun h43=> ?_) (fun h43=> ?_)
 .refine an<|ai<|aA<|SR<|V (fA fg 2 O xW Oq)<|V (bZ (hx.code.sl.hp jU) ia O O (jU.cell (i:=0) O O))<|aE EU<|V (ah (hx.code.sl.hp jU) ia po O O J)<|V (dZ (dv:=bG) gP (hx.code.sl.hp jU) dY O O O J)<|lK jU (aS y8)<|fun b46 w44 rY=>bk rY (i:=0) O (dO (c':=(kg _).toArray) O O O (vV _) (rY.blk (i:=0) O) O)<|fun w47 jB=>aa<|ai<|ed aP jB<|fun w49 eL=>have aaw:=eL;AQ 0 O aaw (fA dY 0 O aO O)<|tI 1 O aaw bx 0 O O rfl<|AQ 2 O aaw (bV O O)<|AQ 3 O aaw (mV (B _) O)<|Cu (dj:=82) O (fun WQ=> ?_) (fun WQ=> ?_)
  .refine AG 4 O O (bT WQ) eL (fun w hS=>cA (cs:=CE _) gI O O aj9 (bj (hS.blk (i:=2) O)))<|BQ 5 O O (bT WQ) eL (fA dY 1 O aO O)<|AG 6 O O (bT WQ) eL (fun w hS=>aG bx O O (hS.cell (i:=0) O (v:=I _) O))<|BQ 7 O O (bT WQ) eL (fA fg 1 O aO Oq)<|AG 8 O O (bT WQ) eL (fun w hS=>aG bx O O (hS.cell (i:=1) O (v:=I _) O))<|A1 9<|cw O (A8 O (bT WQ)) O eL sR (kJ _ _ _ _ _ (hs.mono eL.kw)) (jH call76 O O (show _=I 1 from O) O)<|fun w53 gR=>BQ 10 O O (bT WQ) gR (bJ O)<|have aok:=gR;AQ 11 O aok (gM (bT WQ) (v:=B _) O)<|AQ 12 O aok (mV (B _) O)<|L4 (dj:=91) O (fun Pu=> ?_) (fun Pu=> ?_)
   .refine AK 13 O O (bR (c:=true) Pu) gR<|AK 14 O O (bR (c:=true) Pu) gR<|AK 15 O O (bR (c:=true) Pu) gR<|AK 16 O O (bR (c:=true) Pu) gR<|AU 17 O O O gR<|AU 18 O O O gR<|AU 19 O O O gR<|AU 20 O O O gR<|AU 21 O O O gR<|AU 22 O O O gR<|AU 23 O O O gR<|AU 24 O O O gR<|AU 25 O O O gR<|AU 26 O O O gR<|AU 27 O O O gR<|AK 28 O O (bR (c:=true) Pu) gR<|AQ 29 O aok (gM (bR (c:=true) Pu) (v:=B true) O)<|AD<|ct rfl<|SR<|va (v:=B false) rfl<|aa<|aj<|oB O ?_ gR
    (rw[Qh (show x.op=8 by omega) (show 0<=x.bf/\x.bf<s.aq.length by omega),M5 h0 ‹k<_› (amK ‹(List.getD x.code _ _).op=1› (nt ‹(!rf s _ 1 x.bf)=true›)),qW];done)
   refine BQ 13 O O (bR (c:=false) Pu) gR (fA dY 0 O aO O)<|AG 14 O O (bR (c:=false) Pu) gR (fun w hS=>aG bx O O (hS.cell (i:=0) O (v:=I _) O))<|BQ 15 O O (bR (c:=false) Pu) gR (bV O O)<|BQ 16 O O (bR (c:=false) Pu) gR (mV (B _) O)<|Cu (dj:=95) O (fun Kp=> ?_) (fun Kp=> ?_)
   .refine BQ 17 O O (bT Kp) gR (fA gI 0 O oo aj9)<|AG 18 O O (bT Kp) gR (fun w hS=>bZ (hs.aq.sl.hp hS) ji O O (hS.cell (i:=2) O O))<|BQ 19 O O (bT Kp) gR (fA fg 1 O aO Oq)<|AG 20 O O (bT Kp) gR (fun w hS=>aG bx O O (hS.cell (i:=1) O (v:=I _) O))<|AG 21 O O (bT Kp) gR (fun w hS=>ah (hs.aq.sl.hp hS) ji xV O O J)<|BQ 22 O O (bT Kp) gR (fA sB 1 O vi O)<|AG 23 O O (bT Kp) gR (fun w hS=>l7 (dv:=mJ) (off:=1) (cs:=yd _) oz (hs.aq.sl.hp hS) dw O O O J (Ac _))<|BQ 24 O O (bT Kp) gR (fA dY 2 O fl O)<|AG 25 O O (bT Kp) gR (fun w hS=>nr bI O O O (hS.blk (i:=0) O) (DR _))<|A1 26<|cw O (A8 O (bT Kp)) O gR sR (nT _ _ _ ((hs.at J J).mono gR.kw)) (aM call80 O O)<|fun w60 Ef=>BQ 27 O O (bT Kp) Ef (bJ O)<|BQ 28 O O (bR (c:=false) Pu) Ef (gM (bT Kp) (v:=B _) O)<|have aFf:=Ef;AQ 29 O aFf (ep (bR (c:=false) Pu) (v:=B _) O)<|AD<|bW O (fun h64=> ?_) (fun h64=> ?_)
    .refine SR<|va (v:=B false) rfl<|aa<|aj<|oB O ?_ Ef
     (rw[Qh (show x.op=8 by omega) (show 0<=x.bf/\x.bf<s.aq.length by omega),M5 h0 ‹k<_› (abB ‹(List.getD x.code _ _).op=2› (nt ‹(!cJ _ _)=true›)),qW];done)
    refine an<|au<|aE EU<|V (ax O O J)<|aI rfl<|aa<| ?_
    refine⟨k+1,aW,WN.u4.u4.u4.u4.u4.u4.u4.u4.u4.u4.u4,(Ef.sub (sQ sR)),(aK I aL),J,J,?_⟩
    exact fun j a b=>if e:j=k then e▸K2 afR (by exact .inr (nf ‹(!cJ _ _)=false›))else hg j a J
   refine AK 17 O O (bF Kp) gR<|AK 18 O O (bF Kp) gR<|AK 19 O O (bF Kp) gR<|AK 20 O O (bF Kp) gR<|AK 21 O O (bF Kp) gR<|AK 22 O O (bF Kp) gR<|AK 23 O O (bF Kp) gR<|AK 24 O O (bF Kp) gR<|AK 25 O O (bF Kp) gR<|AK 26 O O (bF Kp) gR<|AK 27 O O (bF Kp) gR<|BQ 28 O O (bR (c:=false) Pu) gR (ep (bF Kp) (v:=B false) O)<|AQ 29 O aok (ep (bR (c:=false) Pu) (v:=B _) O)<|AD<|cL rfl<|an<|au<|aE EU<|V (ax O O J)<|aI rfl<|aa<| ?_
   refine⟨k+1,aW,WN.u4.u4.u4.u4.u4.u4.u4.u4.u4.u4.u4,(gR.sub (sQ sR)),(aK I aL),J,J,?_⟩
   exact fun j a b=>if e:j=k then e▸K2 afR (by exact .inl ‹¬(List.getD x.code _ _).op=2›)else hg j a J
  refine AK 4 O O (bF WQ) eL<|AK 5 O O (bF WQ) eL<|AK 6 O O (bF WQ) eL<|AK 7 O O (bF WQ) eL<|AK 8 O O (bF WQ) eL<|AK 9 O O (bF WQ) eL<|AK 10 O O (bF WQ) eL<|AQ 11 O aaw (ep (bF WQ) (v:=B false) O)<|AQ 12 O aaw (mV (B _) O)<|BQ 13 O O O eL (fA dY 0 O aO O)<|AG 14 O O O eL (fun w hS=>aG bx O O (hS.cell (i:=0) O (v:=I _) O))<|BQ 15 O O O eL (bV O O)<|BQ 16 O O O eL (mV (B _) O)<|Cu (dj:=95) O (fun Hh=> ?_) (fun Hh=> ?_)
  .refine BQ 17 O O (bT Hh) eL (fA gI 0 O oo aj9)<|AG 18 O O (bT Hh) eL (fun w hS=>bZ (hs.aq.sl.hp hS) ji O O (hS.cell (i:=2) O O))<|BQ 19 O O (bT Hh) eL (fA fg 1 O aO Oq)<|AG 20 O O (bT Hh) eL (fun w hS=>aG bx O O (hS.cell (i:=1) O (v:=I _) O))<|AG 21 O O (bT Hh) eL (fun w hS=>ah (hs.aq.sl.hp hS) ji xV O O J)<|BQ 22 O O (bT Hh) eL (fA sB 1 O vi O)<|AG 23 O O (bT Hh) eL (fun w hS=>l7 (dv:=mJ) (off:=1) (cs:=yd _) oz (hs.aq.sl.hp hS) dw O O O J (Ac _))<|BQ 24 O O (bT Hh) eL (fA dY 2 O fl O)<|AG 25 O O (bT Hh) eL (fun w hS=>nr bI O O O (hS.blk (i:=0) O) (DR _))<|A1 26<|cw O (A8 O (bT Hh)) O eL sR (nT _ _ _ ((hs.at J J).mono eL.kw)) (aM call80 O O)<|fun w67 kG=>BQ 27 O O (bT Hh) kG (bJ O)<|BQ 28 O O O kG (gM (bT Hh) (v:=B _) O)<|have TE:=kG;AQ 29 O TE (ep O (v:=B _) O)<|AD<|bW O (fun h71=> ?_) (fun h71=> ?_)
   .refine SR<|va (v:=B false) rfl<|aa<|aj<|oB O ?_ kG
    (rw[Qh (show x.op=8 by omega) (show 0<=x.bf/\x.bf<s.aq.length by omega),M5 h0 ‹k<_› (abB ‹(List.getD x.code _ _).op=2› (nt ‹(!cJ _ _)=true›)),qW];done)
   refine an<|au<|aE EU<|V (ax O O J)<|aI rfl<|aa<| ?_
   refine⟨k+1,aW,WN.u4.u4.u4.u4.u4.u4.u4.u4.u4.u4.u4,(kG.sub (sQ sR)),(aK I aL),J,J,?_⟩
   exact fun j a b=>if e:j=k then e▸K2 afV (by exact .inr (nf ‹(!cJ _ _)=false›))else hg j a J
  refine AK 17 O O (bF Hh) eL<|AK 18 O O (bF Hh) eL<|AK 19 O O (bF Hh) eL<|AK 20 O O (bF Hh) eL<|AK 21 O O (bF Hh) eL<|AK 22 O O (bF Hh) eL<|AK 23 O O (bF Hh) eL<|AK 24 O O (bF Hh) eL<|AK 25 O O (bF Hh) eL<|AK 26 O O (bF Hh) eL<|AK 27 O O (bF Hh) eL<|BQ 28 O O O eL (ep (bF Hh) (v:=B false) O)<|AQ 29 O aaw (ep O (v:=B _) O)<|AD<|cL rfl<|an<|au<|aE EU<|V (ax O O J)<|aI rfl<|aa<| ?_
  refine⟨k+1,aW,WN.u4.u4.u4.u4.u4.u4.u4.u4.u4.u4.u4,(eL.sub (sQ sR)),(aK I aL),J,J,?_⟩
  exact fun j a b=>if e:j=k then e▸K2 afV (by exact .inl ‹¬(List.getD x.code _ _).op=2›)else hg j a J
 refine a8 (id:=0) rfl<|SR<|va (v:=B true) rfl<|aa<|aj<|oB O ?_ jU
 (rw[Qh (show x.op=8 by omega) (show 0<=x.bf/\x.bf<s.aq.length by omega),adY ‹¬k<_› hg (nf ‹(!fU _)=false›),nf ‹(!mh s x.bf x.to)=false›];rfl)
theorem De(s:kR)(op:Int)(v:Value)(l:List El)(hne:1<=l.length)(w:World)(hs:Sl w v 8 l.length (l.flatMap pJ))(hsh:k8 (Kw w) s)(hT:o6 w):Calls Tryz.prog 139 #[.agg (qL s),I op,v] w (Pure (.agg (iM (pK (J9 s.sh op) l))) w):=by
 have hm:=hs.small
 unfold maxLen at hm
 refine eH func139 rfl rfl fun hH=>SR<|gN hH (v:= .agg _) rfl<|fun b3 w1 bp=>lK bp (aS eZ)<|fun b6 w4 bY=>aa<|SR<| ?_
 refine V (run_move bA) ?_
 refine V (run_move bA) ?_
 refine V (aC (hs.hp bY) O bU O)<|V (eO O O J)<|V (ah (hs.hp bY) bU fl O O J)<|V (gz (hs.hp bY) bI O O O J)<|lK bY (aS eZ)<|fun b9 w7 eW=>bk eW (i:=0) O (cR O O O (eW.blk (i:=0) O))<|fun EL df=>aa<|ai<|SR<| ?_
 refine V (run_move bA) ?_
 refine V (aC (hs.hp df) O bU O)<|V (eO O O J)<|aI rfl<|aa<|aA<|bt (G:=Int×El) (fun⟨k,e1⟩ s' w'=>(Fr (8::(rg 18 19 [])) _ s')/\(Hp w w' (.blk b9 (.cells (iM e1) 37 (0,0))::_))/\(s' 8=I k)/\(-1<=k)/\(k<=(l.length:Int)-2)/\(e1=pK (J9 s.sh op) (l.drop (k+1).toNat))) (fun⟨k,e1⟩=>(k+1).toNat) (((l.length:Int)-2,(l.getD ((l.length:Int)-1).toNat dg))) ⟨Fr.refl _ _,df,rfl,J,J,(by rw[show((l.length:Int)-2+1).toNat=l.length-1 by omega,M3 (by intro h;rw[h]at hne;simp at hne)];congr 1;omega)⟩<| ?_
 rintro⟨k,e1⟩ aab zc ⟨mj,cP,N7,h0,hk,he⟩
 obtain⟨pe,zg,kP,aqt,WR⟩:=mj.w5 1 2 3 6 7
 refine ai<|SR<|aE N7<|V (dF O O)<|aa<|aF O (fun Ga=> ?_) (fun Ga=> ?_)
 .refine an<|ai<|aA<|ai<|SR<|aE pe<|V (bV O O)<|aa<|aF O (fun ym=> ?_) (fun ym=> ?_)
  .refine ai<|gp aP cP (sQ sR)<|fun Tp dP=>have qR:=dP.sub (sQ sR);AT 0 O qR (fun w hS=>cA (cs:=[B _,_]) dw O O kP (bj (hS.blk (i:=1) O)))<|AQ 1 O qR (run_move zg)<|AQ 2 O qR (run_move N7)<|AT 3 O qR (fun w hS=>ah (hs.hp hS) bU fl O O J)<|AT 4 O qR (fun w hS=>gz (hs.hp hS) bI O O O J)<|A1 5<|cf O aD O dP (sQ sR) (cN bI O O WR (dP.blk (i:=0) O))<|A1 6<|cw O aD O dP (sQ sR) (Tw _ _ _ _ (hsh.mono dP.kw) (hT.hp dP)) (bz call170 O O O)<|fun NU cF=>A1 7<|ef O aD cF (j:=0) O (sQ sR) (cR O WR O (cF.blk (i:=0) O))<|fun w25 jg=>AD<|a8 (id:=1) rfl<|au<|aE N7<|V (eO O O J)<|aI rfl<|aa<| ?_
   refine⟨(k-1,_),aW,mj.u4.u4.u4.u1.u1,jg,(aK I aL),J,J,?_⟩
   (rw[show(k-1+1).toNat=k.toNat by omega,K0 J J,<-he];exact aps ‹op=3›)
  refine an<|gp aP cP (sQ sR)<|fun w27 iJ=>have aaa:=iJ.sub (sQ sR);AQ 0 O aaa (run_move zg)<|AQ 1 O aaa (run_move N7)<|AT 2 O aaa (fun w hS=>ah (hs.hp hS) bU fl O O J)<|AT 3 O aaa (fun w hS=>gz (hs.hp hS) bI O O O J)<|A1 4<|cf O aD O iJ (sQ sR) (cN bI O O WR (iJ.blk (i:=0) O))<|A1 5<|cw O aD O iJ (sQ sR) (Ty _ _ _) (aM call171 O O)<|fun w31 iC=>A1 6<|ef O aD iC (j:=0) O (sQ sR) (cR O WR O (iC.blk (i:=0) O))<|fun w35 j7=>AD<|au<|aE N7<|V (eO O O J)<|aI rfl<|aa<| ?_
  refine⟨(k-1,_),aW,mj.u4.u4.u4.u1,j7,(aK I aL),J,J,?_⟩
  (rw[show(k-1+1).toNat=k.toNat by omega,K0 J J,<-he];exact apt ‹¬op=3›)
 refine a8 (id:=0) rfl<|SR<|V (cN bI O O WR (cP.blk (i:=0) O))<|bk cP (i:=1) O (cR O aqt O (cP.blk (i:=1) O))<|fun w37 ux=>aa<|aj<|rz O aqt ux (i:=1) O bI O jL ⟨?_,ux.below⟩
 (exact aK Value.agg (l8 (by rw[he,show(k+1).toNat=0 by omega];exact fun _ _=>rfl)))
set_option maxHeartbeats 1000000 in
theorem WS(s:kR)(v:Value)(l:List dV)(u:Value)(vs:List El)(hl:l.length<=1000)(w:World)(hs:Sl w v 10 l.length (l.flatMap kg))(ht:Sl w u 8 vs.length (vs.flatMap pJ))(hsh:k8 (Kw w) s)(hT:o6 w):Calls Tryz.prog 96 #[.agg (qL s),v,u] w (Pure (.tuple #[.agg (iM (ey s.sh l vs).1),B (ey s.sh l vs).2]) w):=by
 have hm:=hs.small
 unfold maxLen at hm
 have Ke:=ht.small
 unfold maxLen at Ke
 refine eH func96 rfl rfl fun hH=>SR<|gN hH (v:= .agg _) rfl<|fun b3 w1 bp=>lK bp (aS eZ)<|fun b6 w4 bY=>va (v:=B false) rfl<|aa<|ai<|SR<| ?_
 refine V (run_move bA) ?_
 refine aH O bY (Hf _ _ _ (hs.hp bY)) (ay call103 O)<|fun w7 eW=>V (bJ O)<|aa<|bW O (fun h11=> ?_) (fun h11=> ?_)
 .refine SR<|V (dI (vs:=[]) O (oV))<|bk eW (i:=0) O (cR O O O (eW.blk (i:=0) O))<|fun zc bX=>va (v:=B false) rfl<|aa<|aj<|EA O O O bX (i:=0) O bI O jL ⟨?_,bX.below⟩
  (rw[apr (nt ‹(!fU l)=true›)];rfl)
 refine an<|SR<|va (v:= .slice none 0 0) rfl<|have cG:=eW.eR 37 8;aa<|ai<|SR<| ?_
 refine V (run_move bA) ?_
 refine V (aC (hs.hp cG) O ia O)<|aE (v:=I 0) rfl<|aa<|aA<|have hr:fU l=true:=nf ‹(!fU l)=false›;bt (G:=Int×(List El)×Value) (fun⟨k,st,v8⟩ s' w'=>(Fr (7::8::(10::11::(rg 18 53 []))) _ s')/\(Hp w w' (.row v8 37 8 (st.length) (st.flatMap pJ)::_))/\(s' 8=v8)/\(s' 18=I k)/\(0<=k)/\(k<=l.length)/\(ij s.sh vs l k=some st)/\(jx l k=some (st.length:Int))) (fun⟨k,st,v8⟩=>(l.length-k).toNat) ((0,[],(.slice none 0 0:Value))) ⟨Fr.refl _ _,cG,rfl,rfl,J,J,rfl,yQ l⟩<| ?_
 rintro⟨k,st,v8⟩ ayy Tm ⟨wT,gT,zi,Df,h0,hk,hst,Er⟩
 obtain⟨QZ,acz,zj,atV,atW⟩:=wT.w5 2 3 6 16 17
 have hdk:=KY h0 hk Er
 refine SR<|V (aN Df atW)<|aa<|ai<|aF O (fun G9=> ?_) (fun G9=> ?_)
 .refine an<|ai<|aA<|SR<|V (ah (hs.hp gT) ia po atV Df J)<|V (dZ (dv:=bG) gP (hs.hp gT) dY O O O J)<|lK gT (aS y8)<|fun b20 K9 iD=>bk iD (i:=0) O (dO (c':=(kg _).toArray) O O O (vV _) (iD.blk (i:=0) O) O)<|fun NU cF=>aa<|SR<|V (fA dY 0 O aO O)<|lI bx cF 0 O O rfl<|aa<|aA<|SR<|V (bV O O)<|aB rfl<|aa<|aF O (fun xu=> ?_) (fun xu=> ?_)
  .refine ai<|SR<|V (fA dY 1 O aO O)<|lI bx cF 0 O O rfl<|V (aN O O)<|mB rfl<|bK 47 O (fun Wt=> ?_) (fun Wt=> ?_)
   .refine aE (v:=B true) rfl<|aa<|ct rfl<|SR<|V (dI (vs:=[]) O (oV))<|bk cF (i:=2) O (cR O zj O (cF.blk (i:=2) O))<|fun w27 iJ=>va (v:=B false) rfl<|aa<|aj<|EA O zj O iJ (i:=2) O bI O jL ⟨?_,iJ.below⟩
    (rw[KZ h0 ‹k<_› hst ‹(List.getD l k.toNat bG).op=1› J];rfl)
   refine V (fA dY 1 O aO O)<|lI bx cF 0 O O rfl<|aE QZ<|V (aC (ht.hp cF) O bU O)<|V (dF O O)<|mB rfl<|aa<|aF O (fun Pj=> ?_) (fun Pj=> ?_)
   .refine SR<|V (dI (vs:=[]) O (oV))<|bk cF (i:=2) O (cR O zj O (cF.blk (i:=2) O))<|fun w31 iC=>va (v:=B false) rfl<|aa<|aj<|EA O zj O iC (i:=2) O bI O jL ⟨?_,iC.below⟩
    (rw[KZ h0 ‹k<_› hst ‹(List.getD l k.toNat bG).op=1› J];rfl)
   refine an<|au<|aE zi<|aE QZ<|V (fA dY 1 O aO O)<|lI bx cF 0 O O rfl<|V (ah (ht.hp cF) bU fl O O J)<|V (gz (ht.hp cF) bI O O O J)<|tR 1 1 cF (fY bU O O O O)<|fun b35 w33 lF=> ?_
   (try simp only[lj]at lF)
   refine gf O lF (i:=2) O (Hp.iu cY lF (i:=0) (l:=[_]) O gd) O O bU O O (size:=8) (bytes:=64) O O O az (gS _) R4 afW<|fun v36 w37 ux=> ?_
   refine V (run_assign bA) ?_
   refine aa<|au<|V (ax Df O J)<|mI rfl<|aa<| ?_
   refine⟨(k+1,st++[vs.getD (l.getD k.toNat bG).n.toNat dg],v36),aW,wT.u4.u4.u4.u4.u4.u4.u4.u1,(Hp.conv (ux.sub (sQ (sQ sR))) Ic),rfl,(aK I aL),J,J,?_,?_⟩
   .exact ahF h0 ‹k<_› hst ‹(List.getD l k.toNat bG).op=1› ⟨J,J⟩
   (rw[jd h0 ‹k<_›,Er,uS (.inl ‹(List.getD l k.toNat bG).op=1›)];simp;done)
  refine SR<|V (bV O O)<|aB rfl<|aa<|aF O (fun h40=> ?_) (fun h40=> ?_)
  .refine au<|aE zi<|V (fA dY 2 O fl O)<|V (nr bI O O O (cF.blk (i:=0) O) (DR _))<|tR 1 1 cF (fY bU O O O O)<|fun b43 w41 qQ=> ?_
   (try simp only[lj]at qQ)
   refine gf O qQ (i:=2) O (Hp.iu cY qQ (i:=0) (l:=[_]) O gd) O O bU O O (size:=8) (bytes:=64) O O O az (gS _) R4 afW<|fun v44 w45 oe=> ?_
   refine V (run_assign bA) ?_
   refine aa<|au<|V (ax Df O J)<|mI rfl<|aa<| ?_
   refine⟨(k+1,st++[(l.getD k.toNat bG).c],v44),aW,wT.u4.u4.u4.u4.u1.u1,(Hp.conv (oe.sub (sQ (sQ sR))) Ic),rfl,(aK I aL),J,J,?_,?_⟩
   .exact amH h0 ‹k<_› hst ‹(List.getD l k.toNat bG).op=2›
   (rw[jd h0 ‹k<_›,Er,uS (.inr ‹(List.getD l k.toNat bG).op=2›)];simp;done)
  refine SR<|aE zi<|V (aC (cF.sl (i:=1) O) O bU O)<|V (fA dY 1 O aO O)<|lI bx cF 0 O O rfl<|V (eO O O (by have hq:=(fQ hr h0 ‹k<_› Er ‹¬(List.getD l k.toNat bG).op=1› ‹¬(List.getD l k.toNat bG).op=2›);omega))<|aI rfl<|aa<|have hpo:=(fQ hr h0 ‹k<_› Er ‹¬(List.getD l k.toNat bG).op=1› ‹¬(List.getD l k.toNat bG).op=2›);gp aP cF (sP (sQ sR))<|fun w47 jB=>have WT:=jB.sub (sP (sQ sR));AQ 0 O WT (run_move zi)<|AQ 1 O WT (mV (I _) O)<|AQ 2 O WT (mV (I _) O)<|AT 4 O WT (fun w hS=>cA (cs:=[B _,_]) dw O O acz (bj (hS.blk (i:=2) O)))<|AQ 5 O WT (fA dY 0 O aO O)<|tI 6 O WT bx 0 O O rfl<|AQ 7 O WT (run_move zi)<|AQ 8 O WT (mV (I _) O)<|gq 3 9 aP ?_ ?_
  .refine cf O aD O jB (sP (sQ sR)) (vZ (jB.sl (i:=1) O) bU fl O O O J)<|A1 9<|cf O aD O jB (sP (sQ sR)) (gD (jB.sl (i:=1) O) bU fl O O J)<|A1 10<|cw O aD O jB (sP (sQ sR)) (De s (l.getD k.toNat bG).op _ (st.drop ((st.length:Int)-(l.getD k.toNat bG).n).toNat) LO _ (Sl.frE cY (jB.sl (i:=1) O) _ J) (hsh.mono jB.kw) (hT.hp jB)) (bz call139 O O O)<|fun w53 gR=>A1 11<|cH O aD O gR (sP (sQ sR)) (f:=fun b=> .slice (some ⟨b,0,none⟩) 1 1) (fY bU O O O O)<|fun b57 w55 ni=> ?_
   (try simp only[lj]at ni)
   refine A1 12<|SI O aD O ni (j:=2) O (q:=(((st.length:Int)-(l.getD k.toNat bG).n)).toNat) J (fun _=>(sQ (sP (sQ sR)))) (Hp.iu cY ni (i:=0) (l:=[_]) O gd) O O bU O O (size:=8) (bytes:=64) O O O aJ RO RN<|fun v60 w61 rZ=> ?_
   refine AQ 13 O (rZ.sub (sQ (sP (sQ sR)))) (run_assign bA) ?_
   refine AD<|au<|V (ax Df O J)<|mI rfl<|aa<| ?_
   refine⟨(k+1,st.take ((st.length:Int)-(l.getD k.toNat bG).n).toNat++[pK (J9 s.sh (l.getD k.toNat bG).op) (st.drop ((st.length:Int)-(l.getD k.toNat bG).n).toNat)],v60),aW,wT.u4.u4.u4.u4.u4.u4.u4.u4,(Hp.conv (rZ.sub (sQ (sQ sR))) RQ),rfl,(aK I aL),J,J,?_,?_⟩
   .exact Bf h0 ‹k<_› hst ‹¬(List.getD l k.toNat bG).op=1› ‹¬(List.getD l k.toNat bG).op=2› O wX
   (have hq:=(fQ hr h0 ‹k<_› Er ‹¬(List.getD l k.toNat bG).op=1› ‹¬(List.getD l k.toNat bG).op=2›);rw[hq.2.2,ec,dW,eA];congr 1<;>omega)
  refine cf O aD O jB (sP (sQ sR)) (gD (jB.sl (i:=1) O) bU fl O O J)<|gq 3 10 aP ?_ ?_
  .refine cf O aD O jB (sP (sQ sR)) (vZ (jB.sl (i:=1) O) bU fl O O O J)<|A1 10<|cw O aD O jB (sP (sQ sR)) (De s (l.getD k.toNat bG).op _ (st.drop ((st.length:Int)-(l.getD k.toNat bG).n).toNat) LO _ (Sl.frE cY (jB.sl (i:=1) O) _ J) (hsh.mono jB.kw) (hT.hp jB)) (bz call139 O O O)<|fun w67 kG=>A1 11<|cH O aD O kG (sP (sQ sR)) (f:=fun b=> .slice (some ⟨b,0,none⟩) 1 1) (fY bU O O O O)<|fun b71 w69 wA=> ?_
   (try simp only[lj]at wA)
   refine A1 12<|SI O aD O wA (j:=2) O (q:=(((st.length:Int)-(l.getD k.toNat bG).n)).toNat) J (fun _=>(sQ (sP (sQ sR)))) (Hp.iu cY wA (i:=0) (l:=[_]) O gd) O O bU O O (size:=8) (bytes:=64) O O O aJ RO RN<|fun v74 w75 oL=> ?_
   refine AQ 13 O (oL.sub (sQ (sP (sQ sR)))) (run_assign bA) ?_
   refine AD<|au<|V (ax Df O J)<|mI rfl<|aa<| ?_
   refine⟨(k+1,st.take ((st.length:Int)-(l.getD k.toNat bG).n).toNat++[pK (J9 s.sh (l.getD k.toNat bG).op) (st.drop ((st.length:Int)-(l.getD k.toNat bG).n).toNat)],v74),aW,wT.u4.u4.u4.u4.u4.u4.u4.u4,(Hp.conv (oL.sub (sQ (sQ sR))) RQ),rfl,(aK I aL),J,J,?_,?_⟩
   .exact Bf h0 ‹k<_› hst ‹¬(List.getD l k.toNat bG).op=1› ‹¬(List.getD l k.toNat bG).op=2› O wX
   (have hq:=(fQ hr h0 ‹k<_› Er ‹¬(List.getD l k.toNat bG).op=1› ‹¬(List.getD l k.toNat bG).op=2›);rw[hq.2.2,ec,dW,eA];congr 1<;>omega)
  refine cw O aD O jB (sP (sQ sR)) (De s (l.getD k.toNat bG).op _ (st.drop ((st.length:Int)-(l.getD k.toNat bG).n).toNat) LO _ (Sl.frE cY (jB.sl (i:=1) O) _ J) (hsh.mono jB.kw) (hT.hp jB)) (bz call139 O O O)<|fun w77 zk=>gq 3 11 aP ?_ ?_
  .refine cf O aD O zk (sP (sQ sR)) (vZ (zk.sl (i:=1) O) bU fl O O O J)<|A1 11<|cH O aD O zk (sP (sQ sR)) (f:=fun b=> .slice (some ⟨b,0,none⟩) 1 1) (fY bU O O O O)<|fun b83 w81 oZ=> ?_
   (try simp only[lj]at oZ)
   refine A1 12<|SI O aD O oZ (j:=2) O (q:=(((st.length:Int)-(l.getD k.toNat bG).n)).toNat) J (fun _=>(sQ (sP (sQ sR)))) (Hp.iu cY oZ (i:=0) (l:=[_]) O gd) O O bU O O (size:=8) (bytes:=64) O O O aJ RO RN<|fun v86 w87 zh=> ?_
   refine AQ 13 O (zh.sub (sQ (sP (sQ sR)))) (run_assign bA) ?_
   refine AD<|au<|V (ax Df O J)<|mI rfl<|aa<| ?_
   refine⟨(k+1,st.take ((st.length:Int)-(l.getD k.toNat bG).n).toNat++[pK (J9 s.sh (l.getD k.toNat bG).op) (st.drop ((st.length:Int)-(l.getD k.toNat bG).n).toNat)],v86),aW,wT.u4.u4.u4.u4.u4.u4.u4.u4,(Hp.conv (zh.sub (sQ (sQ sR))) RQ),rfl,(aK I aL),J,J,?_,?_⟩
   .exact Bf h0 ‹k<_› hst ‹¬(List.getD l k.toNat bG).op=1› ‹¬(List.getD l k.toNat bG).op=2› O wX
   (have hq:=(fQ hr h0 ‹k<_› Er ‹¬(List.getD l k.toNat bG).op=1› ‹¬(List.getD l k.toNat bG).op=2›);rw[hq.2.2,ec,dW,eA];congr 1<;>omega)
  refine cH O aD O zk (sP (sQ sR)) (f:=fun b=> .slice (some ⟨b,0,none⟩) 1 1) (fY bU O O O O)<|fun b91 w89 oM=> ?_
  (try simp only[lj]at oM)
  refine A1 3<|cf O aD O oM (sQ (sP (sQ sR))) (vZ (oM.sl (i:=2) O) bU fl O O O J)<|A1 12<|SI O aD O oM (j:=2) O (q:=(((st.length:Int)-(l.getD k.toNat bG).n)).toNat) J (fun _=>(sQ (sP (sQ sR)))) (Hp.iu cY oM (i:=0) (l:=[_]) O gd) O O bU O O (size:=8) (bytes:=64) O O O aJ RO RN<|fun v96 w97 Om=> ?_
  refine AQ 13 O (Om.sub (sQ (sP (sQ sR)))) (run_assign bA) ?_
  refine AD<|au<|V (ax Df O J)<|mI rfl<|aa<| ?_
  refine⟨(k+1,st.take ((st.length:Int)-(l.getD k.toNat bG).n).toNat++[pK (J9 s.sh (l.getD k.toNat bG).op) (st.drop ((st.length:Int)-(l.getD k.toNat bG).n).toNat)],v96),aW,wT.u4.u4.u4.u4.u4.u4.u4.u4,(Hp.conv (Om.sub (sQ (sQ sR))) RQ),rfl,(aK I aL),J,J,?_,?_⟩
  .exact Bf h0 ‹k<_› hst ‹¬(List.getD l k.toNat bG).op=1› ‹¬(List.getD l k.toNat bG).op=2› O wX
  (have hq:=(fQ hr h0 ‹k<_› Er ‹¬(List.getD l k.toNat bG).op=1› ‹¬(List.getD l k.toNat bG).op=2›);rw[hq.2.2,ec,dW,eA];congr 1<;>omega)
 refine a8 (id:=0) rfl<|SR<|aE zi<|V (ah (gT.sl (i:=0) O) bU fl O O RY)<|V (gz (gT.sl (i:=0) O) bI O O O RY)<|bk gT (i:=1) O (cR O zj O (gT.blk (i:=1) O))<|fun w99 wB=>va (v:=B true) rfl<|aa<|aj<|EA O zj O wB (i:=1) O bI O jL ⟨?_,wB.below⟩
 (rw[M4 hr hk ‹¬k<_› hst];rfl)
set_option maxHeartbeats 2000000 in
theorem nV(s:kR)(v:Value)(l:List dV)(u:Value)(vs:List El)(hl:l.length<=1000)(w:World)(hs:Sl w v 10 l.length (l.flatMap kg))(ht:Sl w u 8 vs.length (vs.flatMap pJ))(hsh:k8 (Kw w) s):Calls Tryz.prog 38 #[.agg (qL s),v,u] w (Pure (.tuple #[.agg (iM (ey s.sh l vs).1),B (ey s.sh l vs).2]) w):=by
 have hm:=hs.small
 unfold maxLen at hm
 have Ke:=ht.small
 unfold maxLen at Ke
 refine eH func38 rfl rfl fun hH=>SR<|gN hH (v:= .agg _) rfl<|fun b3 w1 bp=>lK bp (aS eZ)<|fun b6 w4 bY=>va (v:=B false) rfl<|aa<|SR<|va (v:= .slice none 0 0) rfl<|have eE:=bY.eR 37 8;aa<|ai<|SR<| ?_
 refine V (run_move bA) ?_
 refine aH O eE (rN _ _ _ (hs.hp eE)) (ay call78 O)<|fun w8 iE=>V (bJ O)<|aa<|bW O (fun h12=> ?_) (fun h12=> ?_)
 .refine SR<|V (dI (vs:=[]) O (oV))<|bk iE (i:=1) O (cR O O O (iE.blk (i:=1) O))<|fun C2 cG=> ?_
  simp only[z2,dr,pull]at cG
  refine va (v:=B false) rfl<|aa<|aj<|EA O O O cG (i:=1) O bI O jL ⟨?_,cG.below⟩
  (rw[apr (nt ‹(!fU l)=true›)];rfl)
 refine an<|ai<|SR<|va (v:=I 0) rfl<|aa<|aA<|have hr:fU l=true:=nf ‹(!fU l)=false›;bt (G:=Int×(List El)×Value) (fun⟨k,st,v8⟩ s' w'=>(Fr (rg 7 6 (rg 17 86 [])) _ s')/\(Hp w w' (.row v8 37 8 (st.length) (st.flatMap pJ)::_))/\(s' 8=v8)/\(s' 9=I k)/\(0<=k)/\(k<=l.length)/\(ij s.sh vs l k=some st)/\(jx l k=some (st.length:Int))) (fun⟨k,st,v8⟩=>(l.length-k).toNat) ((0,[],(.slice none 0 0:Value))) ⟨Fr.refl _ _,iE,rfl,rfl,J,J,rfl,yQ l⟩<| ?_
 rintro⟨k,st,v8⟩ ayy Tm ⟨wT,gT,zi,WU,h0,hk,hst,Er⟩
 obtain⟨WV,QZ,acz,zj⟩:=wT.w4 1 2 3 6
 have hdk:=KY h0 hk Er
 refine ai<|SR<|aE WU<|aE WV<|V (aC (hs.hp gT) O ia O)<|V (aN O O)<|aa<|aF O (fun G9=> ?_) (fun G9=> ?_)
 .refine an<|ai<|aA<|SR<|aE WV<|aE WU<|V (ah (hs.hp gT) ia po O O J)<|V (dZ (dv:=bG) gP (hs.hp gT) dY O O O J)<|lK gT (aS y8)<|fun b20 K9 iD=>bk iD (i:=0) O (dO (c':=(kg _).toArray) O O O (vV _) (iD.blk (i:=0) O) O)<|fun NU cF=> ?_
  simp only[z2,dr,pull]at cF
  refine aa<|SR<|V (fA dY 0 O aO O)<|lI bx cF 0 O O rfl<|V (bV O O)<|aa<|aF O (fun xu=> ?_) (fun xu=> ?_)
  .refine au<|aE zi<|V (fA dY 2 O fl O)<|V (nr bI O O O (cF.blk (i:=0) O) (DR _))<|tR 1 1 cF (fY bU O O O O)<|fun b27 w25 jg=> ?_
   (try simp only[lj]at jg)
   refine gf O jg (i:=2) O (Hp.iu cY jg (i:=0) (l:=[_]) O gd) O O bU O O (size:=8) (bytes:=64) O O O az (gS _) R4 afO<|fun v28 w29 iW=> ?_
   simp only[z2,dr,pull]at iW
   refine V (run_assign bA) ?_
   refine aa<|au<|aE WU<|V (ax O O J)<|aI rfl<|aa<| ?_
   refine⟨(k+1,st++[(l.getD k.toNat bG).c],v28),aW,wT.u4.u4.u4.u4.u4.u1,(Hp.conv (iW.sub (sQ (sQ sR))) Ic),rfl,(aK I aL),J,J,?_,?_⟩
   .exact amH h0 ‹k<_› hst ‹(List.getD l k.toNat bG).op=2›
   (rw[jd h0 ‹k<_›,Er,uS (.inr ‹(List.getD l k.toNat bG).op=2›)];simp;done)
  refine SR<|V (fA dY 0 O aO O)<|lI bx cF 0 O O rfl<|V (bV O O)<|aa<|aF O (fun BR=> ?_) (fun BR=> ?_)
  .refine ai<|SR<|V (fA dY 1 O aO O)<|lI bx cF 0 O O rfl<|V (aN O O)<|mB rfl<|bK 41 O (fun h34=> ?_) (fun h34=> ?_)
   .refine aE (v:=B true) rfl<|aa<|ct rfl<|SR<|V (dI (vs:=[]) O (oV))<|bk cF (i:=2) O (cR O zj O (cF.blk (i:=2) O))<|fun w35 j7=> ?_
    simp only[z2,dr,pull]at j7
    refine va (v:=B false) rfl<|aa<|aj<|EA O zj O j7 (i:=2) O bI O jL ⟨?_,j7.below⟩
    (rw[KZ h0 ‹k<_› hst ‹(List.getD l k.toNat bG).op=1› J];rfl)
   refine V (fA dY 1 O aO O)<|lI bx cF 0 O O rfl<|aE QZ<|V (aC (ht.hp cF) O bU O)<|V (dF O O)<|mB rfl<|aa<|aF O (fun h38=> ?_) (fun h38=> ?_)
   .refine SR<|V (dI (vs:=[]) O (oV))<|bk cF (i:=2) O (cR O zj O (cF.blk (i:=2) O))<|fun w39 lG=> ?_
    simp only[z2,dr,pull]at lG
    refine va (v:=B false) rfl<|aa<|aj<|EA O zj O lG (i:=2) O bI O jL ⟨?_,lG.below⟩
    (rw[KZ h0 ‹k<_› hst ‹(List.getD l k.toNat bG).op=1› J];rfl)
   refine an<|au<|aE zi<|aE QZ<|V (fA dY 1 O aO O)<|lI bx cF 0 O O rfl<|V (ah (ht.hp cF) bU fl O O J)<|V (gz (ht.hp cF) bI O O O J)<|tR 1 1 cF (fY bU O O O O)<|fun b43 w41 qQ=> ?_
   (try simp only[lj]at qQ)
   refine gf O qQ (i:=2) O (Hp.iu cY qQ (i:=0) (l:=[_]) O gd) O O bU O O (size:=8) (bytes:=64) O O O az (gS _) R4 afO<|fun v44 w45 oe=> ?_
   simp only[z2,dr,pull]at oe
   refine V (run_assign bA) ?_
   refine aa<|au<|aE WU<|V (ax O O J)<|aI rfl<|aa<| ?_
   refine⟨(k+1,st++[vs.getD (l.getD k.toNat bG).n.toNat dg],v44),aW,wT.u4.u4.u4.u4.u4.u4.u4.u4.u4.u1,(Hp.conv (oe.sub (sQ (sQ sR))) Ic),rfl,(aK I aL),J,J,?_,?_⟩
   .exact ahF h0 ‹k<_› hst ‹(List.getD l k.toNat bG).op=1› ⟨J,J⟩
   (rw[jd h0 ‹k<_›,Er,uS (.inl ‹(List.getD l k.toNat bG).op=1›)];simp;done)
  refine SR<|aE zi<|aE zi<|V (aC (cF.sl (i:=1) O) O bU O)<|V (eO O O J)<|V (ah (cF.sl (i:=1) O) bU fl O O wX)<|V (gz (cF.sl (i:=1) O) bI O O O wX)<|lK cF (aS eZ)<|fun b49 w47 jB=>bk jB (i:=0) O (cR O O O (jB.blk (i:=0) O))<|fun w50 rX=> ?_
  simp only[z2,dr,pull]at rX
  refine aa<|ai<|SR<|va (v:=I 2) rfl<|aa<|aA<|have hpo:=(fQ hr h0 ‹k<_› Er ‹¬(List.getD l k.toNat bG).op=1› ‹¬(List.getD l k.toNat bG).op=2›);bt (G:=Int×El) (fun⟨j,e1⟩ s' w'=>(Fr (12::(rg 63 28 [])) _ s')/\(Hp w w' (.blk b49 (.cells (iM e1) 37 (0,0))::_))/\(s' 12=I j)/\(2<=j)/\(j<=(l.getD k.toNat bG).n+1)/\(e1=pK (J9 s.sh (l.getD k.toNat bG).op) (st.drop ((st.length:Int)-(j-1)).toNat))) (fun⟨j,e1⟩=>((l.getD k.toNat bG).n+1-j).toNat) ((2,(st.getD ((st.length:Int)-1).toNat dg))) ⟨Fr.refl _ _,rX,rfl,J,J,(by rw[show((st.length:Int)-(2-1)).toNat=st.length-1 by omega,M3 (by intro h;rw[h]at hpo;simp at hpo;omega)];congr 1;omega)⟩<| ?_
  rintro⟨j,e1⟩ aOb w52 ⟨Kq,BS,Ot,j0,jk,he⟩
  obtain⟨aax,Ou⟩:=Kq.w2 10 11
  obtain⟨ayA,Q0,JQ⟩:=Kq.t3 3 acz 8 zi 9 WU
  refine ai<|SR<|aE Ot<|V (fA dY 1 O aO aax)<|lI bx BS 1 O O rfl<|V (wY O O)<|aa<|aF O (fun h54=> ?_) (fun h54=> ?_)
  .refine an<|ai<|aA<|SR<|V (fA dY 0 O aO aax)<|lI bx BS 1 O O rfl<|V (bV O O)<|aa<|aF O (fun Hg=> ?_) (fun Hg=> ?_)
   .refine gp aP BS (sQ sR)<|fun w57 oK=>have WW:=oK.sub (sQ sR);AT 0 O WW (fun w hS=>cA (cs:=[B _,_]) dw O O ayA (bj (hS.blk (i:=3) O)))<|AQ 1 O WW (run_move Q0)<|AQ 2 O WW (run_move Q0)<|AT 3 O WW (fun w hS=>aC (hS.sl (i:=1) O) O bU O)<|AQ 4 O WW (run_move Ot)<|AQ 5 O WW (eO O O J)<|AT 6 O WW (fun w hS=>ah (hS.sl (i:=1) O) bU fl O O J)<|AT 7 O WW (fun w hS=>gz (hS.sl (i:=1) O) bI O O O J)<|A1 8<|cf O aD O oK (sQ sR) (cN bI O O Ou (oK.blk (i:=0) O))<|A1 9<|cw O aD O oK (sQ sR) (sq _ _ _ _ (hsh.mono oK.kw)) (bz call39 O O O)<|fun w61 rZ=>A1 10<|ef O aD rZ (j:=0) O (sQ sR) (cR O Ou O (rZ.blk (i:=0) O))<|fun w65 aoj=> ?_
    simp only[z2,dr,pull]at aoj
    refine AD<|au<|aE Ot<|V (ax O O J)<|aI rfl<|aa<| ?_
    refine⟨(j+1,_),aW,Kq.u4.u4.u4.u4.u4,aoj,(aK I aL),J,J,?_⟩
    (rw[show((st.length:Int)-(j+1-1)).toNat=((st.length:Int)-j).toNat by omega,K0 J J,show((st.length:Int)-j+1).toNat=((st.length:Int)-(j-1)).toNat by omega,<-he];exact aps ‹(List.getD l k.toNat bG).op=3›)
   refine gp aP BS (sQ sR)<|fun w67 kG=>have TE:=kG.sub (sQ sR);AQ 0 O TE (run_move Q0)<|AQ 1 O TE (run_move Q0)<|AT 2 O TE (fun w hS=>aC (hS.sl (i:=1) O) O bU O)<|AQ 3 O TE (run_move Ot)<|AQ 4 O TE (eO O O J)<|AT 5 O TE (fun w hS=>ah (hS.sl (i:=1) O) bU fl O O J)<|AT 6 O TE (fun w hS=>gz (hS.sl (i:=1) O) bI O O O J)<|A1 7<|cf O aD O kG (sQ sR) (cN bI O O Ou (kG.blk (i:=0) O))<|A1 8<|cw O aD O kG (sQ sR) (BP _ _ _) (aM call82 O O)<|fun w71 Jg=>A1 9<|ef O aD Jg (j:=0) O (sQ sR) (cR O Ou O (Jg.blk (i:=0) O))<|fun w75 oL=> ?_
   simp only[z2,dr,pull]at oL
   refine AD<|au<|aE Ot<|V (ax O O J)<|aI rfl<|aa<| ?_
   refine⟨(j+1,_),aW,Kq.u4.u4.u4.u4.u1.u1.u1,oL,(aK I aL),J,J,?_⟩
   (rw[show((st.length:Int)-(j+1-1)).toNat=((st.length:Int)-j).toNat by omega,K0 J J,show((st.length:Int)-j+1).toNat=((st.length:Int)-(j-1)).toNat by omega,<-he];exact apt ‹¬(List.getD l k.toNat bG).op=3›)
  refine a8 (id:=2) rfl<|have he3:e1=pK (J9 s.sh (l.getD k.toNat bG).op) (st.drop ((st.length:Int)-(l.getD k.toNat bG).n).toNat):=(by rw[he];congr 2;omega);ed aP BS<|fun w77 zk=>have Dg:=zk;AQ 1 O Dg (run_move Q0)<|AQ 2 O Dg (run_move Q0)<|AT 3 O Dg (fun w hS=>aC (hS.sl (i:=2) O) O bU O)<|AQ 4 O Dg (fA dY 1 O aO aax)<|tI 5 O Dg bx 1 O O rfl<|AQ 6 O Dg (eO O O J)<|AT 9 O Dg (fun w hS=>cN bI O O Ou (hS.blk (i:=0) O))<|arT 0 7 10 aP ?_ ?_ ?_
  .refine cH O aD O zk sR (f:=fun b=> .slice (some ⟨b,0,none⟩) 0 0) (s3 bU fl)<|fun b81 w79 pE=> ?_
   (try simp only[lj]at pE)
   have oZ:=pE.sF 0 8 O az
   refine gq 7 10 aP ?_ ?_
   .refine cf O aD O oZ (sQ sR) (p5 (oZ.sl (i:=3) O) bU fl O O J)<|gq 8 10 aP ?_ ?_
    .refine fT O aD O oZ (j:=0) O (fun _=>(sQ sR)) ((oZ.sl (i:=3) O).cut _ (by(have:=(fQ hr h0 ‹k<_› Er ‹¬(List.getD l k.toNat bG).op=1› ‹¬(List.getD l k.toNat bG).op=2›);omega))) O O bU O O (size:=8) (bytes:=64) O O O az (fun u hu=>gS st u (r7 hu)) J iz<|fun v87 w85 uy=> ?_
     simp only[z2,dr,pull]at uy
     refine A1 10<|cH O aD O uy (sQ sR) (f:=fun b=> .slice (some ⟨b,0,none⟩) 1 1) (fY bU O O O O)<|fun b90 w88 Ji=> ?_
     (try simp only[lj]at Ji)
     refine A1 11<|fT O aD O Ji (j:=1) O (fun _=>(sQ (sQ sR))) (Hp.iu cY Ji (i:=0) (l:=[_]) O gd) O O bU O O (size:=8) (bytes:=64) O O O az (gS _) Cj Ci<|fun v93 w91 Jh=> ?_
     simp only[z2,dr,pull]at Jh
     refine AQ 12 O (Jh.sub (sQ (sQ sR))) (run_assign bA) ?_
     refine AD<|au<|aE JQ<|V (ax O O J)<|aI rfl<|aa<|have uz:=Hp.swap (Jh.perm (((pC pR).trans pS).trans (pC pR))) (i:=3) xX;?_
     simp only[z2,dr,pull]at uz
     refine⟨(k+1,st.take ((st.length:Int)-(l.getD k.toNat bG).n).toNat++[e1],v93),aW,(((wT.u4.u4.u4.u4.u4.u1.u1.u1).t Kq O)).u4.u4.u4.u4.u4,(Hp.conv (uz.sub (sQ (sQ (sQ sR)))) afK),rfl,(aK I aL),J,J,?_,?_⟩
     ·(rw[he3];exact Bf h0 ‹k<_› hst ‹¬(List.getD l k.toNat bG).op=1› ‹¬(List.getD l k.toNat bG).op=2› O wX)
     (have hq:=(fQ hr h0 ‹k<_› Er ‹¬(List.getD l k.toNat bG).op=1› ‹¬(List.getD l k.toNat bG).op=2›);rw[hq.2.2,ec,dW,eA];congr 1<;>omega)
    refine cH O aD O oZ (sQ sR) (f:=fun b=> .slice (some ⟨b,0,none⟩) 1 1) (fY bU O O O O)<|fun b97 w95 pY=> ?_
    (try simp only[lj]at pY)
    refine A1 8<|fT O aD O pY (j:=1) O (fun _=>(sQ (sQ sR))) ((pY.sl (i:=4) O).cut _ (by(have:=(fQ hr h0 ‹k<_› Er ‹¬(List.getD l k.toNat bG).op=1› ‹¬(List.getD l k.toNat bG).op=2›);omega))) O O bU O O (size:=8) (bytes:=64) O O O az (fun u hu=>gS st u (r7 hu)) J iz<|fun aOd w98 Pv=> ?_
    simp only[z2,dr,pull]at Pv
    refine A1 11<|fT O aD O Pv (j:=1) O (fun _=>(sQ (sQ sR))) (Hp.iu cY Pv (i:=0) (l:=[_]) O gd) O O bU O O (size:=8) (bytes:=64) O O O az (gS _) Cj Ci<|fun aFj atX rM=> ?_
    simp only[z2,dr,pull]at rM
    refine AQ 12 O (rM.sub (sQ (sQ sR))) (run_assign bA) ?_
    refine AD<|au<|aE JQ<|V (ax O O J)<|aI rfl<|aa<|have Bv:=Hp.swap (rM.perm (((pC pR).trans pS).trans (pC pR))) (i:=3) xX;?_
    simp only[z2,dr,pull]at Bv
    refine⟨(k+1,st.take ((st.length:Int)-(l.getD k.toNat bG).n).toNat++[e1],aFj),aW,(((wT.u4.u4.u4.u4.u4.u1.u1.u1).t Kq O)).u4.u4.u4.u4.u4,(Hp.conv (Bv.sub (sQ (sQ (sQ sR)))) HY),rfl,(aK I aL),J,J,?_,?_⟩
    ·(rw[he3];exact Bf h0 ‹k<_› hst ‹¬(List.getD l k.toNat bG).op=1› ‹¬(List.getD l k.toNat bG).op=2› O wX)
    (have hq:=(fQ hr h0 ‹k<_› Er ‹¬(List.getD l k.toNat bG).op=1› ‹¬(List.getD l k.toNat bG).op=2›);rw[hq.2.2,ec,dW,eA];congr 1<;>omega)
   refine cH O aD O oZ (sQ sR) (f:=fun b=> .slice (some ⟨b,0,none⟩) 1 1) (fY bU O O O O)<|fun ayB aol nj=> ?_
   (try simp only[lj]at nj)
   refine A1 7<|cf O aD O nj (sQ (sQ sR)) (p5 (nj.sl (i:=4) O) bU fl O O J)<|A1 8<|fT O aD O nj (j:=1) O (fun _=>(sQ (sQ sR))) ((nj.sl (i:=4) O).cut _ (by(have:=(fQ hr h0 ‹k<_› Er ‹¬(List.getD l k.toNat bG).op=1› ‹¬(List.getD l k.toNat bG).op=2›);omega))) O O bU O O (size:=8) (bytes:=64) O O O az (fun u hu=>gS st u (r7 hu)) J iz<|fun aOe aFk Hi=> ?_
   simp only[z2,dr,pull]at Hi
   refine A1 11<|fT O aD O Hi (j:=1) O (fun _=>(sQ (sQ sR))) (Hp.iu cY Hi (i:=0) (l:=[_]) O gd) O O bU O O (size:=8) (bytes:=64) O O O az (gS _) Cj Ci<|fun aFl ayC xC=> ?_
   simp only[z2,dr,pull]at xC
   refine AQ 12 O (xC.sub (sQ (sQ sR))) (run_assign bA) ?_
   refine AD<|au<|aE JQ<|V (ax O O J)<|aI rfl<|aa<|have zl:=Hp.swap (xC.perm (((pC pR).trans pS).trans (pC pR))) (i:=3) xX;?_
   simp only[z2,dr,pull]at zl
   refine⟨(k+1,st.take ((st.length:Int)-(l.getD k.toNat bG).n).toNat++[e1],aFl),aW,(((wT.u4.u4.u4.u4.u4.u1.u1.u1).t Kq O)).u4.u4.u4.u4.u4,(Hp.conv (zl.sub (sQ (sQ (sQ sR)))) HY),rfl,(aK I aL),J,J,?_,?_⟩
   ·(rw[he3];exact Bf h0 ‹k<_› hst ‹¬(List.getD l k.toNat bG).op=1› ‹¬(List.getD l k.toNat bG).op=2› O wX)
   (have hq:=(fQ hr h0 ‹k<_› Er ‹¬(List.getD l k.toNat bG).op=1› ‹¬(List.getD l k.toNat bG).op=2›);rw[hq.2.2,ec,dW,eA];congr 1<;>omega)
  .refine cf O aD O zk sR (p5 (zk.sl (i:=2) O) bU fl O O J)<|gq 0 10 aP ?_ ?_
   .refine cH O aD O zk sR (f:=fun b=> .slice (some ⟨b,0,none⟩) 0 0) (s3 bU fl)<|fun aOf aFm acB=> ?_
    (try simp only[lj]at acB)
    have Dh:=acB.sF 0 8 O az
    refine gq 8 10 aP ?_ ?_
    .refine fT O aD O Dh (j:=0) O (fun _=>(sQ sR)) ((Dh.sl (i:=3) O).cut _ (by(have:=(fQ hr h0 ‹k<_› Er ‹¬(List.getD l k.toNat bG).op=1› ‹¬(List.getD l k.toNat bG).op=2›);omega))) O O bU O O (size:=8) (bytes:=64) O O O az (fun u hu=>gS st u (r7 hu)) J iz<|fun aOg atY pZ=> ?_
     simp only[z2,dr,pull]at pZ
     refine A1 10<|cH O aD O pZ (sQ sR) (f:=fun b=> .slice (some ⟨b,0,none⟩) 1 1) (fY bU O O O O)<|fun aka aFn Q1=> ?_
     (try simp only[lj]at Q1)
     refine A1 11<|fT O aD O Q1 (j:=1) O (fun _=>(sQ (sQ sR))) (Hp.iu cY Q1 (i:=0) (l:=[_]) O gd) O O bU O O (size:=8) (bytes:=64) O O O az (gS _) Cj Ci<|fun v131 aOh akb=> ?_
     simp only[z2,dr,pull]at akb
     refine AQ 12 O (akb.sub (sQ (sQ sR))) (run_assign bA) ?_
     refine AD<|au<|aE JQ<|V (ax O O J)<|aI rfl<|aa<|have xD:=Hp.swap (akb.perm (((pC pR).trans pS).trans (pC pR))) (i:=3) xX;?_
     simp only[z2,dr,pull]at xD
     refine⟨(k+1,st.take ((st.length:Int)-(l.getD k.toNat bG).n).toNat++[e1],v131),aW,(((wT.u4.u4.u4.u4.u4.u1.u1.u1).t Kq O)).u4.u4.u4.u4.u4,(Hp.conv (xD.sub (sQ (sQ (sQ sR)))) afK),rfl,(aK I aL),J,J,?_,?_⟩
     ·(rw[he3];exact Bf h0 ‹k<_› hst ‹¬(List.getD l k.toNat bG).op=1› ‹¬(List.getD l k.toNat bG).op=2› O wX)
     (have hq:=(fQ hr h0 ‹k<_› Er ‹¬(List.getD l k.toNat bG).op=1› ‹¬(List.getD l k.toNat bG).op=2›);rw[hq.2.2,ec,dW,eA];congr 1<;>omega)
    refine cH O aD O Dh (sQ sR) (f:=fun b=> .slice (some ⟨b,0,none⟩) 1 1) (fY bU O O O O)<|fun aOi atZ Di=> ?_
    (try simp only[lj]at Di)
    refine A1 8<|fT O aD O Di (j:=1) O (fun _=>(sQ (sQ sR))) ((Di.sl (i:=4) O).cut _ (by(have:=(fQ hr h0 ‹k<_› Er ‹¬(List.getD l k.toNat bG).op=1› ‹¬(List.getD l k.toNat bG).op=2›);omega))) O O bU O O (size:=8) (bytes:=64) O O O az (fun u hu=>gS st u (r7 hu)) J iz<|fun v138 aOj WX=> ?_
    simp only[z2,dr,pull]at WX
    refine A1 11<|fT O aD O WX (j:=1) O (fun _=>(sQ (sQ sR))) (Hp.iu cY WX (i:=0) (l:=[_]) O gd) O O bU O O (size:=8) (bytes:=64) O O O az (gS _) Cj Ci<|fun v141 aFo Q2=> ?_
    simp only[z2,dr,pull]at Q2
    refine AQ 12 O (Q2.sub (sQ (sQ sR))) (run_assign bA) ?_
    refine AD<|au<|aE JQ<|V (ax O O J)<|aI rfl<|aa<|have n9:=Hp.swap (Q2.perm (((pC pR).trans pS).trans (pC pR))) (i:=3) xX;?_
    simp only[z2,dr,pull]at n9
    refine⟨(k+1,st.take ((st.length:Int)-(l.getD k.toNat bG).n).toNat++[e1],v141),aW,(((wT.u4.u4.u4.u4.u4.u1.u1.u1).t Kq O)).u4.u4.u4.u4.u4,(Hp.conv (n9.sub (sQ (sQ (sQ sR)))) HY),rfl,(aK I aL),J,J,?_,?_⟩
    ·(rw[he3];exact Bf h0 ‹k<_› hst ‹¬(List.getD l k.toNat bG).op=1› ‹¬(List.getD l k.toNat bG).op=2› O wX)
    (have hq:=(fQ hr h0 ‹k<_› Er ‹¬(List.getD l k.toNat bG).op=1› ‹¬(List.getD l k.toNat bG).op=2›);rw[hq.2.2,ec,dW,eA];congr 1<;>omega)
   refine cH O aD O zk sR (f:=fun b=> .slice (some ⟨b,0,none⟩) 1 1) (fY bU O O O O)<|fun aOk at1 xE=> ?_
   (try simp only[lj]at xE)
   refine A1 0<|cH O aD O xE (sQ sR) (f:=fun b=> .slice (some ⟨b,0,none⟩) 0 0) (s3 bU fl)<|fun aOl aOm aqv=> ?_
   (try simp only[lj]at aqv)
   have WY:=aqv.sF 0 8 O az
   refine A1 8<|fT O aD O WY (j:=0) O (fun _=>(sQ (sQ sR))) ((WY.sl (i:=4) O).cut _ (by(have:=(fQ hr h0 ‹k<_› Er ‹¬(List.getD l k.toNat bG).op=1› ‹¬(List.getD l k.toNat bG).op=2›);omega))) O O bU O O (size:=8) (bytes:=64) O O O az (fun u hu=>gS st u (r7 hu)) J iz<|fun v152 aFp Hj=> ?_
   simp only[z2,dr,pull]at Hj
   refine A1 11<|fT O aD O Hj (j:=0) O (fun _=>(sQ (sQ sR))) (Hp.iu cY Hj (i:=1) (l:=[_]) O gd) O O bU O O (size:=8) (bytes:=64) O O O az (gS _) Cj Ci<|fun akc aOn Q3=> ?_
   simp only[z2,dr,pull]at Q3
   refine AQ 12 O (Q3.sub (sQ (sQ sR))) (run_assign bA) ?_
   refine AD<|au<|aE JQ<|V (ax O O J)<|aI rfl<|aa<|have aqw:=Hp.swap Q3 (i:=3) xX;?_
   simp only[z2,dr,pull]at aqw
   refine⟨(k+1,st.take ((st.length:Int)-(l.getD k.toNat bG).n).toNat++[e1],akc),aW,(((wT.u4.u4.u4.u4.u4.u1.u1.u1).t Kq O)).u4.u4.u4.u4.u4,(Hp.conv (aqw.sub (sQ (sQ (sQ sR)))) HY),rfl,(aK I aL),J,J,?_,?_⟩
   ·(rw[he3];exact Bf h0 ‹k<_› hst ‹¬(List.getD l k.toNat bG).op=1› ‹¬(List.getD l k.toNat bG).op=2› O wX)
   (have hq:=(fQ hr h0 ‹k<_› Er ‹¬(List.getD l k.toNat bG).op=1› ‹¬(List.getD l k.toNat bG).op=2›);rw[hq.2.2,ec,dW,eA];congr 1<;>omega)
  refine cH O aD O zk sR (f:=fun b=> .slice (some ⟨b,0,none⟩) 1 1) (fY bU O O O O)<|fun aOo aFq JR=> ?_
  (try simp only[lj]at JR)
  refine gq 0 7 aP ?_ ?_
  .refine cH O aD O JR (sQ sR) (f:=fun b=> .slice (some ⟨b,0,none⟩) 0 0) (s3 bU fl)<|fun aOp ayD WZ=> ?_
   (try simp only[lj]at WZ)
   have Dj:=WZ.sF 0 8 O az
   refine A1 7<|cf O aD O Dj (sQ (sQ sR)) (p5 (Dj.sl (i:=4) O) bU fl O O J)<|A1 8<|fT O aD O Dj (j:=0) O (fun _=>(sQ (sQ sR))) ((Dj.sl (i:=4) O).cut _ (by(have:=(fQ hr h0 ‹k<_› Er ‹¬(List.getD l k.toNat bG).op=1› ‹¬(List.getD l k.toNat bG).op=2›);omega))) O O bU O O (size:=8) (bytes:=64) O O O az (fun u hu=>gS st u (r7 hu)) J iz<|fun v168 aFr Ov=> ?_
   simp only[z2,dr,pull]at Ov
   refine A1 11<|fT O aD O Ov (j:=0) O (fun _=>(sQ (sQ sR))) (Hp.iu cY Ov (i:=1) (l:=[_]) O gd) O O bU O O (size:=8) (bytes:=64) O O O az (gS _) Cj Ci<|fun v171 aFs Ow=> ?_
   simp only[z2,dr,pull]at Ow
   refine AQ 12 O (Ow.sub (sQ (sQ sR))) (run_assign bA) ?_
   refine AD<|au<|aE JQ<|V (ax O O J)<|aI rfl<|aa<|have W3:=Hp.swap Ow (i:=3) xX;?_
   simp only[z2,dr,pull]at W3
   refine⟨(k+1,st.take ((st.length:Int)-(l.getD k.toNat bG).n).toNat++[e1],v171),aW,(((wT.u4.u4.u4.u4.u4.u1.u1.u1).t Kq O)).u4.u4.u4.u4.u4,(Hp.conv (W3.sub (sQ (sQ (sQ sR)))) HY),rfl,(aK I aL),J,J,?_,?_⟩
   ·(rw[he3];exact Bf h0 ‹k<_› hst ‹¬(List.getD l k.toNat bG).op=1› ‹¬(List.getD l k.toNat bG).op=2› O wX)
   (have hq:=(fQ hr h0 ‹k<_› Er ‹¬(List.getD l k.toNat bG).op=1› ‹¬(List.getD l k.toNat bG).op=2›);rw[hq.2.2,ec,dW,eA];congr 1<;>omega)
  refine cf O aD O JR (sQ sR) (p5 (JR.sl (i:=3) O) bU fl O O J)<|A1 0<|cH O aD O JR (sQ sR) (f:=fun b=> .slice (some ⟨b,0,none⟩) 0 0) (s3 bU fl)<|fun aOq aOr W4=> ?_
  (try simp only[lj]at W4)
  have aqx:=W4.sF 0 8 O az
  refine A1 8<|fT O aD O aqx (j:=0) O (fun _=>(sQ (sQ sR))) ((aqx.sl (i:=4) O).cut _ (by(have:=(fQ hr h0 ‹k<_› Er ‹¬(List.getD l k.toNat bG).op=1› ‹¬(List.getD l k.toNat bG).op=2›);omega))) O O bU O O (size:=8) (bytes:=64) O O O az (fun u hu=>gS st u (r7 hu)) J iz<|fun aOs aOt akd=> ?_
  simp only[z2,dr,pull]at akd
  refine A1 11<|fT O aD O akd (j:=0) O (fun _=>(sQ (sQ sR))) (Hp.iu cY akd (i:=1) (l:=[_]) O gd) O O bU O O (size:=8) (bytes:=64) O O O az (gS _) Cj Ci<|fun aFt aOu ake=> ?_
  simp only[z2,dr,pull]at ake
  refine AQ 12 O (ake.sub (sQ (sQ sR))) (run_assign bA) ?_
  refine AD<|au<|aE JQ<|V (ax O O J)<|aI rfl<|aa<|have aqy:=Hp.swap ake (i:=3) xX;?_
  simp only[z2,dr,pull]at aqy
  refine⟨(k+1,st.take ((st.length:Int)-(l.getD k.toNat bG).n).toNat++[e1],aFt),aW,(((wT.u4.u4.u4.u4.u4.u1.u1.u1).t Kq O)).u4.u4.u4.u4.u4,(Hp.conv (aqy.sub (sQ (sQ (sQ sR)))) HY),rfl,(aK I aL),J,J,?_,?_⟩
  ·(rw[he3];exact Bf h0 ‹k<_› hst ‹¬(List.getD l k.toNat bG).op=1› ‹¬(List.getD l k.toNat bG).op=2› O wX)
  (have hq:=(fQ hr h0 ‹k<_› Er ‹¬(List.getD l k.toNat bG).op=1› ‹¬(List.getD l k.toNat bG).op=2›);rw[hq.2.2,ec,dW,eA];congr 1<;>omega)
 refine a8 (id:=0) rfl<|SR<|aE zi<|V (ah (gT.sl (i:=0) O) bU fl O O RY)<|V (gz (gT.sl (i:=0) O) bI O O O RY)<|bk gT (i:=1) O (cR O zj O (gT.blk (i:=1) O))<|fun aOv akf=> ?_
 simp only[z2,dr,pull]at akf
 refine va (v:=B true) rfl<|aa<|aj<|EA O zj O akf (i:=1) O bI O jL ⟨?_,akf.below⟩
 (rw[M4 hr hk ‹¬k<_› hst];rfl)
theorem lO(b:Nat)(r:Rl)(d s:Int)(vw vj:Value)(a:BitVec 64)(w:World)(hb:w.heap[b]?=some (.cells (lJ r d s vw vj).toArray 212 (0,0)))(hW:Sl w vw 1 (oA r (pts r).toNat).length ((oA r (pts r).toNat).map U)):Calls Tryz.prog 174 #[.pointer (some ⟨b,0,none⟩),U a] w (Pure (I (EC r a)) w):=by
 have hp:=dA r
 have hpp:pts r=max 0 (min r.n 64):=rfl
 have hwl:=An (r:=r) (k:=(pts r).toNat)
 refine eH func174 rfl rfl fun hH=>SR<|va (v:=I 0) rfl<|aa<|ai<|SR<|aE (v:=Pn _ _) rfl<|V (af O)<|V (fA ny 68 O jE O)<|V (aG dh O O (hH.eP hb EE))<|V (aC (hW.hp hH) O dh O)<|aE (v:=I 0) rfl<|aa<|aA<|bt (G:=Int) (fun k s' w'=>(Fr (rg 4 3 (rg 12 10 [])) _ s')/\(Hp w w' _)/\(s' 12=I k)/\(0<=k)/\(k<=pts r)/\(∀j:Int,0<=j->j<k->bQ r j≠a)) (fun k=>(pts r-k).toNat) (0) ⟨Fr.refl _ _,hH,rfl,J,J,fun j a b=>absurd b J⟩<| ?_
 rintro k sg1 w1 ⟨uJ,jf,acC,h0,hk,hf⟩
 obtain⟨AA,ayE,ayF⟩:=uJ.w3 1 10 11
 refine SR<|V (aN acC ayF)<|aa<|ai<|aF O (fun h3=> ?_) (fun h3=> ?_)
 .refine an<|ai<|aA<|SR<|aE acC<|V (ah (hW.hp jf) dh cQ ayE acC J)<|V (aG dM O O (sM (hW.hp jf) J))<|aI rfl<|aU rfl<|aa<|SR<|mU rfl<|aE AA<|V (iU O O)<|aa<|aF O (fun h5=> ?_) (fun h5=> ?_)
  .refine SR<|mI rfl<|aI rfl<|aa<|aj<|oI O ?_ jf
   exact(asj h0 J aQ hf).symm
  refine an<|au<|V (ax acC O J)<|mI rfl<|aa<| ?_
  refine⟨k+1,aW,uJ.u4.u4.u1.u1.u1,jf,(aK I aL),J,J,?_⟩
  exact fun j a b=>if e:j=k then e▸‹¬bQ r k=_›else hf j a J
 refine a8 (id:=0) rfl<|SR<|va (v:=I (-1)) rfl<|aa<|aj<|oI O ?_ jf
 exact(axb (k:=k) J hf).symm
set_option maxHeartbeats 1000000 in
theorem FT(W0:World)(b:Nat)(r:Rl)(L:List bu)(w:World)(hT:o6 W0)(hH:Hp W0 w (.blk b (.cells (lJ r 0 1 (.slice none 0 0) (.slice none 0 0)).toArray 212 (0,0))::L)):Calls Tryz.prog 173 #[.pointer (some ⟨b,0,none⟩)] w (jY fun u w'=>u= .tuple #[]/\∃(v1 v2:Value) (rs:List SV) (Z:List bu),IW (Kz KN Z) r v1 v2 rs/\Hp W0 w' (.blk b (.cells (lJ r 0 1 (v1) (v2)).toArray 212 (0,0))::(Z++L))):=by
 have hp:=dA r
 have hpp:pts r=max 0 (min r.n 64):=rfl
 have hwl:=An (r:=r) (k:=(pts r).toNat)
 refine en func173 rfl rfl<|have hN:=(hH.eR 100 1).eR 35 1;SR<|aE (v:=Pn _ _) rfl<|V (af O)<|V (fA ny 0 O iX O)<|V (fA bS 0 O aO O)<|V (aG bx O O (hN.cell (i:=2) O axc))<|V (vA O O)<|V (Gf O O)<|aI rfl<|aa<|ai<|SR<|mI rfl<|aE (v:=I 0) rfl<|aa<|aA<|bt (G:=Int×Value) (fun⟨k,v1⟩ s' w'=>(Fr (3::(rg 17 19 [])) _ s')/\(Hp W0 w' (.row v1 35 1 (oA r (k).toNat).length ((oA r (k).toNat).map U)::_:: .blk b (.cells (lJ r 0 1 (v1) (.slice none 0 0)).toArray 212 (0,0))::_))/\(s' 17=I k)/\(0<=k)/\(k<=pts r)) (fun⟨k,v1⟩=>(pts r-k).toNat) ((0,.slice none 0 0)) ⟨Fr.refl _ _,hN,rfl,J,J⟩<| ?_
 rintro⟨k,v1⟩ sg1 w1 ⟨uJ,jf,akg,h0,hk⟩
 obtain⟨my,ajO,ayG⟩:=uJ.w3 0 2 16
 have hwk:=An (r:=r) (k:=k.toNat)
 refine SR<|V (aN akg ayG)<|aa<|ai<|aF O (fun h3=> ?_) (fun h3=> ?_)
 .refine an<|Fy (G:=(Value)) jf (3::(rg 19 16 [])) (fun(L:List bu) (v3:(Value))=>((L).set 2 (.blk b (.cells (lJ r 0 1 (v3) (.slice none 0 0)).toArray 212 (0,0)))).set 0 (.row v3 35 1 (oA r ((k+1)).toNat).length ((oA r ((k+1)).toNat).map U))) (fun(v3:(Value)) s'=>True) ?_ ?_
  .refine aA<|SR<|aE akg<|aI rfl<|aa<|gp aP jf (sQ (sP (sQ sR)))<|fun w4 bY=>have Ph:=bY.sub (sQ (sP (sQ sR)));AQ 0 O Ph (run_move my)<|AQ 1 O Ph (run_move my)<|AQ 2 O Ph (af O)<|AQ 3 O Ph (fA ny 68 O jE O)<|AQ 5 O Ph (run_move my)<|AQ 6 O Ph (af O)<|AQ 7 O Ph (fA ny 0 O iX O)<|AQ 9 O Ph (mV (I _) O)<|gq 4 8 aP ?_ ?_
   .refine cf O aD O bY (sQ (sP (sQ sR))) (aG dh O O (bY.cell (i:=2) O EE))<|A1 8<|cf O aD O bY (sQ (sP (sQ sR))) (IX bS O O O (bY.blk (i:=2) O))<|A1 10<|cw O aD O bY (sQ (sP (sQ sR))) (oX _ _ _ (hT.hp bY)) (aM HX O O)<|fun EL df=>A1 11<|cH O aD O df (sQ (sP (sQ sR))) (f:=fun b=> .slice (some ⟨b,0,none⟩) 1 1) (cB dh O O (sz:=1) (vs:=[U _]) O O az az O O)<|fun b14 zc bX=> ?_
    (try simp only[lj]at bX)
    refine A1 12<|fT O aD O bX (j:=1) O (fun _=>(sQ (sQ (sP (sQ sR))))) (bX.dS (i:=0) (n:=1) (sz:=1) O O az) O O dh O O (size:=1) (bytes:=8) O O O az gX J iz<|fun v17 Tm cI=> ?_
    simp only[z2,dr,pull]at cI
    refine AQ 13 O (cI.sub (sQ (sQ (sP (sQ sR))))) (af O)<|AQ 14 O (cI.sub (sQ (sQ (sP (sQ sR))))) (fA ny 68 O jE O)<|A1 15<|ef O aD cI (j:=3) O (sQ (sQ (sP (sQ sR)))) (bM O O (v:=v17) O (a6 (cI.get (i:=1) O)).1 (a6 (cI.get (i:=1) O)).2 (cI.blk (i:=3) O) LI)<|fun Z7 fJ=> ?_
    simp only[z2,dr,pull]at fJ
    rw[GI]at fJ
    refine AD ?_
    refine⟨((Fr.refl _ _)).u4.u4.u4.u4.u1,v17,(Hp.conv (fJ.sub (sQ sR)) RZ),trivial⟩
   refine cf O aD O bY (sQ (sP (sQ sR))) (IX bS O O O (bY.blk (i:=2) O))<|gq 4 10 aP ?_ ?_
   .refine cf O aD O bY (sQ (sP (sQ sR))) (aG dh O O (bY.cell (i:=2) O EE))<|A1 10<|cw O aD O bY (sQ (sP (sQ sR))) (oX _ _ _ (hT.hp bY)) (aM HX O O)<|fun Wx dK=>A1 11<|cH O aD O dK (sQ (sP (sQ sR))) (f:=fun b=> .slice (some ⟨b,0,none⟩) 1 1) (cB dh O O (sz:=1) (vs:=[U _]) O O az az O O)<|fun b30 w28 gj=> ?_
    (try simp only[lj]at gj)
    refine A1 12<|fT O aD O gj (j:=1) O (fun _=>(sQ (sQ (sP (sQ sR))))) (gj.dS (i:=0) (n:=1) (sz:=1) O O az) O O dh O O (size:=1) (bytes:=8) O O O az gX J iz<|fun v33 w31 iC=> ?_
    simp only[z2,dr,pull]at iC
    refine AQ 13 O (iC.sub (sQ (sQ (sP (sQ sR))))) (af O)<|AQ 14 O (iC.sub (sQ (sQ (sP (sQ sR))))) (fA ny 68 O jE O)<|A1 15<|ef O aD iC (j:=3) O (sQ (sQ (sP (sQ sR)))) (bM O O (v:=v33) O (a6 (iC.get (i:=1) O)).1 (a6 (iC.get (i:=1) O)).2 (iC.blk (i:=3) O) LI)<|fun w36 uw=> ?_
    simp only[z2,dr,pull]at uw
    rw[GI]at uw
    refine AD ?_
    refine⟨((Fr.refl _ _)).u4.u4.u4.u4.u1,v33,(Hp.conv (uw.sub (sQ sR)) RZ),trivial⟩
   refine cw O aD O bY (sQ (sP (sQ sR))) (oX _ _ _ (hT.hp bY)) (aM HX O O)<|fun w38 kF=>gq 4 11 aP ?_ ?_
   .refine cf O aD O kF (sQ (sP (sQ sR))) (aG dh O O (kF.cell (i:=2) O EE))<|A1 11<|cH O aD O kF (sQ (sP (sQ sR))) (f:=fun b=> .slice (some ⟨b,0,none⟩) 1 1) (cB dh O O (sz:=1) (vs:=[U _]) O O az az O O)<|fun b44 w42 mo=> ?_
    (try simp only[lj]at mo)
    refine A1 12<|fT O aD O mo (j:=1) O (fun _=>(sQ (sQ (sP (sQ sR))))) (mo.dS (i:=0) (n:=1) (sz:=1) O O az) O O dh O O (size:=1) (bytes:=8) O O O az gX J iz<|fun v47 w45 oe=> ?_
    simp only[z2,dr,pull]at oe
    refine AQ 13 O (oe.sub (sQ (sQ (sP (sQ sR))))) (af O)<|AQ 14 O (oe.sub (sQ (sQ (sP (sQ sR))))) (fA ny 68 O jE O)<|A1 15<|ef O aD oe (j:=3) O (sQ (sQ (sP (sQ sR)))) (bM O O (v:=v47) O (a6 (oe.get (i:=1) O)).1 (a6 (oe.get (i:=1) O)).2 (oe.blk (i:=3) O) LI)<|fun w50 rX=> ?_
    simp only[z2,dr,pull]at rX
    rw[GI]at rX
    refine AD ?_
    refine⟨((Fr.refl _ _)).u4.u4.u4.u4.u1,v47,(Hp.conv (rX.sub (sQ sR)) RZ),trivial⟩
   refine cH O aD O kF (sQ (sP (sQ sR))) (f:=fun b=> .slice (some ⟨b,0,none⟩) 1 1) (cB dh O O (sz:=1) (vs:=[U _]) O O az az O O)<|fun b54 w52 jD=> ?_
   (try simp only[lj]at jD)
   refine A1 4<|cf O aD O jD (sQ (sQ (sP (sQ sR)))) (aG dh O O (jD.cell (i:=3) O EE))<|A1 12<|fT O aD O jD (j:=1) O (fun _=>(sQ (sQ (sP (sQ sR))))) (jD.dS (i:=0) (n:=1) (sz:=1) O O az) O O dh O O (size:=1) (bytes:=8) O O O az gX J iz<|fun v59 w57 oK=> ?_
   simp only[z2,dr,pull]at oK
   refine AQ 13 O (oK.sub (sQ (sQ (sP (sQ sR))))) (af O)<|AQ 14 O (oK.sub (sQ (sQ (sP (sQ sR))))) (fA ny 68 O jE O)<|A1 15<|ef O aD oK (j:=3) O (sQ (sQ (sP (sQ sR)))) (bM O O (v:=v59) O (a6 (oK.get (i:=1) O)).1 (a6 (oK.get (i:=1) O)).2 (oK.blk (i:=3) O) LI)<|fun w62 nU=> ?_
   simp only[z2,dr,pull]at nU
   rw[GI]at nU
   refine AD ?_
   refine⟨((Fr.refl _ _)).u4.u4.u4.u4.u1,v59,(Hp.conv (nU.sub (sQ sR)) RZ),trivial⟩
  rintro v3 aOx w64 ayI wS-
  simp only[z2,dr,pull]at wS
  have at2:=ayI.t1 17 akg
  refine au<|V (ax at2 O J)<|mI rfl<|aa<| ?_
  refine⟨(k+1,v3),aW,(((uJ.u O).t ayI O)).u1.u1,(Hp.conv wS aL),(aK I aL),J,J⟩
 refine a8 (id:=0) rfl<|SR<|aE ajO<|aE (v:=I 0) rfl<|aa<|aA<|have HB:k.toNat=(pts r).toNat:=J;?_
 rw[HB]at jf
 refine bt (G:=Int×Value×(List SV)×(List bu)) (fun⟨i,v2,rs,Z1⟩ s' w'=>(Fr (rg 4 5 (rg 37 76 [])) _ s')/\(Hp W0 w' (_:: .row v2 100 1 rs.length (rs.map SV.v):: .blk b (.cells (lJ r 0 1 (v1) (v2)).toArray 212 (0,0))::Z1))/\(s' 37=I i)/\(0<=i)/\(i<=pts r)/\(rs.map SV.l=FE r (pts r).toNat i.toNat)/\(∃Zr,Z1=Zr++L/\∀x∈rs,oR (Kz KN Zr) x.v 1 x.l.length (x.l.map U))/\(rs.length=i.toNat)) (fun⟨i,v2,rs,Z1⟩=>(pts r-i).toNat) ((0,.slice none 0 0,[],L)) ⟨Fr.refl _ _,jf,rfl,J,J,rfl,⟨[],rfl,fun x hx=>by cases hx⟩,rfl⟩ ?_
 rintro⟨i,v2,rs,Z1⟩ aOy w65 ⟨at3,wR,aaz,i0,hi,hrs,hZ,hln⟩
 have at4:=at3.w1 36
 obtain⟨ayJ,aqz⟩:=at3.t2 0 my 2 ajO
 obtain⟨Zr,rfl,hE⟩:=hZ
 refine SR<|V (aN aaz at4)<|aa<|ai<|aF O (fun h67=> ?_) (fun h67=> ?_)
 .refine an<|ai<|aA<|SR<|aE aaz<|aI rfl<|aa<|SR<|aE aqz<|YB O wR (f:=fun b=>(.slice (some ⟨b,0,none⟩) (pts r).toNat (pts r).toNat)) (P9 (cl:=fun x:BitVec 64=>[U x]) (sz:=1) (z0:=0#64) (n:=(pts r).toNat) (fun _=>rfl) az dh O O aP O (aK I (show _=(((pts r).toNat:Nat):Int)from by omega)) (aK I (show _=(((pts r).toNat:Nat):Int)from by omega)) (by show 8*_<=_;omega) iz)<|fun b68 w69 wA=> ?_
  rw[mk_zero (r:=r) (i:=i)]at wA
  have akh:=wA.sF (pts r).toNat 1 (by rw[gF,Cp,lX]) iz
  refine V (run_assign bA) ?_
  refine aa<|ai<|SR<|aE aqz<|aE (v:=I 0) rfl<|aa<|aA<|bt (G:=Int) (fun j s' w'=>(Fr (rg 6 3 (rg 43 59 [])) _ s')/\(Hp W0 w' (.row (.slice (some ⟨b68,0,none⟩) (pts r).toNat (pts r).toNat) 35 1 (pts r).toNat ((Ao r i (pts r).toNat j.toNat).map U)::_))/\(s' 43=I j)/\(0<=j)/\(j<=pts r)) (fun j=>(pts r-j).toNat) (0) ⟨Fr.refl _ _,akh,rfl,J,J⟩<| ?_
  rintro j aOz w72 ⟨aki,Jg,TF,j0,hj⟩
  obtain⟨aqA,akj,at5⟩:=aki.w3 4 5 42
  obtain⟨EV,at6⟩:=aki.t2 0 ayJ 37 aaz
  refine SR<|V (aN TF at5)<|aa<|ai<|aF O (fun h74=> ?_) (fun h74=> ?_)
  .refine an<|ai<|aA<|SR<|aE TF<|aI rfl<|aa<|ai<|gp aP Jg (sQ sR)<|fun w75 oL=>have qS:=oL.sub (sQ sR);AQ 0 O qS (run_move akj)<|AQ 1 O qS (mV (I _) O)<|AQ 2 O qS (run_move EV)<|AQ 3 O qS (af O)<|AQ 4 O qS (fA ny 68 O jE O)<|AT 5 O qS (fun w hS=>aG dh O O (hS.cell (i:=2) O EE))<|AQ 6 O qS (run_move aqA)<|AT 7 O qS (fun w hS=>ah (hS.sl (i:=0) O) dh cQ O O J)<|AT 8 O qS (fun w hS=>aG dM O O (sM (hS.sl (i:=0) O) J))<|AQ 9 O qS (run_move EV)<|AQ 10 O qS (af O)<|AQ 11 O qS (fA ny 68 O jE O)<|AT 12 O qS (fun w hS=>aG dh O O (hS.cell (i:=2) O EE))<|AQ 13 O qS (mV (I _) O)<|AT 14 O qS (fun w hS=>ah (hS.sl (i:=0) O) dh cQ O O J)<|AT 15 O qS (fun w hS=>aG dM O O (sM (hS.sl (i:=0) O) J))<|AQ 16 O qS (iH O O)<|A1 17<|cf O aD O oL (sQ sR) (ah (oL.sl (i:=0) O) dh cQ O O J)<|A1 18<|ar9 (u:=U _) O aD oL (i:=0) O (fun _=>(sQ sR)) J O O O O O J<|fun w81 oZ=> ?_
   simp only[z2,dr,pull]at oZ
   rw[CI afX,GH,lX]at oZ
   refine AD<|ai<|ed aP oZ<|fun w83 lm=>have r5:=lm;AQ 0 O r5 (run_move EV)<|AQ 1 O r5 (af O)<|AQ 2 O r5 (fA ny 0 O iX O)<|AT 3 O r5 (fun w hS=>IX bS O O O (hS.blk (i:=3) O))<|AQ 4 O r5 (run_move EV)<|AQ 5 O r5 (run_move EV)<|AQ 6 O r5 (af O)<|AQ 7 O r5 (fA ny 68 O jE O)<|AT 8 O r5 (fun w hS=>aG dh O O (hS.cell (i:=3) O EE))<|AQ 9 O r5 (run_move aqA)<|AT 10 O r5 (fun w hS=>ah (hS.sl (i:=1) O) dh cQ O O J)<|AT 11 O r5 (fun w hS=>aG dM O O (sM (hS.sl (i:=1) O) J))<|AQ 13 O r5 (run_move EV)<|AQ 14 O r5 (run_move EV)<|AQ 15 O r5 (af O)<|AQ 16 O r5 (fA ny 68 O jE O)<|AT 17 O r5 (fun w hS=>aG dh O O (hS.cell (i:=3) O EE))<|AQ 18 O r5 (mV (I _) O)<|AT 19 O r5 (fun w hS=>ah (hS.sl (i:=1) O) dh cQ O O J)<|AT 20 O r5 (fun w hS=>aG dM O O (sM (hS.sl (i:=1) O) J))<|A1 12<|cw O aD O lm sR (lO _ _ _ _ _ _ _ _ (lm.blk (i:=3) O) (lm.sl (i:=1) O)) (aM call174 O O)<|fun w85 uy=>A1 21<|cw O aD O uy sR (lO _ _ _ _ _ _ _ _ (uy.blk (i:=3) O) (uy.sl (i:=1) O)) (aM call174 O O)<|fun w87 zh=>A1 22<|cw O aD O zh sR (AM _ _ _ _ (hT.hp zh)) (bz call168 O O O)<|fun w89 oM=>have Dk:=oM;?_
   refine AQ 23 O Dk (run_move bA) ?_
   refine AQ 24 O Dk (bg O (v:=I _) O)<|AQ 25 O Dk (bg O (v:=B _) O)<|AQ 26 O Dk (aV (I _) O)<|AQ 27 O Dk (aV (B _) O)<|AD<|SR<|mB rfl<|aa<|bW O (fun h92=> ?_) (fun h92=> ?_)
   .refine au<|aE akj<|mI rfl<|aE EV<|V (af O)<|V (fA ny 68 O jE O)<|V (aG dh O O (oM.cell (i:=3) O EE))<|mI rfl<|V (ah (oM.sl (i:=1) O) dh cQ O O afM)<|V (aG dM O O (sM (oM.sl (i:=1) O) afM))<|V (ah (oM.sl (i:=0) O) dh cQ O O J)<|Ah (u:=U _) oM (i:=0) O J O O O O O J<|fun w93 uz=> ?_
    simp only[z2,dr,pull]at uz
    rw[CI afX,GH,lX]at uz
    refine aa<|au<|V (ax TF O J)<|mI rfl<|aa<| ?_
    refine⟨j+1,aW,aki.u4.u4.u4.u4.u4.u4.u4.u4.u4.u4.u4.u4.u4.u4.u4.u1.u1,(Hp.conv uz (by rw[aea J (ad7 ‹_=true›).symm];done)),(aK I aL),J,J⟩
   refine an<|au<|V (ax TF O J)<|mI rfl<|aa<| ?_
   refine⟨j+1,aW,aki.u4.u4.u4.u4.u4.u4.u4.u4.u4.u4.u4.u4.u4,(Hp.conv oM (by rw[Vz J (aic ‹_=false›).symm];done)),(aK I aL),J,J⟩
  refine a8 (id:=4) rfl<|au<|aE EV<|aE EV<|V (af O)<|V (fA ny 69 O sizeOf210 O)<|V (aG Lx O O (Jg.cell (i:=3) O apA))<|aE akj<|tR 1 1 Jg (yO (v:=(.slice (some ⟨b68,0,none⟩) (pts r).toNat (pts r).toNat)) O Lx O O O O)<|fun b97 w95 pY=> ?_
  (try simp only[lj]at pY)
  refine gf O pY (i:=3) O (pY.dS (i:=0) (n:=1) (sz:=1) O O az) O O Lx O O (size:=1) (bytes:=24) O O O az gX J iz<|fun v98 w99 wB=> ?_
  simp only[z2,dr,pull]at wB
  refine V (af O)<|V (fA ny 69 O sizeOf210 O)<|bk wB (i:=4) O (bM O O (v:=v98) O (a6 (wB.get (i:=3) O)).1 (a6 (wB.get (i:=3) O)).2 (wB.blk (i:=4) O) LI)<|fun atX rM=> ?_
  simp only[z2,dr,pull]at rM
  rw[aie]at rM
  refine aa<|au<| ?_
  rw[show j.toNat=(pts r).toNat by omega]at rM
  obtain⟨aat,aj5,aj6,-⟩:=(rM.pj [1]).T4 (KN)
  have nj:Hp _ atX (_::_::_::_::(aat++(Zr++L))):=aj5.HD (L:=[_,_,_,_]) (L':=(Zr++L))
  refine V (ax at6 O J)<|mI rfl<|aa<| ?_
  refine⟨(i+1,v98,rs++[SV.mk (.slice (some ⟨b68,0,none⟩) (pts r).toNat (pts r).toNat) (Ao r i (pts r).toNat (pts r).toNat)],(aat++(Zr++L))),aW,(((at3.u4.u4).t aki O)).u4.u4.u4.u1,(Hp.conv (nj.sub (sQ sR)) (by simp only[gV,ec,lT,Cc,eA];done)),(aK I aL),J,J,?_,?_,?_⟩
  .rw[gV,hrs,Zu i0];rfl
  .exact⟨aat++Zr,(dG _ _ _).symm,aii hE aj6⟩
  rw[ec,eA];omega
 refine a8 (id:=2) O ?_
 obtain⟨aom,ayL,ayM,-⟩:=wR.T4 (KN)
 have Q4:Hp _ w65 (_::_::(aom++(Zr++L))):=ayL.HD (L:=[_,_]) (L':=(Zr++L))
 obtain⟨ayN,ayO,ayP,-⟩:=Q4.T4 (KN)
 have xC:Hp _ w65 (_::(ayN++(aom++(Zr++L)))):=ayO.HD (L:=[_]) (L':=(aom++(Zr++L)))
 have ei:i=pts r:=J
 rw[show i.toNat=(pts r).toNat by omega]at hrs
 have hTV:IW (Kz KN (ayN++(aom++Zr))) r v1 v2 rs:=⟨ayM.mono (Le.zz (fun x hx=>(bH _ (dL _ hx)))),ayP.mono (Le.zz (fun x hx=>(dL _ hx))),fun x hx=>(hE x hx).mono (Le.zz (fun x hx=>(bH _ (bH _ hx)))),hrs⟩
 exact rh O ⟨rfl,v1,v2,rs,_,hTV,by simpa only[dG]using xC⟩
section
theorem Ox(w:World):(callFunc 259 #[]).run Tryz.prog w= .ok (.value (.tuple #[])) w:=run_call_mark0 func259 aP aP aP .disable aP w
theorem Q5(w:World):(callFunc 261 #[]).run Tryz.prog w= .ok (.value (.tuple #[])) w:=run_call_mark0 func261 aP aP aP .enable aP w
theorem aaB(a:Addr)(w:World):(callFunc 262 #[.pointer (some a)]).run Tryz.prog w= .ok (.value (.tuple #[])) w:=run_call_marked func262 aP aP aP .acquire aP a w
theorem akk(a:Addr)(w:World):(callFunc 264 #[.pointer (some a)]).run Tryz.prog w= .ok (.value (.tuple #[])) w:=run_call_marked func264 aP aP aP .releaseMerge aP a w
theorem akl(a:Addr)(x:Value)(u:FrameMode)(w:World)(hc:w.cell? a=some x)(hz:w.frozen? a=false):
  CallsD Tryz.prog 237 #[.pointer (some a),.bool true] u w fun e u' w'=>u'=u/\(e= .returned (.tuple #[])/\w'=w.drew.setCell a (.int .u32 1)):=by
 have hc':w.drew.cell? a=some x:=by go_simp
 have hz':w.drew.frozen? a=false:=by go_simp
 have hst:=run_call_store (P:=Tryz.prog) func255 aP aP aP aP (k:= .u32) (y:=1) hc' hz'
 go_enter_d func237,ntmps237
 go_wp2
 go_region_calls
 all_goals(go_end0;exact⟨rfl,rfl⟩)
theorem aeV(a:Addr)(u:FrameMode)(w:World)(hc:w.cell? a=some (.int .i32 1))(hz:w.frozen? a=false):
  CallsD Tryz.prog 236 #[.pointer (some a)] u w fun e u' w'=>u'=u/\(e= .returned (.tuple #[])/\w'=w.setCell a (.int .i32 0)):=by
 have hd:=Ox
 have he:=Q5
 have hr:=akk
 have axV:=run_call_add (P:=Tryz.prog) func265 aP aP aP .i32 aP (y:= -1) (s:=0) hc hz (by simp[go_sem];rfl)
 have hcv:=run_convert_to_unsafe (P:=Tryz.prog) (src:=273) (dst:=277) underlying273 underlying277 aP hc
 go_enter_d func236,ntmps236
 go_wp2
 go_end0
 go_wp2
 go_end0
 exact⟨rfl,rfl⟩
theorem aon(a:Addr)(w:World)(hc:w.cell? a=some (.int .i32 0))(hz:w.frozen? a=false):
  Calls Tryz.prog 235 #[.pointer (some a)] w fun e w'=>e= .returned (.tuple #[])/\w'=w.setCell a (.int .i32 1):=by
 have hd:=Ox
 have he:=Q5
 have ha:=aaB
 have aOC:=run_call_cas_hit (P:=Tryz.prog) func260 aP aP aP .i32 aP (y:=1) hc hz
 have hc':(w.setCell a (.int .i32 1)).cell? a=some (.int .i32 1):=World.cell?_setCell_same w a _ hc
 have hcv:=run_convert_to_unsafe (P:=Tryz.prog) (src:=273) (dst:=277) underlying273 underlying277 aP hc'
 go_enter func235,ntmps235
 go_wp2
 refine bodyPost_ret (results_none O _ _ _) O ?_
 go_wp2
 go_end0
 exact⟨rfl,rfl⟩
theorem aoo{q:Value->World->Prop}{e:Ending}{w:World}(h:jY q e w):∃v,e= .returned v/\q v w:=by
 cases e<;>first|exact⟨_,rfl,h⟩|exact h.elim
set_option maxRecDepth 100000 in
set_option maxHeartbeats 1600000 in
theorem aop(W0 w:World)(b:Nat)(r:Rl)(L:List bu)(hT:o6 W0)(hH:Hp W0 w (.blk b (.cells (lJ r 0 0 (.slice none 0 0) (.slice none 0 0)).toArray 212 (0,0))::L)):
  Calls Tryz.prog 207 #[.pointer (some ⟨b,65,none⟩),.func (.func 173) #[.pointer (some ⟨b,0,none⟩)] #[]] w fun e w'=>e= .returned (.tuple #[])/\∃(v1 v2:Value) (rs:List SV) (Z:List bu),IW (Kz KN Z) r v1 v2 rs/\Hp W0 w' (.blk b (.cells (lJ r 1 0 (v1) (v2)).toArray 212 (0,0))::(Z++L)):=by
 have Hh:w.cell? ⟨b,65+1,none⟩=some (.int .i32 0):=hH.cell (i:=0) O apz
 have f66:w.frozen? ⟨b,65+1,none⟩=false:=hH.fz (i:=0) O
 have jf:=hH.setCell (i:=0) (b:=b) (o:=66) (v:= .int .i32 1) O
 simp only[jh,VA]at jf
 have hl:=Yh (P:=Tryz.prog) func234 aP aP aP .u32 aP (w:=w.setCell ⟨b,65+1,none⟩ (.int .i32 1)) (a:=⟨b,65,none⟩) (x:=0) (jf.cell (i:=0) O abF)
 have ayQ:∀(x:Bool) (w:World),(Op.unary .not (.bool x)).run Tryz.prog w= .ok (.bool (!x)) w:=fun _ _=>rfl
 go_enter_defers func207,ntmps207
 go_wp2_with (go_at_call 235;refine(aon ⟨b,65+1,none⟩ _ Hh f66).mono ?_;rintro e w' ⟨rfl,rfl⟩)
 go_wp2_with (first|(go_at_call 173;refine(FT W0 b r L _ hT jf).mono ?_;intro e w' hr;obtain⟨v,rfl,rfl,v1,v2,rs,Z,hV,bp⟩:=aoo hr)|(go_at_call 206;go_in))
 refine leaves_cons (f:=237) (args:=#[.pointer (some ⟨b,65,none⟩),.bool true]) aJ (by simp[go_sem])<|(akl ⟨b,65,none⟩ (.int .u32 0) .returning _ (bp.cell (i:=0) O abF) (bp.fz (i:=0) O)).mono<| ?_
 rintro e u' w'' ⟨rfl,rfl,rfl⟩
 have tZ:=bp.drew.setCell (i:=0) (b:=b) (o:=65) (v:= .int .u32 1) O
 simp only[jh,aif]at tZ
 refine leaves_cons (f:=236) (args:=#[.pointer (some ⟨b,66,none⟩)]) (by simp[settle]) (by simp[go_sem])<|(aeV ⟨b,66,none⟩ _ _ (tZ.cell (i:=0) O apz) (tZ.fz (i:=0) O)).mono<| ?_
 rintro e u' w'' ⟨rfl,rfl,rfl⟩
 have iw:=tZ.setCell (i:=0) (b:=b) (o:=66) (v:= .int .i32 0) O
 simp only[jh,VA]at iw
 simp[Leaves,settle,results,results207]
 exact⟨v1,v2,rs,Z,hV,iw⟩
set_option maxRecDepth 100000 in
set_option maxHeartbeats 1600000 in
theorem akm(W0 w:World)(b:Nat)(r:Rl)(L:List bu)(hT:o6 W0)(hH:Hp W0 w (.blk b (.cells (lJ r 0 0 (.slice none 0 0) (.slice none 0 0)).toArray 212 (0,0))::L)):
  Calls Tryz.prog 172 #[.pointer (some ⟨b,65,none⟩),.func (.func 173) #[.pointer (some ⟨b,0,none⟩)] #[]] w fun e w'=>e= .returned (.tuple #[])/\∃(v1 v2:Value) (rs:List SV) (Z:List bu),IW (Kz KN Z) r v1 v2 rs/\Hp W0 w' (.blk b (.cells (lJ r 1 0 (v1) (v2)).toArray 212 (0,0))::(Z++L)):=by
 have hl:=Yh (P:=Tryz.prog) func234 aP aP aP .u32 aP (hH.cell (i:=0) O abF)
 have ayQ:∀(x:Bool) (w:World),(Op.unary .not (.bool x)).run Tryz.prog w= .ok (.bool (!x)) w:=fun _ _=>rfl
 go_enter func172,ntmps172
 go_wp2_with (first|(go_at_call 207;refine(aop W0 _ b r L hT hH).mono ?_;rintro e w' ⟨rfl,hq⟩)|(go_at_call 206;go_in))
 go_end0
 exact⟨rfl,hq⟩
theorem aoq(w:World)(b:Nat)(fv:Value)(h0:w.cell? ⟨b,65,none⟩=some (.int .u32 1)):
  Calls Tryz.prog 172 #[.pointer (some ⟨b,65,none⟩),fv] w fun e w'=>e= .returned (.tuple #[])/\w'=w:=by
 have hl:=Yh (P:=Tryz.prog) func234 aP aP aP .u32 aP h0
 have ayQ:∀(x:Bool) (w:World),(Op.unary .not (.bool x)).run Tryz.prog w= .ok (.bool (!x)) w:=fun _ _=>rfl
 go_enter func172,ntmps172
 go_wp2
 go_end0
 exact⟨rfl,rfl⟩
theorem at7(W0 w:World)(b:Nat)(r:Rl)(Z L:List bu)(hT:o6 W0)(hZ:TbZ 212 r b Z)(hH:Hp W0 w (Z++L)):
  Calls Tryz.prog 172 #[.pointer (some ⟨b,65,none⟩),.func (.func 173) #[.pointer (some ⟨b,0,none⟩)] #[]] w (jY fun u w'=>u= .tuple #[]/\∃(v1 v2:Value) (rs:List SV) (Z:List bu),IW (Kz KN Z) r v1 v2 rs/\Hp W0 w' (.blk b (.cells (lJ r 1 0 (v1) (v2)).toArray 212 (0,0))::(Z++L))):=by
 rcases hZ with rfl|⟨v1,v2,rs,Zr,rfl,hV⟩
 .exact(akm W0 w b r L hT hH).mono fun e w' ⟨he,hq⟩=>by subst he;exact⟨rfl,hq⟩
 exact(aoq w b _ (hH.cell (i:=0) O abF)).mono fun e w' ⟨he,hw⟩=>by subst he hw;exact⟨rfl,v1,v2,rs,Zr,hV,hH⟩
end
theorem Eg(W0:World)(b:Nat)(r:Rl)(Z L:List bu)(a c:BitVec 64)(w:World)(hT:o6 W0)(hZ:TbZ 212 r b Z)(hH:Hp W0 w (Z++L)):Calls Tryz.prog 142 #[.pointer (some ⟨b,0,none⟩),U a,U c] w (jY fun u w'=>u=U (ju r a c)/\∃Z',TbZ 212 r b Z'/\Hp W0 w' (Z'++L)):=by
 refine en func142 rfl rfl<|SR<|va (v:=U 0#64) rfl<|aa<|SR<|aE (v:=Pn _ _) rfl<|V (af O)<|V (fA ny 65 O sizeOf209 O)<|aE (v:=Pn _ _) rfl<|V (aij (v:=Pn _ _) O)<|cD O (at7 W0 _ b r Z L hT hZ hH) (aM call172 O O)<| ?_
 rintro _ w1 ⟨rfl,v1,v2,rs,Zr,hV,bp⟩
 have ha:=apB r a
 have hc:=apB r c
 have hln:=hV.len
 have hp:=dA r
 refine aa<|SR<|aE (v:=Pn _ _) rfl<|mU rfl<|aH O bp (lO _ _ _ _ _ _ _ _ (bp.blk (i:=0) O) ((hV.words).mono (bp.kz KN.le (fun x hx=>(mT (dL _ hx))))).sl) (aM call174 O O)<|fun w3 iw=>aE (v:=Pn _ _) rfl<|mU rfl<|aH O iw (lO _ _ _ _ _ _ _ _ (iw.blk (i:=0) O) ((hV.words).mono (iw.kz KN.le (fun x hx=>(mT (dL _ hx))))).sl) (aM call174 O O)<|fun w5 jQ=>aI rfl<|aI rfl<|aa<|ai<|SR<|mI rfl<|V (aN O O)<|mB rfl<|bK 23 O (fun h8=> ?_) (fun h8=> ?_)
 .refine aE (v:=B true) rfl<|aa<|ct rfl<|SR<|mU rfl<|mU rfl<|V (iH O O)<|aU rfl<|aa<|aj<|jA O (v:=U (ju r a c)) (jX O (aK U (by exact Qr J))) ⟨rfl,_,.inr ⟨v1,v2,rs,Zr,rfl,hV⟩,jQ⟩
 refine mI rfl<|V (aN O O)<|mB rfl<|aa<|aF O (fun h10=> ?_) (fun h10=> ?_)
 .refine SR<|mU rfl<|mU rfl<|V (iH O O)<|aU rfl<|aa<|aj<|jA O (v:=U (ju r a c)) (jX O (aK U (by exact Qr J))) ⟨rfl,_,.inr ⟨v1,v2,rs,Zr,rfl,hV⟩,jQ⟩
 refine an<|SR<|have hrw:=(hV.row (i:=EC r a) J).1;have hrl:(rs.getD (EC r a).toNat ru0).l.length=(pts r).toNat:=(by rw[hrw,Cp]);aE (v:=Pn _ _) rfl<|V (af O)<|V (fA ny 69 O sizeOf210 O)<|V (aG Lx O O (jQ.cell (i:=0) O apA))<|mI rfl<|V (ah ((hV.aih).mono (jQ.kz KN.le (fun x hx=>(mT (dL _ hx))))).sl Lx jE O O J)<|V (aG dh O O (((hV.aih).mono (jQ.kz KN.le (fun x hx=>(mT (dL _ hx))))).sl.cell _ _ (asm J)))<|mI rfl<|V (ah (((hV.row J).2).mono (jQ.kz KN.le (fun x hx=>(mT (dL _ hx))))).sl dh cQ O O J)<|V (aG dM O O ((((hV.row J).2).mono (jQ.kz KN.le (fun x hx=>(mT (dL _ hx))))).sl.atU J J))<|aU rfl<|aa<|aj<|jA O (v:=U (ju r a c)) (jX O (aK U (by rw[hrw,am4 J];exact aid J))) ⟨rfl,_,.inr ⟨v1,v2,rs,Zr,rfl,hV⟩,jQ⟩
theorem Jj(W0:World)(B:Nat)(tb:Kb)(tl:List (Nat×Rl))(Z R:List bu)(a c:El)(w:World)(hT:o6 W0)(htl:∀i,i<8->∀p,tb i=some p->p∈tl)(hB:Kz (Kw W0) R B (.cells (VB tb).toArray 199 (0,0)))(hZ:wN 212 tl Z)(hH:Hp W0 w (Z++R)):Calls Tryz.prog 141 #[.agg (iM a),.agg (iM c),.pointer (some ⟨B,0,none⟩)] w (jY fun u w'=>u= .agg (iM (py tb a c))/\∃Z',wN 212 tl Z'/\Hp W0 w' (Z'++R)):=by
 refine en func141 rfl rfl<|SR<|gN hH (v:= .agg _) rfl<|fun b3 w1 bp=>gN bp (v:= .agg _) rfl<|fun b6 w4 bY=>lK bY (aS eZ)<|fun b9 w7 eW=>aa<|ai<|SR<|V (cA (cs:=VB tb) Yi O O O (bj (eW.kz (Le.refl _) (fun x hx=>(mT (mT (mT (bH _ hx))))) _ _ hB)))<|aE (v:=I 0) rfl<|aa<|aA<|bt (G:=Int×El×(List bu)) (fun⟨k,e1,Z1⟩ s' w'=>(Fr (6::7::(rg 9 25 [])) _ s')/\(Hp W0 w' (_::_:: .blk b3 (.cells (iM e1) 37 (0,0))::Z1))/\(s' 9=I k)/\(0<=k)/\(k<=8)/\(e1=m8 (py tb a c) a k)/\(∃Zt,Z1=Zt++R/\wN 212 tl Zt)) (fun⟨k,e1,Z1⟩=>(8-k).toNat) ((0,a,(Z++R))) ⟨Fr.refl _ _,eW,rfl,J,J,(vK _ _).symm,⟨_,rfl,hZ⟩⟩<| ?_
 rintro⟨k,e1,Z1⟩ Wz EL ⟨nS,cg,Oj,h0,hk,hr,hS⟩
 obtain⟨pX,QX,Og,ze⟩:=nS.w4 3 4 5 8
 obtain⟨Zt,rfl,hZt⟩:=hS
 refine SR<|V (aN Oj O)<|aa<|ai<|aF O (fun h12=> ?_) (fun h12=> ?_)
 .refine an<|ai<|aA<|SR<|aE Oj<|V (LY Yi isAgg198 sizeOf198 ze Oj J (asp _ J))<|aI rfl<| ?_
  refine V (run_assign bA) ?_
  refine aa<|ai<|SR<| ?_
  refine V (run_move bA) ?_
  refine V (Qs underlying198 O O)<|aa<|bW O (fun Ga=> ?_) (fun Ga=> ?_)
  .refine ai<|gp aP cg (sP (sP (sQ (sA sR))))<|fun Tm cI=>have tX:=cI.sub (sP (sP (sQ (sA sR))));AQ 0 O tX (mV (I _) O)<| ?_
   refine AQ 1 O tX (run_move bA) ?_
   refine AQ 2 O tX (mV (I _) O)<|AQ 3 O tX (a7 bI cQ pX O J)<|AQ 5 O tX (mV (I _) O)<|AQ 6 O tX (a7 bI cQ QX O J)<|tV 7 O tX dM 1 O O (jM _ J)<|A1 4<|cf O aD O cI (sP (sP (sQ (sA sR)))) (aG dM O O (cI.cell (i:=2) O (jM _ J)))<|A1 8<| ?_
   obtain⟨⟨bi,ri⟩,hi⟩:=Option.isSome_iff_exists.1 ‹(tb k.toNat).isSome=true›
   obtain⟨z27,Y22,aFz,aFA,ayR⟩:=hZt.pick (htl _ J _ hi)
   refine ye O aD O (Eg W0 bi ri z27 (Y22++([_,_,_]++R)) _ _ _ hT aFz (Hp.axd (A:=[_,_,_]) cI aFA)) (bz call142 (aK aik hi) O O) (fun u w' ⟨_,z',hz',h⟩=>let⟨Z',_,q2⟩:=ayR z' hz';Hp.sub (L:=_::_::_::(Z'++R)) (Hp.apC (A:=[_,_,_]) h q2) (sP (sP (sQ (sA sR))))) ?_
   rintro _ Wx ⟨rfl,z34,aFB,rK⟩
   obtain⟨ayS,aFC,aFD⟩:=ayR z34 aFB
   have ko:Hp _ Wx (_::_::_::(ayS++R)):=Hp.apC (A:=[_,_,_]) rK aFD
   refine AQ 9 O (ko.sub (sP (sP (sQ (sA sR))))) (a7 bI cQ pX O J)<|A1 10<|ef O aD ko (j:=2) O (sP (sP (sQ (sA sR)))) (bM O O (v:=U _) O O O (ko.blk (i:=2) O) xY)<|fun w37 ux=> ?_
   rw[n5]at ux
   refine AD<|a8 (id:=1) rfl<|au<|V (ax Oj O J)<|mI rfl<|aa<| ?_
   refine⟨(k+1,_,(ayS++R)),aW,nS.u4.u4.u4.u4.u1.u1.u1,ux,(aK I aL),J,J,?_,?_⟩
   .exact asq hr h0 hi
   exact⟨_,rfl,aFC⟩
  refine an<|gp aP cg (sP (sP (sQ sR)))<|fun w39 lG=>have wC:=lG.sub (sP (sP (sQ sR)));AQ 0 O wC (mV (I _) O)<|AQ 1 O wC (a7 bI cQ pX O J)<|AQ 3 O wC (mV (I _) O)<|AQ 4 O wC (a7 bI cQ QX O J)<|tV 5 O wC dM 1 O O (jM _ J)<|A1 2<|cf O aD O lG (sP (sP (sQ sR))) (aG dM O O (lG.cell (i:=2) O (jM _ J)))<|AQ 6 O wC (iH O O)<|AQ 7 O wC (a7 bI cQ pX O J)<|A1 8<|ef O aD lG (j:=2) O (sP (sP (sQ sR))) (bM O O (v:=U _) O O O (lG.blk (i:=2) O) xY)<|fun w45 oe=> ?_
  rw[n5]at oe
  refine AD<|au<|V (ax Oj O J)<|mI rfl<|aa<| ?_
  refine⟨(k+1,_,(Zt++R)),aW,nS.u4.u4.u4.u4.u1,oe,(aK I aL),J,J,?_,?_⟩
  .exact axe hr h0 ‹(tb k.toNat).isSome=false›
  exact⟨_,rfl,hZt⟩
 refine a8 (id:=0) rfl<|SR<|V (cN bI O O pX (cg.blk (i:=2) O))<|bk cg (i:=0) O (cR O Og O (cg.blk (i:=0) O))<|fun w47 jB=>aa<|aj<|rz O Og jB (i:=0) O bI O jL ⟨aK Value.agg (l8 LK),Zt,hZt,jB.sub (sQ (sQ (sQ sR)))⟩
theorem Oy(s:kR)(w:World)(hs:k8 (Kw w) s):Calls Tryz.prog 98 #[.agg (qL s)] w (jY fun u w'=>∃(B:Nat) (tb:Kb) (tl:List (Nat×Rl)) (Zt:List bu),u= .func (.func 141) #[] #[.pointer (some ⟨B,0,none⟩)]/\aim s.sh tb/\(∀i,i<8->∀p,tb i=some p->p∈tl)/\wN 212 tl Zt/\Hp w w' (Zt++[.blk B (.cells (VB tb).toArray 199 (0,0))])):=by
 have B0:=hs.aZ.small
 unfold maxLen at B0
 refine eH func98 rfl rfl fun hH=>SR<|gN hH (v:= .agg _) rfl<|fun b3 w1 bp=>va (v:= .nilFunc) rfl<|aa<|SR<|lK bp (aS Tryz.zeroValue199)<|fun b6 w4 bY=>aa<|ai<|SR<|V (fA dw 1 O jF O)<|lV dm bY 1 O O rfl<|V (aC (hs.aZ.sl.hp bY) O dm O)<|aE (v:=I 0) rfl<|aa<|aA<|bt (G:=Int×(List (Nat×Rl))×Kb×(List bu)) (fun⟨k,tl,tb,Z⟩ s' w'=>(Fr (4::5::(rg 9 19 [])) _ s')/\(Hp w w' (.blk b6 (.cells ((VB tb).toArray) 199 (0,0))::_::Z))/\(s' 9=I k)/\(0<=k)/\(k<=s.aZ.length)/\(IY s.sh k tb)/\(∀i,i<8->∀p,tb i=some p->p∈tl)/\(wN 212 tl Z)) (fun⟨k,tl,tb,Z⟩=>(s.aZ.length-k).toNat) ((0,[],tb0,[])) ⟨Fr.refl _ _,bY,rfl,J,J,IY.start _,(fun i _ p hp=>(by cases hp)),rfl⟩<| ?_
 rintro⟨k,tl,tb,Z⟩ sg7 w7 ⟨Ed,eE,Pp,h0,hk,hTo,htl,hZ⟩
 obtain⟨WC,aFE,at8⟩:=Ed.w3 3 7 8
 refine SR<|V (aN Pp at8)<|aa<|ai<|aF O (fun h9=> ?_) (fun h9=> ?_)
 .refine an<|ai<|aA<|SR<|aE Pp<|V (ah (hs.aZ.sl.hp eE) dm qd aFE Pp J)<|V (dZ (dv:=iB) fB (hs.aZ.sl.hp eE) dx O O O J)<|lK eE (aS tS)<|fun b12 EL df=>aI rfl<|bk df (i:=0) O (sJ (hs.at J J) O O O (df.blk (i:=0) O))<|fun C2 cG=>aa<|SR<|mI rfl<|V (aN O O)<|mB rfl<|bK 16 O (fun ym=> ?_) (fun ym=> ?_)
  .refine V (fA dx 0 O aO O)<|lI bx cG 0 O O rfl<|V (bV O O)<|mB rfl<|aa<|aF O (fun qn=> ?_) (fun qn=> ?_)
   .refine au<|mI rfl<|V (fA dx 2 O iX O)<|V (iV bS O O O (cG.blk (i:=0) O))<|V (dI (vs:=[(0,.agg (dU _))]) O (aeD _))<|gN cG (v:= .agg _) rfl<|fun b21 Tq cT=>V (a7 Yi sizeOf198 WC O J)<|bk cT (i:=2) O (bM O O (v:=Pn _ _) O O O (cT.blk (i:=2) O) (by rw[vb,am6];omega))<|fun QV eM=> ?_
    rw[ail tb (s.aZ.getD k.toNat iB).rel]at eM
    have gY:Hp _ QV (_::_::_::([bu.blk b21 (.cells (lJ (s.aZ.getD k.toNat iB).rel 0 0 (.slice none 0 0) (.slice none 0 0)).toArray 212 (0,0))]++Z)):=Hp.HD (Z:=[bu.blk b21 (.cells (lJ (s.aZ.getD k.toNat iB).rel 0 0 (.slice none 0 0) (.slice none 0 0)).toArray 212 (0,0))]) (L:=[_,_,_]) (L':=Z) eM
    refine aa<|au<|V (ax Pp O J)<|mI rfl<|aa<| ?_
    refine⟨(k+1,((b21,(s.aZ.getD k.toNat iB).rel)::tl),VC tb k.toNat (b21,(s.aZ.getD k.toNat iB).rel),([bu.blk b21 (.cells (lJ (s.aZ.getD k.toNat iB).rel 0 0 (.slice none 0 0) (.slice none 0 0)).toArray 212 (0,0))]++Z)),aW,Ed.u4.u4.u4.u4.u4.u1,(Hp.conv (gY.sub (sQ sR)) aL),(aK I aL),J,J,?_,?_,?_⟩
    .exact hTo.put h0 (by rw[pw];omega) (by rw[iF];assumption) (by rw[iF];rfl)
    .exact am8 htl
    exact wN.cons hZ
   refine an<|au<|V (ax Pp O J)<|mI rfl<|aa<| ?_
   refine⟨(k+1,tl,tb,Z),aW,Ed.u4.u4.u4.u1.u1.u1,(Hp.conv (cG.sub (sQ sR)) aL),(aK I aL),J,J,?_,?_,?_⟩
   .exact hTo.skip h0 afI
   .exact htl
   exact hZ
  refine aE (v:=B false) rfl<|aa<|cL rfl<|an<|au<|V (ax Pp O J)<|mI rfl<|aa<| ?_
  refine⟨(k+1,tl,tb,Z),aW,Ed.u4.u4.u4.u1.u1.u1,(Hp.conv (cG.sub (sQ sR)) aL),(aK I aL),J,J,?_,?_,?_⟩
  .exact hTo.skip h0 afI
  .exact htl
  exact hZ
 refine a8 (id:=0) rfl<|SR<|V (Cv WC)<|va (v:= .func _ _ _) rfl<|aa<|aj<|jA rfl (v:= .func (.func 141) #[] #[.pointer (some ⟨b6,0,none⟩)]) rfl ⟨b6,tb,tl,Z,rfl,hTo.all (by rw[pw];omega),htl,hZ,(eE.sub (sP (sQ sR))).perm (ud (l₁:=[_]))⟩
theorem mr(W0:World)(m off:Nat)(C:Array Value)(te:TypeId)(x:Int)(L:List bu)(hx: -9000000000000000000<=x/\x<=9000000000000000000)(hc:C[off]?=some (I x))(w:World)(hH:Hp W0 w (.blk m (.cells C te (0,0))::L)):Calls Tryz.prog 61 #[.pointer (some ⟨m,off,none⟩),I 1] w (jY fun u w'=>u=I (x+1)/\Hp W0 w' (.blk m (.cells (C.setIfInBounds off (I (x+1))) te (0,0))::L)):=by
 refine en func61 rfl rfl<|SR<|va (v:=I 0) rfl<|aa<|SR<|aE (v:=Pn _ _) rfl<|V (af O)<|V (fA underlying133 0 O sizeOf2 O)<|mI rfl<|V (Zv (run_call_add (P:=Tryz.prog) func106 aP aP aP .i64 aP (hH.cell (i:=0) O hc) (hH.fz (i:=0) O) (ana J)) O O)<|have bp:=hH.setCell (i:=0) (b:=m) (o:=off) (v:=I (x+1)) rfl;?_
 simp only[jh]at bp
 refine aI rfl<|aa<|aj<|jA O (v:=I (x+1)) O ⟨rfl,bp⟩
theorem oN(m:Nat)(c:Cn)(w:World)(hb:w.heap[m]?=some (.cells #[B true,I c.e,I c.l,I c.j] 135 (0,0))):Calls Tryz.prog 60 #[.pointer (some ⟨m,0,none⟩)] w (Pure (B true) w):=by
 refine eH func60 rfl rfl fun hH=>SR<|va (v:=B false) rfl<|aa<|SR<|aE (v:=Pn _ _) rfl<|V (Qs (o:=some (_,Rl.none)) Fa O O)<|mB rfl<|cC O rfl<|aE (v:=Pn _ _) rfl<|V (af O)<|V (fA RE 0 O oq O)<|V (aG qZ O O (hH.eP hb (v:=B _) O))<|mB rfl<|aB rfl<|aa<|aj<|oB O ?_ hH
 rfl
theorem A0(m:Nat)(w:World):Calls Tryz.prog 63 #[.pointer (some ⟨m,0,none⟩)] w (Pure (.pointer (some ⟨m,1,none⟩)) w):=by
 refine eH func63 rfl rfl fun hH=>SR<|va (v:= .pointer none) rfl<|aa<|SR<|aE (v:=Pn _ _) rfl<|V (af O)<|V (fA RE 1 O sizeOf133 O)<|va (v:=Pn _ _) rfl<|aa<|aj<|Gg O ?_ hH.below
 rfl
theorem A2(m:Nat)(w:World):Calls Tryz.prog 65 #[.pointer (some ⟨m,0,none⟩)] w (Pure (.pointer (some ⟨m,2,none⟩)) w):=by
 refine eH func65 rfl rfl fun hH=>SR<|va (v:= .pointer none) rfl<|aa<|SR<|aE (v:=Pn _ _) rfl<|V (af O)<|V (fA RE 2 O sizeOf133 O)<|va (v:=Pn _ _) rfl<|aa<|aj<|Gg O ?_ hH.below
 rfl
theorem A3(m:Nat)(w:World):Calls Tryz.prog 67 #[.pointer (some ⟨m,0,none⟩)] w (Pure (.pointer (some ⟨m,3,none⟩)) w):=by
 refine eH func67 rfl rfl fun hH=>SR<|va (v:= .pointer none) rfl<|aa<|SR<|aE (v:=Pn _ _) rfl<|V (af O)<|V (fA RE 3 O sizeOf133 O)<|va (v:=Pn _ _) rfl<|aa<|aj<|Gg O ?_ hH.below
 rfl
theorem akn(W0:World)(b2 m:Nat)(c:Cn)(L:List bu)(hc:c.ok)(w:World)(hB:Kz (Kw W0) L b2 (.cells #[pt m] 72 (0,0)))(hH:Hp W0 w (.blk m (.cells #[B true,I c.e,I c.l,I c.j] 135 (0,0))::L)):Calls Tryz.prog 59 #[.func (.func 63) #[] #[],.pointer (some ⟨b2,0,none⟩)] w (jY fun u w'=>u= .tuple #[]/\Hp W0 w' (sO TX m (Kd.e.up c)::L)):=by
 unfold Cn.ok at hc
 refine en func59 rfl rfl<|SR<|V (aG Fa rfl rfl (wg (hH.kz (Le.refl _) (fun x hx=>(mT hx)) _ _ hB) (v:=Pn _ _) O))<|aH O hH (oN _ _ _ (hH.blk (i:=0) O)) (ay call60 O)<|fun w1 bp=>aa<|ct rfl<|au<|aE (v:= .func _ _ _) rfl<|V (aG Fa O O (wg (bp.kz (Le.refl _) (fun x hx=>(mT hx)) _ _ hB) (v:=Pn _ _) O))<|aH O bp (A0 _ _) (lC call63 (cs:=[]) O O)<|fun w4 bY=>cD O (mr W0 m 1 _ _ c.e L J O _ bY) (aM call61 O O)<| ?_
 rintro _ w6 ⟨rfl,eE⟩
 refine aa<|rh O ⟨rfl,eE⟩
theorem ako(W0:World)(b2 m:Nat)(c:Cn)(L:List bu)(hc:c.ok)(w:World)(hB:Kz (Kw W0) L b2 (.cells #[pt m] 72 (0,0)))(hH:Hp W0 w (.blk m (.cells #[B true,I c.e,I c.l,I c.j] 135 (0,0))::L)):Calls Tryz.prog 59 #[.func (.func 65) #[] #[],.pointer (some ⟨b2,0,none⟩)] w (jY fun u w'=>u= .tuple #[]/\Hp W0 w' (sO TX m (Kd.l.up c)::L)):=by
 unfold Cn.ok at hc
 refine en func59 rfl rfl<|SR<|V (aG Fa rfl rfl (wg (hH.kz (Le.refl _) (fun x hx=>(mT hx)) _ _ hB) (v:=Pn _ _) O))<|aH O hH (oN _ _ _ (hH.blk (i:=0) O)) (ay call60 O)<|fun w1 bp=>aa<|ct rfl<|au<|aE (v:= .func _ _ _) rfl<|V (aG Fa O O (wg (bp.kz (Le.refl _) (fun x hx=>(mT hx)) _ _ hB) (v:=Pn _ _) O))<|aH O bp (A2 _ _) (lC call65 (cs:=[]) O O)<|fun w4 bY=>cD O (mr W0 m 2 _ _ c.l L J O _ bY) (aM call61 O O)<| ?_
 rintro _ w6 ⟨rfl,eE⟩
 refine aa<|rh O ⟨rfl,eE⟩
theorem akp(W0:World)(b2 m:Nat)(c:Cn)(L:List bu)(hc:c.ok)(w:World)(hB:Kz (Kw W0) L b2 (.cells #[pt m] 72 (0,0)))(hH:Hp W0 w (.blk m (.cells #[B true,I c.e,I c.l,I c.j] 135 (0,0))::L)):Calls Tryz.prog 59 #[.func (.func 67) #[] #[],.pointer (some ⟨b2,0,none⟩)] w (jY fun u w'=>u= .tuple #[]/\Hp W0 w' (sO TX m (Kd.j.up c)::L)):=by
 unfold Cn.ok at hc
 refine en func59 rfl rfl<|SR<|V (aG Fa rfl rfl (wg (hH.kz (Le.refl _) (fun x hx=>(mT hx)) _ _ hB) (v:=Pn _ _) O))<|aH O hH (oN _ _ _ (hH.blk (i:=0) O)) (ay call60 O)<|fun w1 bp=>aa<|ct rfl<|au<|aE (v:= .func _ _ _) rfl<|V (aG Fa O O (wg (bp.kz (Le.refl _) (fun x hx=>(mT hx)) _ _ hB) (v:=Pn _ _) O))<|aH O bp (A3 _ _) (lC call67 (cs:=[]) O O)<|fun w4 bY=>cD O (mr W0 m 3 _ _ c.j L J O _ bY) (aM call61 O O)<| ?_
 rintro _ w6 ⟨rfl,eE⟩
 refine aa<|rh O ⟨rfl,eE⟩
theorem Dl(W0:World)(b5 b3 b2 m:Nat)(c:Cn)(fe:FuncId)(ae:List Value)(x1 x2:Value)(v u:Value)(ee:El)(bb:Bool)(Y R:List bu)(Q:List bu->Prop)(hc:c.ok)(w:World)(hfe:∀args w,(callFunc fe args).run Tryz.prog w= .ok (.enter fe args) w)(h5:Kz (Kw W0) R b5 (.cells #[jO 59 #[pt b2]] 139 (0,0)))(h2:Kz (Kw W0) R b2 (.cells #[pt m] 72 (0,0)))(h3:Kz (Kw W0) R b3 (.cells #[jO fe ae.toArray,x1,x2] 117 (0,0)))(hin:∀(w1:World) (A:List bu),Hp W0 w1 ((sO TX m (Kd.e.up c)::Y)++(A++R))->Calls Tryz.prog fe (v::u::ae).toArray w1 (jY fun x w'=>x= .tuple #[.agg (iM ee),B bb]/\∃Z',Q Z'/\Hp W0 w' (Z'++(A++R))))(hH:Hp W0 w ((sO TX m c::Y)++R)):Calls Tryz.prog 62 #[v,u,.pointer (some ⟨b5,0,none⟩),.pointer (some ⟨b3,0,none⟩)] w (jY fun x w'=>x= .tuple #[.agg (iM ee),B bb]/\∃Z',Q Z'/\Hp W0 w' (Z'++R)):=by
 refine en func62 rfl rfl<|SR<|lK hH (aS eZ)<|fun b3 w1 bp=>va (v:=B false) rfl<|aa<|SR<|V (aG Yj O O (wg (bp.kz (Le.refl _) (fun x hx=>(mT (mT (bH _ hx)))) _ _ h5) (v:= .func _ _ _) O))<|have hF4:=Hp.sN (A:=[_]) (Zf:=[_]) (R:=(Y++R)) bp;cD O (akn W0 b2 m c _ hc _ (Le.zz (fun x hx=>bH _ (bH _ hx)) _ _ h2) hF4) (lC call59 (cs:=[pt b2]) O O)<| ?_
 rintro _ w5 ⟨rfl,h6⟩
 have eE:Hp _ w5 (_::_::(Y++R)):=Hp.pc (A:=[_]) (Zf:=[_]) h6
 refine aa<|ai<|SR<|V (fA qX 0 O sizeOf114 O)<|V (aG RF O O (wg (eE.kz (Le.refl _) (fun x hx=>(mT (mT (bH _ hx)))) _ _ h3) (v:= .func _ _ _) O))<|V (VD RF O O)<|aa<|cL rfl<|an<|SR<|V (fA qX 0 O sizeOf114 O)<|V (aG RF O O (wg (eE.kz (Le.refl _) (fun x hx=>(mT (mT (bH _ hx)))) _ _ h3) (v:= .func _ _ _) O))<| ?_
 refine V (run_move bA) ?_
 refine V (run_move bA) ?_
 have hF8:=Hp.sN (A:=[_]) (Zf:=_::Y) (R:=R) eE
 refine cD O (hin _ _ hF8) (jb hfe (cs:=ae) O O O) ?_
 rintro _ w9 ⟨rfl,Z',hq,h10⟩
 have df:Hp _ w9 (_::(Z'++R)):=Hp.pc (A:=[_]) h10
 refine V (bg O (v:= .agg _) O)<|V (bg O (v:=B _) O)<|bk df (i:=0) O (cR O O O (df.blk (i:=0) O))<|fun C2 cG=>aB rfl<|aa<|aj<|EA O O O cG (i:=0) O bI O jL ⟨rfl,Z',hq,cG.sub (sQ sR)⟩
theorem Dm(W0:World)(b5 b3 b2 m:Nat)(c:Cn)(fe:FuncId)(ae:List Value)(x1 x2:Value)(a b:El)(bb:Bool)(Y R:List bu)(Q:List bu->Prop)(hc:c.ok)(w:World)(hfe:∀args w,(callFunc fe args).run Tryz.prog w= .ok (.enter fe args) w)(h5:Kz (Kw W0) R b5 (.cells #[jO 59 #[pt b2]] 139 (0,0)))(h2:Kz (Kw W0) R b2 (.cells #[pt m] 72 (0,0)))(h3:Kz (Kw W0) R b3 (.cells #[x1,jO fe ae.toArray,x2] 117 (0,0)))(hin:∀(w1:World) (A:List bu),Hp W0 w1 ((sO TX m (Kd.l.up c)::Y)++(A++R))->Calls Tryz.prog fe (.agg (iM a):: .agg (iM b)::ae).toArray w1 (jY fun x w'=>x=B bb/\∃Z',Q Z'/\Hp W0 w' (Z'++(A++R))))(hH:Hp W0 w ((sO TX m c::Y)++R)):Calls Tryz.prog 64 #[.agg (iM a),.agg (iM b),.pointer (some ⟨b5,0,none⟩),.pointer (some ⟨b3,0,none⟩)] w (jY fun x w'=>x=B bb/\∃Z',Q Z'/\Hp W0 w' (Z'++R)):=by
 refine en func64 rfl rfl<|SR<|gN hH (v:= .agg _) rfl<|fun b3 w1 bp=>gN bp (v:= .agg _) rfl<|fun b6 w4 bY=>va (v:=B false) rfl<|aa<|SR<|V (aG Yj O O (wg (bY.kz (Le.refl _) (fun x hx=>(mT (mT (mT (bH _ hx))))) _ _ h5) (v:= .func _ _ _) O))<|have hF7:=Hp.sN (A:=[_,_]) (Zf:=[_]) (R:=(Y++R)) bY;cD O (ako W0 b2 m c _ hc _ (Le.zz (fun x hx=>bH _ (bH _ hx)) _ _ h2) hF7) (lC call59 (cs:=[pt b2]) O O)<| ?_
 rintro _ w8 ⟨rfl,h9⟩
 have cg:Hp _ w8 (_::_::_::(Y++R)):=Hp.pc (A:=[_,_]) (Zf:=[_]) h9
 refine aa<|SR<|V (fA qX 1 O sizeOf65 O)<|V (aG LD O O (wg (cg.kz (Le.refl _) (fun x hx=>(mT (mT (mT (bH _ hx))))) _ _ h3) (v:= .func _ _ _) O))<|V (VE LD O O)<|mB rfl<|cC O rfl<|V (fA qX 1 O sizeOf65 O)<|V (aG LD O O (wg (cg.kz (Le.refl _) (fun x hx=>(mT (mT (mT (bH _ hx))))) _ _ h3) (v:= .func _ _ _) O))<|V (cN bI O O O (cg.blk (i:=1) O))<|V (cN bI O O O (cg.blk (i:=0) O))<|have aFF:=Hp.sN (A:=[_,_]) (Zf:=_::Y) (R:=R) cg;cD O (hin _ _ aFF) (jb hfe (cs:=ae) O O O)<| ?_
 rintro _ zc ⟨rfl,Z',hq,To⟩
 have cG:Hp _ zc (_::_::(Z'++R)):=Hp.pc (A:=[_,_]) To
 refine mB rfl<|aB rfl<|aa<|aj<|jA O (v:=B bb) O ⟨rfl,Z',hq,cG.sub (sQ (sQ sR))⟩
theorem Dn(W0:World)(b5 b3 b2 m:Nat)(c:Cn)(fe:FuncId)(ae:List Value)(x1 x2:Value)(a b:El)(ee:El)(Y R:List bu)(Q:List bu->Prop)(hc:c.ok)(w:World)(hfe:∀args w,(callFunc fe args).run Tryz.prog w= .ok (.enter fe args) w)(h5:Kz (Kw W0) R b5 (.cells #[jO 59 #[pt b2]] 139 (0,0)))(h2:Kz (Kw W0) R b2 (.cells #[pt m] 72 (0,0)))(h3:Kz (Kw W0) R b3 (.cells #[x1,x2,jO fe ae.toArray] 117 (0,0)))(hin:∀(w1:World) (A:List bu),Hp W0 w1 ((sO TX m (Kd.j.up c)::Y)++(A++R))->Calls Tryz.prog fe (.agg (iM a):: .agg (iM b)::ae).toArray w1 (jY fun x w'=>x= .agg (iM ee)/\∃Z',Q Z'/\Hp W0 w' (Z'++(A++R))))(hH:Hp W0 w ((sO TX m c::Y)++R)):Calls Tryz.prog 66 #[.agg (iM a),.agg (iM b),.pointer (some ⟨b5,0,none⟩),.pointer (some ⟨b3,0,none⟩)] w (jY fun x w'=>x= .agg (iM ee)/\∃Z',Q Z'/\Hp W0 w' (Z'++R)):=by
 refine en func66 rfl rfl<|SR<|gN hH (v:= .agg _) rfl<|fun b3 w1 bp=>gN bp (v:= .agg _) rfl<|fun b6 w4 bY=>lK bY (aS eZ)<|fun b9 w7 eW=>aa<|SR<|V (aG Yj O O (wg (eW.kz (Le.refl _) (fun x hx=>(mT (mT (mT (mT (bH _ hx)))))) _ _ h5) (v:= .func _ _ _) O))<|have aFG:=Hp.sN (A:=[_,_,_]) (Zf:=[_]) (R:=(Y++R)) eW;cD O (akp W0 b2 m c _ hc _ (Le.zz (fun x hx=>bH _ (bH _ hx)) _ _ h2) aFG) (lC call59 (cs:=[pt b2]) O O)<| ?_
 rintro _ I8 ⟨rfl,h12⟩
 have bX:Hp _ I8 (_::_::_::_::(Y++R)):=Hp.pc (A:=[_,_,_]) (Zf:=[_]) h12
 refine aa<|ai<|SR<|V (fA qX 2 O sizeOf115 O)<|V (aG Lz O O (wg (bX.kz (Le.refl _) (fun x hx=>(mT (mT (mT (mT (bH _ hx)))))) _ _ h3) (v:= .func _ _ _) O))<|V (VD Lz O O)<|aa<|cL rfl<|an<|SR<|V (fA qX 2 O sizeOf115 O)<|V (aG Lz O O (wg (bX.kz (Le.refl _) (fun x hx=>(mT (mT (mT (mT (bH _ hx)))))) _ _ h3) (v:= .func _ _ _) O))<|V (cN bI O O O (bX.blk (i:=2) O))<|V (cN bI O O O (bX.blk (i:=1) O))<|have aFH:=Hp.sN (A:=[_,_,_]) (Zf:=_::Y) (R:=R) bX;cD O (hin _ _ aFH) (jb hfe (cs:=ae) O O O)<| ?_
 rintro _ Tm ⟨rfl,Z',hq,ym⟩
 have er:Hp _ Tm (_::_::_::(Z'++R)):=Hp.pc (A:=[_,_,_]) ym
 refine bk er (i:=0) O (cR O O O (er.blk (i:=0) O))<|fun K9 iD=>aa<|aj<|rz O O iD (i:=0) O bI O jL ⟨rfl,Z',hq,iD.sub (sQ (sQ (sQ sR)))⟩
theorem TG(Bk:Nat)(s:kR)(v:Value)(l:List dV)(u:Value)(vs:List El)(hl:l.length<=1000)(w:World)(hs:Sl w v 10 l.length (l.flatMap kg))(ht:Sl w u 8 vs.length (vs.flatMap pJ))(hsh:k8 (Kw w) s)(hb:w.heap[Bk]?=some (.cells (qL s) 56 (0,0)))(hT:o6 w):Calls Tryz.prog 95 #[v,u,.pointer (some ⟨Bk,0,none⟩)] w (Pure (.tuple #[.agg (iM (ey s.sh l vs).1),B (ey s.sh l vs).2]) w):=by
 refine eH func95 rfl rfl fun hH=>SR<|lK hH (aS eZ)<|fun b3 w1 bp=>va (v:=B false) rfl<|aa<|SR<|V (cA (cs:=[B _,_]) dw O O O (bj (bp.ext hb)))<| ?_
 refine V (run_move bA) ?_
 refine V (run_move bA) ?_
 refine aH O bp (WS _ _ _ _ _ J _ (hs.hp bp) (ht.hp bp) (hsh.mono bp.kw) (hT.hp bp)) (bz call96 O O O)<|fun w4 bY=>V (bg O (v:= .agg _) O)<|V (bg O (v:=B _) O)<|bk bY (i:=0) O (cR O O O (bY.blk (i:=0) O))<|fun w7 eW=>aB rfl<|aa<|aj<|EA O O O eW (i:=0) O bI O jL ⟨?_,eW.below⟩
 rfl
theorem Oz(K:Vu)(s:kR)(hfn:s.aZ.length<=1000)(hnn:∀f∈s.aZ,f.names.length<=1000)(w:World)(hK:Le K (Kw w))(hs:k8 K s):Calls Tryz.prog 52 #[.agg (qL s)] w (jY fun u w'=>∃(f1 f2 f3:FuncId) (a1 a2 a3:Array Value) (p:kR) (tb:Kb) (tl:List (Nat×Rl)) (Zt Z:List bu),u= .agg #[jO f1 a1,jO f2 a2,jO f3 a3]/\BC TX (Kz K Z) (.base p tb) (jO f1 a1) (jO f2 a2) (jO f3 a3)/\p.sh=s.sh/\aim p.sh tb/\(∀i,i<8->∀q,tb i=some q->q∈tl)/\wN 212 tl Zt/\Hp w w' (Zt++Z)):=by
 refine eH func52 rfl rfl fun hH=>SR<|gN hH (v:= .agg _) rfl<|fun b3 w1 bp=>lK bp (aS Wm)<|fun b6 w4 bY=>aa<|SR<|V (cA (cs:=[B _,_]) dw O O O (bj (bY.blk (i:=1) O)))<|tR 1 1 bY (MO RD O O O (l:=[s]) O az az O)<|fun b9 w7 eW=>IF O eW (Bu K (.slice (some ⟨b9,0,none⟩) 1 1) [s] (show 1<=1000 by decide) (by simpa using hfn) (by simpa using hnn) _ (hK.trans eW.kw) (Hp.iu ML eW (i:=0) (l:=[s]) O (show 1<=maxLen by decide)) ⟨fun x hx=>by rw[gG.1 hx];exact hs⟩) (ay call51 O)<|fun v12 C2 Z15 cG aFI=>have er:Hp _ C2 (_::_::_::Z15):=cG.amx (L:=[_,_,_]);?_
 obtain⟨p18,rfl,ayT,at9⟩:=aFI
 refine lK er (aS Tryz.zeroValue56)<|fun b23 NU cF=>bk cF (i:=0) O (DN at9 O O O (cF.blk (i:=0) O) O)<|fun w24 oc=>aa<|SR<|V (fA dw 0 O oq O)<|V (aG qZ O O (oc.cell (i:=3) O (v:=B _) O))<|V (fA dw 0 O oq O)<|bk (c':=#[B s.tuple,p18.fv]) oc (i:=0) O (bM (off:=0+0) O O (v:=B s.tuple) O O O (oc.blk (i:=0) O) aJ)<|fun w27 iJ=>have Xq:k8 _ ⟨s.tuple,p18.fv,p18.aZ⟩:=⟨at9.aZ,at9.each⟩;aa<|SR<| ?_
 refine V (Cv bA) ?_
 refine V (cA (cs:=[B _,_]) dw O O O (bj (iJ.blk (i:=0) O)))<|cD O (Oy ⟨s.tuple,p18.fv,p18.aZ⟩ _ (Xq.mono (iJ.kz hK (fun x hx=>(mT (mT (mT (mT hx)))))))) (ay call98 O)<| ?_
 rintro _ w33 ⟨ayU,ayV,aFJ,akr,rfl,ayW,ayX,ayY,h37⟩
 have ux:Hp _ w33 (_::_::_::_::((akr++[_])++Z15)):=Hp.pc (A:=[_,_,_,_]) (Zf:=akr++[_]) (R:=Z15) (iJ.Gr h37)
 refine V (dI (vs:=[(0,jO _ _),(1,jO _ _),(2,jO _ _)]) O (aeE _ _ _ _ _ _))<|bk ux (i:=2) O (dO O O O (by simp[Value.oneCell',pt,jO]) (ux.blk (i:=2) O) O)<|fun w39 lG=>aa<|aj<|have jU:Hp _ w39 (_::_::_::([bu.blk b23 (.cells ([B s.tuple,p18.fv]).toArray 56 (0,0))]++((akr++[_])++Z15))):=Hp.HD (Z:=[bu.blk b23 (.cells ([B s.tuple,p18.fv]).toArray 56 (0,0))]) (L:=[_,_,_]) (L':=((akr++[_])++Z15)) lG;rz O O jU (i:=1) O qX O O ⟨_,_,_,_,_,_,⟨s.tuple,p18.fv,p18.aZ⟩,ayV,aFJ,akr,([bu.blk b23 (.cells ([B s.tuple,p18.fv]).toArray 56 (0,0))]++([bu.blk ayU (.cells (VB ayV).toArray 199 (0,0))]++Z15)),rfl,⟨b23,ayU,rfl,rfl,rfl,.inr aJ,Xq.mono (Le.zz fun x hx=>q7),.inr aJ⟩,?_,ayW,ayX,ayY,?_⟩
 .have hq:=aK Sh.aZ ayT;simp only[Bd,uC,List.flatMap_nil,mY]at hq
  show(⟨s.tuple,p18.aZ.map qz.fc⟩:Sh)=s.sh;rw[show p18.aZ.map qz.fc=s.sh.aZ from hq];rfl
 exact(jU.sub (sQ (sQ (sQ sR)))).perm (by rw[dG];exact wV _ _ _)
section
theorem ayZ{K:Vu}{d:Wr}{e l j:Value}(h:BC TX K d e l j):asr Tryz.prog e:=by
 cases d with
 |base p tb=>obtain⟨B1,B2,rfl,rfl,rfl,-⟩:=h;exact⟨_,_,rfl,call95⟩
 |wrap m d=>obtain⟨b2,b3,b5,e',l',j',rfl,rfl,rfl,-⟩:=h;exact⟨_,_,rfl,call62⟩
theorem aks(W0:World)(ids:List Nat)(tl:List (Nat×Rl))(hT:o6 W0)(v:Value)(il:List dV)(u:Value)(vs:List El)(hil:il.length<=1000)(d:Wr):∀(n:Nat) (f:Ct) (Z R:List bu) (e l j:Value) (w:World),BC TX (Kz (Kw W0) R) d e l j->d.Fp ids tl->kU (BG fr) ids f tl Z->FF n f->n+d.dep<=1000000000000->(∀Z' w',Hp W0 w' (Z'++R)->Sl w' v 10 il.length (il.flatMap kg))->(∀Z' w',Hp W0 w' (Z'++R)->Sl w' u 8 vs.length (vs.flatMap pJ))->Hp W0 w (Z++R)->
  Ap Tryz.prog e [v,u] w (jY fun x w'=>x= .tuple #[.agg (iM (ey d.sh.sh il vs).1),B (ey d.sh.sh il vs).2]/\∃Z',kU (BG fr) ids (d.tick .e f) tl Z'/\Hp W0 w' (Z'++R)):=by
 induction d with
 |base p tb=>
  intro n f Z R e l j w hO hi hZ hf hn hs ht hH
  obtain⟨B1,B2,rfl,rfl,rfl,h4,h5,h6⟩:=hO
  have hk:=hH.kz (Le.refl _) (Z:=R) fun x hx=>bH _ hx
  refine⟨_,[pt B1],rfl,call95,?_⟩
  exact(TG B1 p v il u vs hil w (hs Z w hH) (ht Z w hH) (h5.mono hk) (hk _ _ h4) (hT.hp hH)).mono fun x w' hx=>jY.mono (fun y w2 hy=>⟨hy.1,Z,hZ,hH.call hy.2⟩) hx
 |wrap m d ih=>
  intro n f Z R e l j w hO hi hZ hf hn hs ht hH
  obtain⟨b2,b3,b5,e',l',j',rfl,rfl,rfl,h5,h2,h3,hd⟩:=hO
  obtain⟨fe,ce,he,hfe⟩:=ayZ hd
  subst he
  obtain⟨Y,hp,hq⟩:=hZ.pick hi.1 hH
  obtain⟨Z1,hz1,hp1⟩:=hq (Kd.e.up (f m))
  have hn':n+(d.dep+1)<=1000000000000:=hn
  refine⟨_,[pt b5,pt b3],rfl,call62,?_⟩
  refine Dl W0 b5 b3 b2 m (f m) fe ce _ _ v u (ey d.sh.sh il vs).1 (ey d.sh.sh il vs).2 Y R (fun Z'=>kU (BG fr) ids (d.tick .e (jT .e m f)) tl Z') (hf.ok J m) w hfe h5 h2 h3 (fun w1 A h=> ?_) (hH.perm (hp.append_right R))
  exact(ih (n+1) (jT .e m f) Z1 (A++R) _ _ _ w1 (hd.mono (Le.zz fun x hx=>bH _ hx)) hi.2 hz1 (hf.tick _ m) J (fun Z' w' h=>hs (Z'++A) w' (by rw[dG];exact h)) (fun Z' w' h=>ht (Z'++A) w' (by rw[dG];exact h)) (h.perm (hp1.append_right _))).get
theorem ay1{K:Vu}{d:Wr}{e l j:Value}(h:BC TX K d e l j):asr Tryz.prog l:=by
 cases d with
 |base p tb=>obtain⟨B1,B2,rfl,rfl,rfl,-⟩:=h;exact⟨_,_,rfl,call97⟩
 |wrap m d=>obtain⟨b2,b3,b5,e',l',j',rfl,rfl,rfl,-⟩:=h;exact⟨_,_,rfl,call64⟩
theorem akt(W0:World)(ids:List Nat)(tl:List (Nat×Rl))(hT:o6 W0)(a b:El)(d:Wr):∀(n:Nat) (f:Ct) (Z R:List bu) (e l j:Value) (w:World),BC TX (Kz (Kw W0) R) d e l j->d.Fp ids tl->kU (BG fr) ids f tl Z->FF n f->n+d.dep<=1000000000000->Hp W0 w (Z++R)->
  Ap Tryz.prog l [.agg (iM a),.agg (iM b)] w (jY fun x w'=>x=B (cS a b)/\∃Z',kU (BG fr) ids (d.tick .l f) tl Z'/\Hp W0 w' (Z'++R)):=by
 induction d with
 |base p tb=>
  intro n f Z R e l j w hO hi hZ hf hn hH
  obtain⟨B1,B2,rfl,rfl,rfl,h4,h5,h6⟩:=hO
  have hk:=hH.kz (Le.refl _) (Z:=R) fun x hx=>bH _ hx
  refine⟨_,[],rfl,call97,?_⟩
  exact(WH a b w).mono fun x w' hx=>jY.mono (fun y w2 hy=>⟨hy.1,Z,hZ,hH.call hy.2⟩) hx
 |wrap m d ih=>
  intro n f Z R e l j w hO hi hZ hf hn hH
  obtain⟨b2,b3,b5,e',l',j',rfl,rfl,rfl,h5,h2,h3,hd⟩:=hO
  obtain⟨fe,ce,he,hfe⟩:=ay1 hd
  subst he
  obtain⟨Y,hp,hq⟩:=hZ.pick hi.1 hH
  obtain⟨Z1,hz1,hp1⟩:=hq (Kd.l.up (f m))
  have hn':n+(d.dep+1)<=1000000000000:=hn
  refine⟨_,[pt b5,pt b3],rfl,call64,?_⟩
  refine Dm W0 b5 b3 b2 m (f m) fe ce _ _ a b (cS a b) Y R (fun Z'=>kU (BG fr) ids (d.tick .l (jT .l m f)) tl Z') (hf.ok J m) w hfe h5 h2 h3 (fun w1 A h=> ?_) (hH.perm (hp.append_right R))
  exact(ih (n+1) (jT .l m f) Z1 (A++R) _ _ _ w1 (hd.mono (Le.zz fun x hx=>bH _ hx)) hi.2 hz1 (hf.tick _ m) J (h.perm (hp1.append_right _))).get
theorem ay2{K:Vu}{d:Wr}{e l j:Value}(h:BC TX K d e l j):asr Tryz.prog j:=by
 cases d with
 |base p tb=>obtain⟨B1,B2,rfl,rfl,rfl,-⟩:=h;exact⟨_,_,rfl,call141⟩
 |wrap m d=>obtain⟨b2,b3,b5,e',l',j',rfl,rfl,rfl,-⟩:=h;exact⟨_,_,rfl,call66⟩
theorem aku(W0:World)(ids:List Nat)(tl:List (Nat×Rl))(hT:o6 W0)(a b:El)(d:Wr):∀(n:Nat) (f:Ct) (Z R:List bu) (e l j:Value) (w:World),BC TX (Kz (Kw W0) R) d e l j->d.Fp ids tl->kU (BG fr) ids f tl Z->FF n f->n+d.dep<=1000000000000->Hp W0 w (Z++R)->
  Ap Tryz.prog j [.agg (iM a),.agg (iM b)] w (jY fun x w'=>x= .agg (iM (py d.tb a b))/\∃Z',kU (BG fr) ids (d.tick .j f) tl Z'/\Hp W0 w' (Z'++R)):=by
 induction d with
 |base p tb=>
  intro n f Z R e l j w hO hi hZ hf hn hH
  obtain⟨B1,B2,rfl,rfl,rfl,h4,h5,h6⟩:=hO
  have hk:=hH.kz (Le.refl _) (Z:=R) fun x hx=>bH _ hx
  refine⟨_,[pt B2],rfl,call141,?_⟩
  obtain⟨Zt,hzt,rfl⟩:=hZ
  refine(Jj W0 B2 tb tl Zt ((ids.map (fun m=>sO TX m (f m))++fr)++R) a b w hT hi.2 (Le.zz (fun x hx=>bH _ hx) _ _ h6) hzt (hH.perm (by rw[dG];exact wV _ _ _))).mono fun x w' hx=>jY.mono (fun y w2 hy=>⟨hy.1,?_⟩) hx
  obtain⟨-,Z',hz',h'⟩:=hy
  exact⟨_,⟨Z',hz',rfl⟩,h'.perm (by rw[dG (_++_) Z' R];exact wV _ _ _)⟩
 |wrap m d ih=>
  intro n f Z R e l j w hO hi hZ hf hn hH
  obtain⟨b2,b3,b5,e',l',j',rfl,rfl,rfl,h5,h2,h3,hd⟩:=hO
  obtain⟨fe,ce,he,hfe⟩:=ay2 hd
  subst he
  obtain⟨Y,hp,hq⟩:=hZ.pick hi.1 hH
  obtain⟨Z1,hz1,hp1⟩:=hq (Kd.j.up (f m))
  have hn':n+(d.dep+1)<=1000000000000:=hn
  refine⟨_,[pt b5,pt b3],rfl,call66,?_⟩
  refine Dn W0 b5 b3 b2 m (f m) fe ce _ _ a b (py d.tb a b) Y R (fun Z'=>kU (BG fr) ids (d.tick .j (jT .j m f)) tl Z') (hf.ok J m) w hfe h5 h2 h3 (fun w1 A h=> ?_) (hH.perm (hp.append_right R))
  exact(ih (n+1) (jT .j m f) Z1 (A++R) _ _ _ w1 (hd.mono (Le.zz fun x hx=>bH _ hx)) hi.2 hz1 (hf.tick _ m) J (h.perm (hp1.append_right _))).get
end
end
section
open Go Go.RowKit Go.Proofs.YtlhjdflgjbkpmaaGreatDoor.E Go.Proofs.YtlhjdflgjbkpmaaGreatDoor.M
set_option maxRecDepth 100000
open Go.Proofs.Tryz
abbrev FX:FTy:=(⟨(⟨134,243,193,3,35,8⟩:UT),111,35,1,3⟩:FTy)
theorem xF{nA nB nC nD nE nF nG nH nI nJ nK nL:Value}(F:Nat)(vW vU vT:Value)(cnt:Int)(W:List (BitVec 64))(w:World)(hb:w.heap[F]?=some (.cells #[nA,nB,nC,nD,nE,nF,nG,nH,vW,vU,vT,I cnt,nI,nJ,nK,nL] 111 (0,0)))(hW:Sl w vW 1 W.length (W.map U)):Calls Tryz.prog 133 #[.pointer (some ⟨F,8,none⟩)] w (Pure (I W.length) w):=by
 refine eH func133 rfl rfl fun hH=>SR<|va (v:=I 0) rfl<|aa<|ai<|SR<|aE (v:=Pn _ _) rfl<|V (kX lW O O)<|aa<|cL rfl<|an<|SR<|aE (v:=Pn _ _) rfl<|V (af O)<|V (fA mz 0 O jE O)<|V (aG dh O O (hH.eP hb O))<|V (aC (hW.hp hH) O dh O)<|aI rfl<|aa<|aj<|oI O ?_ hH
 rfl
theorem zm{nA nB nC nD nE nF nG nH nI nJ nK nL:Value}(F:Nat)(vW vU vT:Value)(cnt:Int)(W:List (BitVec 64))(i:Int)(w:World)(hb:w.heap[F]?=some (.cells #[nA,nB,nC,nD,nE,nF,nG,nH,vW,vU,vT,I cnt,nI,nJ,nK,nL] 111 (0,0)))(hW:Sl w vW 1 W.length (W.map U)):Calls Tryz.prog 218 #[.pointer (some ⟨F,8,none⟩),I i] w (Pure (B (decide (0<=i/\i<W.length))) w):=by
 refine eH func218 rfl rfl fun hH=>SR<|va (v:=B false) rfl<|aa<|SR<|mI rfl<|V (dF O O)<|mB rfl<|bK 7 O (fun h2=> ?_) (fun h2=> ?_)
 .refine mI rfl<|aE (v:=Pn _ _) rfl<|aH O hH (xF _ _ _ _ _ _ _ (hH.ext hb) (hW.hp hH)) (ay call133 O)<|fun w3 iw=>V (aN O O)<|mB rfl<|aB rfl<|aa<|aj<|oB O ?_ iw
  (simp;omega)
 refine aE (v:=B false) rfl<|aB rfl<|aa<|aj<|oB O ?_ hH
 (rw[gZ J];done)
theorem Hl{nA nB nC nD nE nF nG nH nI nJ nK nL:Value}(F:Nat)(vW vU vT:Value)(cnt:Int)(W:List (BitVec 64))(i:Int)(hi:0<=i/\i<W.length)(w:World)(hb:w.heap[F]?=some (.cells #[nA,nB,nC,nD,nE,nF,nG,nH,vW,vU,vT,I cnt,nI,nJ,nK,nL] 111 (0,0)))(hW:Sl w vW 1 W.length (W.map U)):Calls Tryz.prog 190 #[.pointer (some ⟨F,8,none⟩),I i] w (Pure (U (W.getD i.toNat 0)) w):=by
 refine eH func190 rfl rfl fun hH=>SR<|va (v:=U 0#64) rfl<|aa<|ai<|SR<|aE (v:=Pn _ _) rfl<|mI rfl<|aH O hH (zm _ _ _ _ _ _ _ _ (hH.ext hb) (hW.hp hH)) (aM call218 O O)<|fun w1 bp=>V (vz O)<|aa<|aF O (fun h6=> ?_) (fun h6=> ?_)
 .refine SR<|va (v:=U 0#64) rfl<|aa<|aj<|oU O ?_ bp
  omega
 refine an<|SR<|aE (v:=Pn _ _) rfl<|V (af O)<|V (fA mz 0 O jE O)<|V (aG dh O O (bp.eP hb O))<|mI rfl<|V (ah (hW.hp bp) dh cQ O O J)<|V (aG dM O O (Sl.atU (hW.hp bp) J J))<|aU rfl<|aa<|aj<|oU O ?_ bp
 rfl
theorem mR{nA nB nC nD nE nF nG nH nI nJ nK nL:Value}(F:Nat)(vW vU vT:Value)(cnt:Int)(W:List (BitVec 64))(us:List Value)(w:World)(hb:w.heap[F]?=some (.cells #[nA,nB,nC,nD,nE,nF,nG,nH,vW,vU,vT,I cnt,nI,nJ,nK,nL] 111 (0,0)))(hW:Sl w vW 1 W.length (W.map U))(hU:Sl w vU 1 us.length us):Calls Tryz.prog 90 #[.pointer (some ⟨F,8,none⟩)] w (Pure (I us.length) w):=by
 refine eH func90 rfl rfl fun hH=>SR<|va (v:=I 0) rfl<|aa<|ai<|SR<|aE (v:=Pn _ _) rfl<|V (kX lW O O)<|aa<|cL rfl<|an<|SR<|aE (v:=Pn _ _) rfl<|V (af O)<|V (fA mz 1 O kq O)<|V (aG hG O O (hH.eP hb O))<|V (aC (hU.hp hH) O hG O)<|aI rfl<|aa<|aj<|oI O ?_ hH
 rfl
theorem dz{nA nB nC nD nE nF nG nH nI nJ nK nL:Value}(F:Nat)(vW vU vT:Value)(cnt:Int)(W:List (BitVec 64))(i k:Int)(hi:0<=i/\i<1000000/\0<=k/\k<4/\4*i+k<W.length)(w:World)(hb:w.heap[F]?=some (.cells #[nA,nB,nC,nD,nE,nF,nG,nH,vW,vU,vT,I cnt,nI,nJ,nK,nL] 111 (0,0)))(hW:Sl w vW 1 W.length (W.map U)):Calls Tryz.prog 159 #[.pointer (some ⟨F,8,none⟩),I i,I k] w (Pure (I (W.getD (4*i+k).toNat 0).toInt) w):=by
 refine eH func159 rfl rfl fun hH=>SR<|va (v:=I 0) rfl<|aa<|SR<|aE (v:=Pn _ _) rfl<|V (af O)<|V (fA zI 0 O zM O)<|mI rfl<|V (zT O O J)<|mI rfl<|V (ax O O J)<|aH O hH (Hl _ _ _ _ _ _ _ J _ (hH.ext hb) (hW.hp hH)) (aM call190 O O)<|fun w1 bp=>V (YA dM bx O)<|aI rfl<|aa<|aj<|oI O ?_ bp
 rfl
theorem lQ{nA nB nC nD nE nF nG nH nI nJ nK nL:Value}(F:Nat)(vW vU vT:Value)(cnt:Int)(nd:List qD)(hn:nd.length<=1000000)(w:World)(hb:w.heap[F]?=some (.cells #[nA,nB,nC,nD,nE,nF,nG,nH,vW,vU,vT,I cnt,nI,nJ,nK,nL] 111 (0,0)))(hW:Sl w vW 1 (bE nd).length ((bE nd).map U)):Calls Tryz.prog 89 #[.pointer (some ⟨F,8,none⟩)] w (Pure (I nd.length) w):=by
 have hwl:=iG nd
 refine eH func89 rfl rfl fun hH=>SR<|va (v:=I 0) rfl<|aa<|ai<|SR<|aE (v:=Pn _ _) rfl<|V (kX LA O O)<|aa<|cL rfl<|an<|SR<|aE (v:=Pn _ _) rfl<|V (af O)<|V (fA ix 0 O vh O)<|V (fA zI 0 O zM O)<|aH O hH (xF _ _ _ _ _ _ _ (hH.ext hb) (hW.hp hH)) (ay call133 O)<|fun w1 bp=>V (alW O O J J)<|aI rfl<|aa<|aj<|oI O ?_ bp
 omega
theorem mS{nA nB nC nD nE nF nG nH nI nJ nK nL:Value}(F:Nat)(vW vU vT:Value)(cnt:Int)(nd:List qD)(i:Int)(hn:nd.length<=1000000)(w:World)(hb:w.heap[F]?=some (.cells #[nA,nB,nC,nD,nE,nF,nG,nH,vW,vU,vT,I cnt,nI,nJ,nK,nL] 111 (0,0)))(hW:Sl w vW 1 (bE nd).length ((bE nd).map U)):Calls Tryz.prog 158 #[.pointer (some ⟨F,8,none⟩),I i] w (Pure (B (decide (0<=i/\i<nd.length))) w):=by
 refine eH func158 rfl rfl fun hH=>SR<|va (v:=B false) rfl<|aa<|SR<|mI rfl<|V (dF O O)<|mB rfl<|bK 7 O (fun h2=> ?_) (fun h2=> ?_)
 .refine mI rfl<|aE (v:=Pn _ _) rfl<|aH O hH (lQ _ _ _ _ _ _ lA _ (hH.ext hb) (hW.hp hH)) (ay call89 O)<|fun w3 iw=>V (aN O O)<|mB rfl<|aB rfl<|aa<|aj<|oB O ?_ iw
  (simp;omega)
 refine aE (v:=B false) rfl<|aB rfl<|aa<|aj<|oB O ?_ hH
 (rw[gZ J];done)
theorem BU{nA nB nC nD nE nF nG nH nI nJ nK nL:Value}(F:Nat)(vW vU vT:Value)(cnt:Int)(W:List (BitVec 64))(w:World)(hb:w.heap[F]?=some (.cells #[nA,nB,nC,nD,nE,nF,nG,nH,vW,vU,vT,I cnt,nI,nJ,nK,nL] 111 (0,0)))(hW:Sl w vW 1 W.length (W.map U)):Calls Tryz.prog 123 #[.pointer (some ⟨F,8,none⟩)] w (Pure (I cnt) w):=by
 refine eH func123 rfl rfl fun hH=>SR<|va (v:=I 0) rfl<|aa<|ai<|SR<|aE (v:=Pn _ _) rfl<|V (kX LA O O)<|aa<|cL rfl<|an<|SR<|aE (v:=Pn _ _) rfl<|V (af O)<|V (fA ix 3 O aO O)<|V (aG bx O O (hH.eP hb (v:=I _) O))<|aI rfl<|aa<|aj<|oI O ?_ hH
 rfl
theorem Dp{nA nB nC nD nE nF nG nH nI nJ nK nL:Value}(F:Nat)(vW vU vT:Value)(cnt:Int)(W:List (BitVec 64))(ts:List Int)(w:World)(hb:w.heap[F]?=some (.cells #[nA,nB,nC,nD,nE,nF,nG,nH,vW,vU,vT,I cnt,nI,nJ,nK,nL] 111 (0,0)))(hW:Sl w vW 1 W.length (W.map U))(hT:Sl w vT 1 ts.length (ts.map I)):Calls Tryz.prog 46 #[.pointer (some ⟨F,8,none⟩)] w (Pure (I ts.length) w):=by
 refine eH func46 rfl rfl fun hH=>SR<|va (v:=I 0) rfl<|aa<|ai<|SR<|aE (v:=Pn _ _) rfl<|V (kX LA O O)<|aa<|cL rfl<|an<|SR<|aE (v:=Pn _ _) rfl<|V (af O)<|V (fA ix 2 O dH O)<|V (aG bD O O (hH.eP hb O))<|V (aC (hT.hp hH) O bD O)<|aI rfl<|aa<|aj<|oI O ?_ hH
 rfl
theorem oO{nA nB nC nD nE nF nG nH nI nJ nK nL:Value}(F:Nat)(vW vU vT:Value)(cnt:Int)(nd:List qD)(cl:List Nat)(i:Int)(hn:nd.length<=1000000)(hf:Fo nd cl)(hi:0<=i/\i<nd.length)(w:World)(hb:w.heap[F]?=some (.cells #[nA,nB,nC,nD,nE,nF,nG,nH,vW,vU,vT,I cnt,nI,nJ,nK,nL] 111 (0,0)))(hW:Sl w vW 1 (bE nd).length ((bE nd).map U)):Calls Tryz.prog 160 #[.pointer (some ⟨F,8,none⟩),I i] w (Pure (I (o9 nd cl i.toNat)) w):=by
 have hwl:=iG nd
 refine eH func160 rfl rfl fun hH=>SR<|va (v:=I 0) rfl<|aa<|ai<|aA<|bt (G:=Nat) (fun c s' w'=>(Fr (1::(rg 5 12 [])) _ s')/\(Hp w w' _)/\(s' 1=I (c:Int))/\(c<nd.length)/\(cm cl c=cm cl i.toNat)) (fun c=>nd.length-kN nd c) (i.toNat) ⟨Fr.refl _ _,hH,(aK I (show i=((i.toNat:Nat):Int)by omega)),J,rfl⟩<| ?_
 rintro c sg1 w1 ⟨uJ,jf,AA,hc,oy⟩
 have my:=uJ.w1 0
 have hcu:=am0 hf hn hc
 refine ai<|SR<|aE my<|V (af O)<|V (fA ix 0 O vh O)<|aE AA<|aH O jf (dz _ _ _ _ _ _ _ _ J _ (jf.ext hb) (hW.hp jf)) (bz uu O O (show _=I 0 from O))<|fun w2 tZ=>aE AA<|V (jZ O O)<|aa<|aF O (fun h5=> ?_) (fun h5=> ?_)
 .refine an<|aA<|au<|aE my<|V (af O)<|V (fA ix 0 O vh O)<|aE AA<|aH O tZ (dz _ _ _ _ _ _ _ _ J _ (tZ.ext hb) (hW.hp tZ)) (bz uu O O (show _=I 0 from O))<|fun w6 eE=>aI rfl<|aa<| ?_
  refine⟨sL nd c,?_,uJ.u4.u4.u4.u1,eE,(aK I hcu),?_,?_⟩
  .have hne:sL nd c≠c:=fun e=>‹_≠(c:Int)› (hcu.trans (by rw[e]));exact(SM hf hc O).2.2 hne
  .exact(SM hf hc oy).1
  exact(SM hf hc oy).2.1
 refine a8 (id:=0) rfl<|SR<|aE AA<|aI rfl<|aa<|aj<|oI O ?_ tZ
 exact aK (fun x:Nat=>(x:Int)) (ah4 hf J hc J oy)
theorem Dq{nA nB nC nD nE nF nG nH nI nJ nK nL:Value}(F:Nat)(vW vU vT:Value)(cnt:Int)(nd:List qD)(cl:List Nat)(i:Int)(hn:nd.length<=1000000)(hf:Fo nd cl)(w:World)(hb:w.heap[F]?=some (.cells #[nA,nB,nC,nD,nE,nF,nG,nH,vW,vU,vT,I cnt,nI,nJ,nK,nL] 111 (0,0)))(hW:Sl w vW 1 (bE nd).length ((bE nd).map U)):Calls Tryz.prog 128 #[.pointer (some ⟨F,8,none⟩),I i] w (Pure (I (fN cl i)) w):=by
 have hwl:=iG nd
 refine eH func128 rfl rfl fun hH=>SR<|va (v:=I 0) rfl<|aa<|ai<|SR<|aE (v:=Pn _ _) rfl<|mI rfl<|aH O hH (mS _ _ _ _ _ _ _ lA _ (hH.ext hb) (hW.hp hH)) (aM call158 O O)<|fun w1 bp=>V (vz O)<|aa<|aF O (fun h6=> ?_) (fun h6=> ?_)
 .refine SR<|va (v:=I (-1)) rfl<|aa<|aj<|oI O ?_ bp
  exact ad4 hf J
 refine an<|ai<|ed aP bp<|fun w7 eW=>have zh8:=eW;AQ 0 O zh8 (mV (Pn _ _) O)<|AQ 1 O zh8 (af O)<|AQ 2 O zh8 (fA ix 0 O vh O)<|AQ 3 O zh8 (mV (Pn _ _) O)<|AQ 4 O zh8 (mV (I _) O)<|A1 5<|cw O aD O eW sR (oO _ _ _ _ _ nd cl _ lA lA J _ (eW.ext hb) (hW.hp eW)) (aM call160 O O)<|fun w9 cg=>A1 6<|cw O aD O cg sR (dz _ _ _ _ _ _ _ _ (by have:=(pH hf (i:=i.toNat) J).1;omega) _ (cg.ext hb) (hW.hp cg)) (bz uu O O (show _=I 3 from O))<|fun I8 cP=>AQ 7 O cP (aV (I _) O)<|AD<|aj<|oI O ?_ cP
 exact ad5 hf hn J
theorem Eh{nA nB nC nD nE nF nG nH nI nJ nK nL:Value}(W0:World)(F:Nat)(vW vU vT:Value)(cnt:Int)(cW:Option (Nat×Array Value))(W:List (BitVec 64))(L:List bu)(b1 b2:Nat)(n:Int)(hn:0<=n/\n<=W.length)(w:World)(h1:bu.blk b1 (.cells #[.pointer (some ⟨F,8,none⟩)] 193 (0,0))∈L)(h2:bu.blk b2 (.cells #[I n] 3 (0,0))∈L)(zv:cO cW vW (W.map U))(hH:Hp W0 w (.blk F (.cells #[nA,nB,nC,nD,nE,nF,nG,nH,vW,vU,vT,I (cnt),nI,nJ,nK,nL] 111 (0,0))::cE cW vW 35 (W.map U)::L)):Calls Tryz.prog 134 #[.pointer (some ⟨b1,0,none⟩),.pointer (some ⟨b2,0,none⟩)] w (jY fun u w'=>u= .tuple #[]/\∃v' c',cO c' v' ((W.take n.toNat).map U)/\Hp W0 w' (.blk F (.cells #[nA,nB,nC,nD,nE,nF,nG,nH,v',vU,vT,I (cnt),nI,nJ,nK,nL] 111 (0,0))::cE c' v' 35 ((W.take n.toNat).map U)::L)):=by
 refine en func134 rfl rfl<|gp aP hH (sQ (sQ sR))<|fun w1 bp=>have kV:=bp.sub (sQ (sQ sR));AT 0 O kV (fun w hS=>aG lW O O (hS.px h1 (v:=Pn _ _) O))<|AT 1 O kV (fun w hS=>aG lW O O (hS.px h1 (v:=Pn _ _) O))<|AQ 2 O kV (af O)<|AQ 3 O kV (fA mz 0 O jE O)<|AT 5 O kV (fun w hS=>aG bx O O (hS.px h2 (v:=I _) O))<|AT 6 O kV (fun w hS=>aG bx O O (hS.px h2 (v:=I _) O))<|A1 4<|cf O aD O bp (sQ (sQ sR)) (aG dh O O (bp.cell (i:=0) O O))<|A1 7<|cf O aD O bp (sQ (sQ sR)) (vZ (bp.yR (i:=1) O zv) dh cQ O O O J)<|AQ 8 O kV (af O)<|AQ 9 O kV (fA mz 0 O jE O)<|A1 10<|have hs1:=((bp.yR (i:=1) O zv)).tG (n:=(n).toNat) J;?_
 obtain⟨c9,ay4,df⟩:=bp.ase (i:=1) O zv (m:=(n).toNat) Yw
 simp only[jh,kZ,<-Ca]at df ay4
 refine ef O aD df (j:=0) O (sQ (sQ sR)) (bM O O (v:=(tG vW (n).toNat)) O (iq hs1).2 (iq hs1).1 (df.blk (i:=0) O) aJ)<|fun zc bX=>AD<|rh O ⟨rfl,(tG vW (n).toNat),c9,ay4,bX⟩
theorem Ei{nA nB nC nD nE nF nG nH nI nJ nK nL:Value}(W0:World)(F:Nat)(vW vU vT:Value)(cnt:Int)(cW:Option (Nat×Array Value))(W:List (BitVec 64))(L:List bu)(b1 b2 b3:Nat)(i:Int)(b:BitVec 64)(hi:0<=i/\i<W.length)(w:World)(h1:bu.blk b1 (.cells #[U b] 35 (0,0))∈L)(h2:bu.blk b2 (.cells #[.pointer (some ⟨F,8,none⟩)] 193 (0,0))∈L)(h3:bu.blk b3 (.cells #[I i] 3 (0,0))∈L)(zv:cO cW vW (W.map U))(hH:Hp W0 w (.blk F (.cells #[nA,nB,nC,nD,nE,nF,nG,nH,vW,vU,vT,I (cnt),nI,nJ,nK,nL] 111 (0,0))::cE cW vW 35 (W.map U)::L)):Calls Tryz.prog 243 #[.pointer (some ⟨b1,0,none⟩),.pointer (some ⟨b2,0,none⟩),.pointer (some ⟨b3,0,none⟩)] w (jY fun u w'=>u= .tuple #[]/\∃v' c',cO c' v' ((W.set i.toNat b).map U)/\Hp W0 w' (.blk F (.cells #[nA,nB,nC,nD,nE,nF,nG,nH,v',vU,vT,I (cnt),nI,nJ,nK,nL] 111 (0,0))::cE c' v' 35 ((W.set i.toNat b).map U)::L)):=by
 refine en func243 rfl rfl<|gp aP hH (sP (sQ sR))<|fun w1 bp=>have kV:=bp.sub (sP (sQ sR));AT 0 O kV (fun w hS=>aG lW O O (hS.px (mT h2) (v:=Pn _ _) O))<|AQ 1 O kV (af O)<|AQ 2 O kV (fA mz 0 O jE O)<|tV 3 O kV dh 0 O O rfl<|AT 4 O kV (fun w hS=>aG bx O O (hS.px (mT h3) (v:=I _) O))<|AT 5 O kV (fun w hS=>aG dM O O (hS.px (mT h1) (v:=U _) O))<|A1 6<|cf O aD O bp (sP (sQ sR)) (ah (bp.yR (i:=1) O zv) dh cQ O O J)<|A1 7<|aia (u:=U _) O aD bp (i:=1) O zv (fun _ _=>(sP (sQ sR))) Yw O O O O rfl<|fun c7 w9 hk8 cg=> ?_
 simp only[jh,kZ,GH]at cg hk8
 refine AD<|rh O ⟨rfl,vW,c7,hk8,cg⟩
theorem rP{nA nB nC nD nE nF nG nH nI nJ nK nL:Value}(W0:World)(F:Nat)(vW vU vT:Value)(cnt:Int)(cW cU:Option (Nat×Array Value))(W:List (BitVec 64))(ul:List (Value×jS))(L:List bu)(b:BitVec 64)(hwl:W.length<=4000000)(OX:ul.length<=4000000)(w:World)(zv:cO cW vW (W.map U))(JS:cO cU vU (ul.map Prod.fst))(hH:Hp W0 w (.blk F (.cells #[nA,nB,nC,nD,nE,nF,nG,nH,vW,vU,vT,I (cnt),nI,nJ,nK,nL] 111 (0,0))::cE cW vW 35 (W.map U)::cE cU vU 1 (ul.map Prod.fst)::L)):Calls Tryz.prog 91 #[.pointer (some ⟨F,8,none⟩),U b] w (jY fun u w'=>u=I W.length/\∃(v':Value) (c':Option (Nat×Array Value)) (v2:Value) (c2:Option (Nat×Array Value)) (zn:List (Value×jS)) (Lb:List bu),cO c' v' ((W++[b]).map U)/\cO c2 v2 (zn.map Prod.fst)/\zn.map Prod.snd=ul.map Prod.snd++[jS.add W.length]/\zn.take ul.length=ul/\zn.length<=ul.length+1/\(∀x∈zn.drop ul.length,pM (⟨134,243,193,3,35,8⟩:UT) F Lb x)/\Hp W0 w' (.blk F (.cells #[nA,nB,nC,nD,nE,nF,nG,nH,v',v2,vT,I (cnt),nI,nJ,nK,nL] 111 (0,0))::cE c' v' 35 ((W++[b]).map U)::cE c2 v2 1 (zn.map Prod.fst)::(Lb++L))):=by
 refine en func91 rfl rfl<|SR<|gN hH (v:=Pn _ _) rfl<|fun b3 w1 bp=>va (v:=I 0) rfl<|aa<|ai<|SR<|lP lW bp 0 O O rfl<|V (kX lW O O)<|aa<|cL rfl<|an<|SR<|lP lW bp 0 O O rfl<|V (af O)<|V (fA mz 0 O jE O)<|lV dh bp 1 O O rfl<|V (aC (bp.yR (i:=2) O zv) O dh O)<|lK bp (aS Tryz.zeroValue3)<|fun b6 w4 bY=>bk bY (i:=0) O (bM O O (v:=I _) O O O (bY.blk (i:=0) O) az)<|fun w7 eW=>aa<|ai<|gp aP eW (sP (sP (sQ (sQ sR))))<|fun w9 cg=>have AJ:=cg.sub (sP (sP (sQ (sQ sR))));tP 0 O AJ lW 1 O O rfl<|tP 1 O AJ lW 1 O O rfl<|AQ 2 O AJ (af O)<|AQ 3 O AJ (fA mz 0 O jE O)<|AQ 5 O AJ (mV (U _) O)<|gq 4 6 aP ?_ ?_
 .refine cf O aD O cg (sP (sP (sQ (sQ sR)))) (aG dh O O (cg.cell (i:=2) O O))<|A1 6<|cH O aD O cg (sP (sP (sQ (sQ sR)))) (f:=fun b=> .slice (some ⟨b,0,none⟩) 1 1) (cB dh O O (sz:=1) (vs:=[U _]) O O az az O O)<|fun b15 C2 cG=> ?_
  (try simp only[lj]at cG)
  refine A1 7<|CJ (y0:=U b) O aD O cG (i:=4) O zv (fun _ _=>(sQ (sP (sP (sQ (sQ sR)))))) (cG.dS (i:=0) (n:=1) (sz:=1) O O az) O O dh O O O (bytes:=8) O O O pq pq<|fun v18 Tq cT=> ?_
  rw[Qq]at cT
  refine AQ 8 O (cT.sub (sQ (sP (sP (sQ (sQ sR)))))) (af O)<|AQ 9 O (cT.sub (sQ (sP (sP (sQ (sQ sR)))))) (fA mz 0 O jE O)<|A1 10<|ef O aD cT (j:=3) O (sQ (sP (sP (sQ (sQ sR))))) (bM O O (v:=v18) O (iq (cT.yR (i:=4) O trivial)).2 (iq (cT.yR (i:=4) O trivial)).1 (cT.blk (i:=3) O) aJ)<|fun w23 gY=>AD<|ai<|gp aP gY (sP (sP (sP (sQ (sP (sQ sR))))))<|fun w25 jg=>have Kl:=jg.sub (sP (sP (sP (sQ (sP (sQ sR))))));tP 0 O Kl lW 2 O O rfl<|tP 1 O Kl lW 2 O O rfl<|AQ 2 O Kl (af O)<|AQ 3 O Kl (fA mz 1 O kq O)<| ?_
  refine AQ 5 O Kl (s6 bA bA) ?_
  refine gq 4 6 aP ?_ ?_
  .refine cf O aD O jg (sP (sP (sP (sQ (sP (sQ sR)))))) (aG hG O O (jg.cell (i:=3) O O))<|A1 6<|cH O aD O jg (sP (sP (sP (sQ (sP (sQ sR)))))) (f:=fun b=> .slice (some ⟨b,0,none⟩) 1 1) (cB hG O O (sz:=1) (vs:=[.func _ _ _]) O O az az O O)<|fun b31 w29 iW=> ?_
   (try simp only[lj]at iW)
   refine A1 7<|CJ (y0:= .func (.func 134) #[] #[.pointer (some ⟨b3,0,none⟩),.pointer (some ⟨b6,0,none⟩)]) rfl aD rfl iW (i:=6) O JS (fun _ _=>(sQ (sP (sP (sP (sQ (sP (sQ sR)))))))) (iW.dS (i:=0) (n:=1) (sz:=1) O O az) O O hG O O O (bytes:=8) O O O pq pq<|fun v34 w35 j7=> ?_
   rw[u6 (jS.add W.length)]at j7
   refine AQ 8 O (j7.sub (sQ (sP (sP (sP (sQ (sP (sQ sR)))))))) (af O)<|AQ 9 O (j7.sub (sQ (sP (sP (sP (sQ (sP (sQ sR)))))))) (fA mz 1 O kq O)<|A1 10<|ef O aD j7 (j:=4) O (sQ (sP (sP (sP (sQ (sP (sQ sR))))))) (bM O O (v:=v34) O (iq (j7.BB (i:=6) O trivial)).2 (iq (j7.BB (i:=6) O trivial)).1 (j7.blk (i:=4) O) aJ)<|fun w39 lG=>AD<|SR<|lI bx lG 2 O O rfl<|aI rfl<|aa<|aj<|jA O (v:=I W.length) O ⟨rfl,v18,none,v34,none,(ul++[(.func (.func 134) #[] #[.pointer (some ⟨b3,0,none⟩),.pointer (some ⟨b6,0,none⟩)],jS.add W.length)]),[bu.blk b3 (.cells #[.pointer (some ⟨F,8,none⟩)] 193 (0,0)),bu.blk b6 (.cells #[I W.length] 3 (0,0))],trivial,trivial,aJ,aJ,aJ,?_,(lG.pj [4,4,4,3,2]).sub (sP (sP (sP (sP (sP (sQ (sQ sR)))))))⟩
   intro x hx;rw[E7,gG]at hx;subst hx;exact⟨_,_,rfl,aJ,aJ⟩
  refine cH O aD O jg (sP (sP (sP (sQ (sP (sQ sR)))))) (f:=fun b=> .slice (some ⟨b,0,none⟩) 1 1) (cB hG O O (sz:=1) (vs:=[.func _ _ _]) O O az az O O)<|fun b43 w41 qQ=> ?_
  (try simp only[lj]at qQ)
  refine A1 4<|cf O aD O qQ (sQ (sP (sP (sP (sQ (sP (sQ sR))))))) (aG hG O O (qQ.cell (i:=4) O O))<|A1 7<|CJ (y0:= .func (.func 134) #[] #[.pointer (some ⟨b3,0,none⟩),.pointer (some ⟨b6,0,none⟩)]) rfl aD rfl qQ (i:=6) O JS (fun _ _=>(sQ (sP (sP (sP (sQ (sP (sQ sR)))))))) (qQ.dS (i:=0) (n:=1) (sz:=1) O O az) O O hG O O O (bytes:=8) O O O pq pq<|fun v48 w49 eL=> ?_
  rw[u6 (jS.add W.length)]at eL
  refine AQ 8 O (eL.sub (sQ (sP (sP (sP (sQ (sP (sQ sR)))))))) (af O)<|AQ 9 O (eL.sub (sQ (sP (sP (sP (sQ (sP (sQ sR)))))))) (fA mz 1 O kq O)<|A1 10<|ef O aD eL (j:=4) O (sQ (sP (sP (sP (sQ (sP (sQ sR))))))) (bM O O (v:=v48) O (iq (eL.BB (i:=6) O trivial)).2 (iq (eL.BB (i:=6) O trivial)).1 (eL.blk (i:=4) O) aJ)<|fun w53 gR=>AD<|SR<|lI bx gR 2 O O rfl<|aI rfl<|aa<|aj<|jA O (v:=I W.length) O ⟨rfl,v18,none,v48,none,(ul++[(.func (.func 134) #[] #[.pointer (some ⟨b3,0,none⟩),.pointer (some ⟨b6,0,none⟩)],jS.add W.length)]),[bu.blk b3 (.cells #[.pointer (some ⟨F,8,none⟩)] 193 (0,0)),bu.blk b6 (.cells #[I W.length] 3 (0,0))],trivial,trivial,aJ,aJ,aJ,?_,(gR.pj [4,4,4,3,2]).sub (sP (sP (sP (sP (sP (sQ (sQ sR)))))))⟩
  intro x hx;rw[E7,gG]at hx;subst hx;exact⟨_,_,rfl,aJ,aJ⟩
 refine cH O aD O cg (sP (sP (sQ (sQ sR)))) (f:=fun b=> .slice (some ⟨b,0,none⟩) 1 1) (cB dh O O (sz:=1) (vs:=[U _]) O O az az O O)<|fun b57 w55 ni=> ?_
 (try simp only[lj]at ni)
 refine A1 4<|cf O aD O ni (sQ (sP (sP (sQ (sQ sR))))) (aG dh O O (ni.cell (i:=3) O O))<|A1 7<|CJ (y0:=U b) O aD O ni (i:=4) O zv (fun _ _=>(sQ (sP (sP (sQ (sQ sR)))))) (ni.dS (i:=0) (n:=1) (sz:=1) O O az) O O dh O O O (bytes:=8) O O O pq pq<|fun v62 w63 wS=> ?_
 rw[Qq]at wS
 refine AQ 8 O (wS.sub (sQ (sP (sP (sQ (sQ sR)))))) (af O)<|AQ 9 O (wS.sub (sQ (sP (sP (sQ (sQ sR)))))) (fA mz 0 O jE O)<|A1 10<|ef O aD wS (j:=3) O (sQ (sP (sP (sQ (sQ sR))))) (bM O O (v:=v62) O (iq (wS.yR (i:=4) O trivial)).2 (iq (wS.yR (i:=4) O trivial)).1 (wS.blk (i:=3) O) aJ)<|fun w67 kG=>AD<|ai<|gp aP kG (sP (sP (sP (sQ (sP (sQ sR))))))<|fun w69 wA=>have OA:=wA.sub (sP (sP (sP (sQ (sP (sQ sR))))));tP 0 O OA lW 2 O O rfl<|tP 1 O OA lW 2 O O rfl<|AQ 2 O OA (af O)<|AQ 3 O OA (fA mz 1 O kq O)<| ?_
 refine AQ 5 O OA (s6 bA bA) ?_
 refine gq 4 6 aP ?_ ?_
 .refine cf O aD O wA (sP (sP (sP (sQ (sP (sQ sR)))))) (aG hG O O (wA.cell (i:=3) O O))<|A1 6<|cH O aD O wA (sP (sP (sP (sQ (sP (sQ sR)))))) (f:=fun b=> .slice (some ⟨b,0,none⟩) 1 1) (cB hG O O (sz:=1) (vs:=[.func _ _ _]) O O az az O O)<|fun b75 w73 uZ=> ?_
  (try simp only[lj]at uZ)
  refine A1 7<|CJ (y0:= .func (.func 134) #[] #[.pointer (some ⟨b3,0,none⟩),.pointer (some ⟨b6,0,none⟩)]) rfl aD rfl uZ (i:=6) O JS (fun _ _=>(sQ (sP (sP (sP (sQ (sP (sQ sR)))))))) (uZ.dS (i:=0) (n:=1) (sz:=1) O O az) O O hG O O O (bytes:=8) O O O pq pq<|fun v78 w79 pE=> ?_
  rw[u6 (jS.add W.length)]at pE
  refine AQ 8 O (pE.sub (sQ (sP (sP (sP (sQ (sP (sQ sR)))))))) (af O)<|AQ 9 O (pE.sub (sQ (sP (sP (sP (sQ (sP (sQ sR)))))))) (fA mz 1 O kq O)<|A1 10<|ef O aD pE (j:=4) O (sQ (sP (sP (sP (sQ (sP (sQ sR))))))) (bM O O (v:=v78) O (iq (pE.BB (i:=6) O trivial)).2 (iq (pE.BB (i:=6) O trivial)).1 (pE.blk (i:=4) O) aJ)<|fun w83 lm=>AD<|SR<|lI bx lm 2 O O rfl<|aI rfl<|aa<|aj<|jA O (v:=I W.length) O ⟨rfl,v62,none,v78,none,(ul++[(.func (.func 134) #[] #[.pointer (some ⟨b3,0,none⟩),.pointer (some ⟨b6,0,none⟩)],jS.add W.length)]),[bu.blk b3 (.cells #[.pointer (some ⟨F,8,none⟩)] 193 (0,0)),bu.blk b6 (.cells #[I W.length] 3 (0,0))],trivial,trivial,aJ,aJ,aJ,?_,(lm.pj [4,4,4,3,2]).sub (sP (sP (sP (sP (sP (sQ (sQ sR)))))))⟩
  intro x hx;rw[E7,gG]at hx;subst hx;exact⟨_,_,rfl,aJ,aJ⟩
 refine cH O aD O wA (sP (sP (sP (sQ (sP (sQ sR)))))) (f:=fun b=> .slice (some ⟨b,0,none⟩) 1 1) (cB hG O O (sz:=1) (vs:=[.func _ _ _]) O O az az O O)<|fun b87 w85 uy=> ?_
 (try simp only[lj]at uy)
 refine A1 4<|cf O aD O uy (sQ (sP (sP (sP (sQ (sP (sQ sR))))))) (aG hG O O (uy.cell (i:=4) O O))<|A1 7<|CJ (y0:= .func (.func 134) #[] #[.pointer (some ⟨b3,0,none⟩),.pointer (some ⟨b6,0,none⟩)]) rfl aD rfl uy (i:=6) O JS (fun _ _=>(sQ (sP (sP (sP (sQ (sP (sQ sR)))))))) (uy.dS (i:=0) (n:=1) (sz:=1) O O az) O O hG O O O (bytes:=8) O O O pq pq<|fun v92 w93 uz=> ?_
 rw[u6 (jS.add W.length)]at uz
 refine AQ 8 O (uz.sub (sQ (sP (sP (sP (sQ (sP (sQ sR)))))))) (af O)<|AQ 9 O (uz.sub (sQ (sP (sP (sP (sQ (sP (sQ sR)))))))) (fA mz 1 O kq O)<|A1 10<|ef O aD uz (j:=4) O (sQ (sP (sP (sP (sQ (sP (sQ sR))))))) (bM O O (v:=v92) O (iq (uz.BB (i:=6) O trivial)).2 (iq (uz.BB (i:=6) O trivial)).1 (uz.blk (i:=4) O) aJ)<|fun w97 Om=>AD<|SR<|lI bx Om 2 O O rfl<|aI rfl<|aa<|aj<|jA O (v:=I W.length) O ⟨rfl,v62,none,v92,none,(ul++[(.func (.func 134) #[] #[.pointer (some ⟨b3,0,none⟩),.pointer (some ⟨b6,0,none⟩)],jS.add W.length)]),[bu.blk b3 (.cells #[.pointer (some ⟨F,8,none⟩)] 193 (0,0)),bu.blk b6 (.cells #[I W.length] 3 (0,0))],trivial,trivial,aJ,aJ,aJ,?_,(Om.pj [4,4,4,3,2]).sub (sP (sP (sP (sP (sP (sQ (sQ sR)))))))⟩
 intro x hx;rw[E7,gG]at hx;subst hx;exact⟨_,_,rfl,aJ,aJ⟩
theorem Ho{nA nB nC nD nE nF nG nH nI nJ nK nL:Value}(W0:World)(F:Nat)(vW vU vT:Value)(cnt:Int)(cW cU:Option (Nat×Array Value))(W:List (BitVec 64))(ul:List (Value×jS))(L:List bu)(i:Int)(b:BitVec 64)(hwl:W.length<=4000000)(OX:ul.length<=4000000)(hi:0<=i/\i<W.length)(w:World)(zv:cO cW vW (W.map U))(JS:cO cU vU (ul.map Prod.fst))(hH:Hp W0 w (.blk F (.cells #[nA,nB,nC,nD,nE,nF,nG,nH,vW,vU,vT,I (cnt),nI,nJ,nK,nL] 111 (0,0))::cE cW vW 35 (W.map U)::cE cU vU 1 (ul.map Prod.fst)::L)):Calls Tryz.prog 217 #[.pointer (some ⟨F,8,none⟩),I i,U b] w (jY fun u w'=>u=B true/\∃(v':Value) (c':Option (Nat×Array Value)) (v2:Value) (c2:Option (Nat×Array Value)) (zn:List (Value×jS)) (Lb:List bu),cO c' v' ((W.set i.toNat b).map U)/\cO c2 v2 (zn.map Prod.fst)/\zn.map Prod.snd=IS W (ul.map Prod.snd) i.toNat b/\zn.take ul.length=ul/\zn.length<=ul.length+1/\(∀x∈zn.drop ul.length,pM (⟨134,243,193,3,35,8⟩:UT) F Lb x)/\Hp W0 w' (.blk F (.cells #[nA,nB,nC,nD,nE,nF,nG,nH,v',v2,vT,I (cnt),nI,nJ,nK,nL] 111 (0,0))::cE c' v' 35 ((W.set i.toNat b).map U)::cE c2 v2 1 (zn.map Prod.fst)::(Lb++L))):=by
 refine en func217 rfl rfl<|SR<|gN hH (v:=Pn _ _) rfl<|fun b3 w1 bp=>gN bp (v:=I _) rfl<|fun b6 w4 bY=>va (v:=B false) rfl<|aa<|ai<|SR<|lP lW bY 1 O O rfl<|lI bx bY 0 O O rfl<|aH O bY (zm _ _ _ _ _ _ _ _ (bY.blk (i:=2) O) (bY.yR (i:=3) O zv)) (aM call218 O O)<|fun w7 eW=>V (bJ (bT (hi)))<|aa<|cL rfl<|an<|ai<|ed aP eW<|fun I8 cP=>have aaC:=cP;tP 0 O aaC lW 1 O O rfl<|AQ 1 O aaC (af O)<|AQ 2 O aaC (fA mz 0 O jE O)<|tV 3 O aaC dh 2 O O rfl<|tI 4 O aaC bx 0 O O rfl<|AT 5 O aaC (fun w hS=>ah (hS.yR (i:=3) O zv) dh cQ O O J)<|AT 6 O aaC (fun w hS=>aG dM O O (Sl.atU (hS.yR (i:=3) O zv) J J))<|A1 7<|cH O aD O cP sR (f:=fun b=> .pointer (some ⟨b,0,none⟩)) (aS Tryz.zeroValue35)<|fun b15 C2 cG=>A1 8<|ef O aD cG (j:=0) O (sQ sR) (bM O O (v:=U _) O O O (cG.blk (i:=0) O) az)<|fun Ja er=>AD<|ai<|SR<|V (aG dM O O (er.cell (i:=0) O (v:=U _) O))<|mU rfl<|V (vx O O)<|aa<|aF O (fun N3=> ?_) (fun N3=> ?_)
 .refine ai<|gp aP er (sP (sP (sP (sP (sQ sR)))))<|fun Z7 fJ=>have oH:=fJ.sub (sP (sP (sP (sP (sQ sR)))));tP 0 O oH lW 2 O O rfl<|AQ 1 O oH (af O)<|AQ 2 O oH (fA mz 0 O jE O)<|tV 3 O oH dh 3 O O rfl<|tI 4 O oH bx 1 O O rfl<|AQ 5 O oH (mV (U _) O)<|A1 6<|cf O aD O fJ (sP (sP (sP (sP (sQ sR))))) (ah (fJ.yR (i:=4) O zv) dh cQ O O J)<|A1 7<|aia (u:=U _) O aD fJ (i:=4) O zv (fun _ _=>(sP (sP (sP (sP (sQ sR)))))) Yw O O O O rfl<|fun c26 w28 aua gj=> ?_
  simp only[jh,kZ,GH]at gj aua
  refine AD<|gp aP gj (sP (sP (sP (sQ (sP (sQ sR))))))<|fun w30 gU=>have AW:=gU.sub (sP (sP (sP (sQ (sP (sQ sR))))));tP 0 O AW lW 2 O O rfl<|tP 1 O AW lW 2 O O rfl<|AQ 2 O AW (af O)<|AQ 3 O AW (fA mz 1 O kq O)<| ?_
  refine AQ 5 O AW (L5 bA bA bA) ?_
  refine gq 4 6 aP ?_ ?_
  .refine cf O aD O gU (sP (sP (sP (sQ (sP (sQ sR)))))) (aG hG O O (gU.cell (i:=3) O O))<|A1 6<|cH O aD O gU (sP (sP (sP (sQ (sP (sQ sR)))))) (f:=fun b=> .slice (some ⟨b,0,none⟩) 1 1) (cB hG O O (sz:=1) (vs:=[.func _ _ _]) O O az az O O)<|fun b36 w34 uW=> ?_
   (try simp only[lj]at uW)
   refine A1 7<|CJ (y0:= .func (.func 243) #[] #[.pointer (some ⟨b15,0,none⟩),.pointer (some ⟨b3,0,none⟩),.pointer (some ⟨b6,0,none⟩)]) rfl aD rfl uW (i:=6) O JS (fun _ _=>(sQ (sP (sP (sP (sQ (sP (sQ sR)))))))) (uW.dS (i:=0) (n:=1) (sz:=1) O O az) O O hG O O O (bytes:=8) O O O pq pq<|fun v39 w40 jU=> ?_
   rw[u6 (jS.set i.toNat (W.getD i.toNat 0))]at jU
   refine AQ 8 O (jU.sub (sQ (sP (sP (sP (sQ (sP (sQ sR)))))))) (af O)<|AQ 9 O (jU.sub (sQ (sP (sP (sP (sQ (sP (sQ sR)))))))) (fA mz 1 O kq O)<|A1 10<|ef O aD jU (j:=4) O (sQ (sP (sP (sP (sQ (sP (sQ sR))))))) (bM O O (v:=v39) O (iq (jU.BB (i:=6) O trivial)).2 (iq (jU.BB (i:=6) O trivial)).1 (jU.blk (i:=4) O) aJ)<|fun w44 rY=>AD<|SR<|va (v:=B true) rfl<|aa<|aj<|jA O (v:=B true) O ⟨rfl,vW,c26,v39,none,(ul++[(.func (.func 243) #[] #[.pointer (some ⟨b15,0,none⟩),.pointer (some ⟨b3,0,none⟩),.pointer (some ⟨b6,0,none⟩)],jS.set i.toNat (W.getD i.toNat 0))]),[bu.blk b15 (.cells #[U (W.getD i.toNat 0)] 35 (0,0)),bu.blk b3 (.cells #[.pointer (some ⟨F,8,none⟩)] 193 (0,0)),bu.blk b6 (.cells #[I i] 3 (0,0))],aua,trivial,?_,aJ,aJ,?_,(rY.pj [4,4,4,1,2,1]).sub (sP (sP (sP (sP (sP (sP (sQ sR)))))))⟩
   ·(rw[IS,aT ‹_≠b›];simp;done)
   (intro x hx;rw[E7,gG]at hx;subst hx;exact⟨_,_,_,rfl,aJ,aJ,by simp[gk hi.1]⟩)
  refine cH O aD O gU (sP (sP (sP (sQ (sP (sQ sR)))))) (f:=fun b=> .slice (some ⟨b,0,none⟩) 1 1) (cB hG O O (sz:=1) (vs:=[.func _ _ _]) O O az az O O)<|fun b48 w46 oY=> ?_
  (try simp only[lj]at oY)
  refine A1 4<|cf O aD O oY (sQ (sP (sP (sP (sQ (sP (sQ sR))))))) (aG hG O O (oY.cell (i:=4) O O))<|A1 7<|CJ (y0:= .func (.func 243) #[] #[.pointer (some ⟨b15,0,none⟩),.pointer (some ⟨b3,0,none⟩),.pointer (some ⟨b6,0,none⟩)]) rfl aD rfl oY (i:=6) O JS (fun _ _=>(sQ (sP (sP (sP (sQ (sP (sQ sR)))))))) (oY.dS (i:=0) (n:=1) (sz:=1) O O az) O O hG O O O (bytes:=8) O O O pq pq<|fun v53 w54 jC=> ?_
  rw[u6 (jS.set i.toNat (W.getD i.toNat 0))]at jC
  refine AQ 8 O (jC.sub (sQ (sP (sP (sP (sQ (sP (sQ sR)))))))) (af O)<|AQ 9 O (jC.sub (sQ (sP (sP (sP (sQ (sP (sQ sR)))))))) (fA mz 1 O kq O)<|A1 10<|ef O aD jC (j:=4) O (sQ (sP (sP (sP (sQ (sP (sQ sR))))))) (bM O O (v:=v53) O (iq (jC.BB (i:=6) O trivial)).2 (iq (jC.BB (i:=6) O trivial)).1 (jC.blk (i:=4) O) aJ)<|fun w58 BT=>AD<|SR<|va (v:=B true) rfl<|aa<|aj<|jA O (v:=B true) O ⟨rfl,vW,c26,v53,none,(ul++[(.func (.func 243) #[] #[.pointer (some ⟨b15,0,none⟩),.pointer (some ⟨b3,0,none⟩),.pointer (some ⟨b6,0,none⟩)],jS.set i.toNat (W.getD i.toNat 0))]),[bu.blk b15 (.cells #[U (W.getD i.toNat 0)] 35 (0,0)),bu.blk b3 (.cells #[.pointer (some ⟨F,8,none⟩)] 193 (0,0)),bu.blk b6 (.cells #[I i] 3 (0,0))],aua,trivial,?_,aJ,aJ,?_,(BT.pj [4,4,4,1,2,1]).sub (sP (sP (sP (sP (sP (sP (sQ sR)))))))⟩
  ·(rw[IS,aT ‹_≠b›];simp;done)
  (intro x hx;rw[E7,gG]at hx;subst hx;exact⟨_,_,_,rfl,aJ,aJ,by simp[gk hi.1]⟩)
 refine an<|SR<|va (v:=B true) rfl<|aa<|aj<| ?_
 rw[Nf (Rm.1 ‹¬_≠b›)]
 refine jA O (v:=B true) O ⟨rfl,vW,cW,vU,cU,ul,[],zv,JS,?_,aJ,aJ,?_,(er.pj [3,3,3]).sub (sP (sP (sP (sQ (sQ (sQ sR))))))⟩
 ·(rw[IS,aX (Rm.1 ‹¬_≠b›)])
 (intro x hx;simp at hx)
theorem kH{nA nB nC nD nE nF nG nH nI nJ nK nL:Value}(W0:World)(F:Nat)(vW vU vT:Value)(cnt:Int)(cW cU:Option (Nat×Array Value))(W:List (BitVec 64))(ul:List (Value×jS))(L:List bu)(i k to:Int)(hwl:W.length<=4000000)(OX:ul.length<=4000000)(hi:0<=i/\i<1000000/\0<=k/\k<4/\4*i+k<W.length)(w:World)(zv:cO cW vW (W.map U))(JS:cO cU vU (ul.map Prod.fst))(hH:Hp W0 w (.blk F (.cells #[nA,nB,nC,nD,nE,nF,nG,nH,vW,vU,vT,I (cnt),nI,nJ,nK,nL] 111 (0,0))::cE cW vW 35 (W.map U)::cE cU vU 1 (ul.map Prod.fst)::L)):Calls Tryz.prog 189 #[.pointer (some ⟨F,8,none⟩),I i,I k,I to] w (jY fun u w'=>u= .tuple #[]/\∃(v':Value) (c':Option (Nat×Array Value)) (v2:Value) (c2:Option (Nat×Array Value)) (zn:List (Value×jS)) (Lb:List bu),cO c' v' ((W.set (4*i+k).toNat (BitVec.ofInt 64 to)).map U)/\cO c2 v2 (zn.map Prod.fst)/\zn.map Prod.snd=IS W (ul.map Prod.snd) (4*i+k).toNat (BitVec.ofInt 64 to)/\zn.take ul.length=ul/\zn.length<=ul.length+1/\(∀x∈zn.drop ul.length,pM (⟨134,243,193,3,35,8⟩:UT) F Lb x)/\Hp W0 w' (.blk F (.cells #[nA,nB,nC,nD,nE,nF,nG,nH,v',v2,vT,I (cnt),nI,nJ,nK,nL] 111 (0,0))::cE c' v' 35 ((W.set (4*i+k).toNat (BitVec.ofInt 64 to)).map U)::cE c2 v2 1 (zn.map Prod.fst)::(Lb++L))):=by
 refine en func189 rfl rfl<|au<|aE (v:=Pn _ _) rfl<|V (af O)<|V (fA zI 0 O zM O)<|mI rfl<|V (zT O O J)<|mI rfl<|V (ax O O J)<|mI rfl<|V (iZ bx dM O)<|cD O (Ho _ _ _ _ _ _ _ _ _ _ _ _ _ J J J _ zv JS hH) (bz call217 O O O)<| ?_
 rintro _ w3 ⟨rfl,v6,c7,u8,e9,aFL,aFM,aFN,aFO,aFP,aub,auc,aFQ,h4⟩
 refine aa<|rh O ⟨rfl,v6,c7,u8,e9,aFL,aFM,aFN,aFO,aFP,aub,auc,aFQ,h4⟩
theorem akv{nA nB nC nD nE nF nG nH nI nJ nK nL:Value}{W0 w:World}{F:Nat}{vW vU vT:Value}{cnt:Int}{cW:Option (Nat×Array Value)}{W:List (BitVec 64)}{L:List bu}(x:Value×jS)(hx:pM (⟨134,243,193,3,35,8⟩:UT) F L x)(hok:match x.2 with| .add n=>n<=W.length| .set i _=>i<W.length)(zv:cO cW vW (W.map U))(hH:Hp W0 w (.blk F (.cells #[nA,nB,nC,nD,nE,nF,nG,nH,vW,vU,vT,I (cnt),nI,nJ,nK,nL] 111 (0,0))::cE cW vW 35 (W.map U)::L)):
  ∃(f:FuncId) (cs:List Value),x.1= .func (.func f) #[] cs.toArray/\(∀args w,(callFunc f args).run Tryz.prog w= .ok (.enter f args) w)/\Calls Tryz.prog f cs.toArray w (jY fun u w'=>u= .tuple #[]/\∃v' c',cO c' v' ((SL W x.2).map U)/\Hp W0 w' (.blk F (.cells #[nA,nB,nC,nD,nE,nF,nG,nH,v',vU,vT,I (cnt),nI,nJ,nK,nL] 111 (0,0))::cE c' v' 35 ((SL W x.2).map U)::L)):=by
 obtain⟨v,u⟩:=x
 cases u with
 |add n=>
  obtain⟨b1,b2,h0,h1,h2⟩:=hx
  have hc:=Eh W0 F vW vU vT cnt cW W L b1 b2 n ⟨J,by exact Int.ofNat_le.2 hok⟩ w h1 h2 zv hH
  rw[eC]at hc
  exact⟨_,[_,_],h0,call134,hc⟩
 |set i b=>
  obtain⟨b1,b2,b3,h0,h1,h2,h3⟩:=hx
  have hc:=Ei W0 F vW vU vT cnt cW W L b1 b2 b3 i b ⟨J,by exact Int.ofNat_lt.2 hok⟩ w h1 h2 h3 zv hH
  rw[eC]at hc
  exact⟨_,[_,_,_],h0,call243,hc⟩
theorem FU{nA nB nC nD nE nF nG nH nI nJ nK nL:Value}(W0:World)(F:Nat)(vW vU vT:Value)(cnt:Int)(cW cU:Option (Nat×Array Value))(W:List (BitVec 64))(ul:List (Value×jS))(L:List bu)(m:Int)(hwl:W.length<=4000000)(OX:ul.length<=4000000)(hm:0<=m/\m<=ul.length)(w:World)(hI:∀x∈ul,pM (⟨134,243,193,3,35,8⟩:UT) F L x)(hok:Na W.length (ul.map Prod.snd))(zv:cO cW vW (W.map U))(JS:cO cU vU (ul.map Prod.fst))(hH:Hp W0 w (.blk F (.cells #[nA,nB,nC,nD,nE,nF,nG,nH,vW,vU,vT,I (cnt),nI,nJ,nK,nL] 111 (0,0))::cE cW vW 35 (W.map U)::cE cU vU 1 (ul.map Prod.fst)::L)):Calls Tryz.prog 92 #[.pointer (some ⟨F,8,none⟩),I m] w (jY fun u w'=>u=B true/\∃(v':Value) (c':Option (Nat×Array Value)) (v2:Value) (c2:Option (Nat×Array Value)),cO c' v' ((jK W (ul.map Prod.snd) m.toNat).map U)/\cO c2 v2 ((ul.take m.toNat).map Prod.fst)/\Hp W0 w' (.blk F (.cells #[nA,nB,nC,nD,nE,nF,nG,nH,v',v2,vT,I (cnt),nI,nJ,nK,nL] 111 (0,0))::cE c' v' 35 ((jK W (ul.map Prod.snd) m.toNat).map U)::cE c2 v2 1 ((ul.take m.toNat).map Prod.fst)::L)):=by
 have hlm:(ul.map Prod.fst).length=ul.length:=gF ..
 refine en func92 rfl rfl<|SR<|va (v:=B false) rfl<|aa<|ai<|SR<|aE (v:=Pn _ _) rfl<|V (kX lW O O)<|mB rfl<|cC O rfl<|mI rfl<|aE (v:=Pn _ _) rfl<|V (af O)<|V (fA mz 1 O kq O)<|lV hG hH 0 O O rfl<|V (aC (hH.BB (i:=2) O JS) O hG O)<|V (dN O O)<|mB rfl<|aa<|aF O (fun h2=> ?_) (fun h2=> ?_)
 .refine SR<|va (v:=B false) rfl<|aa<|aj<| ?_
  exfalso;omega
 refine an<|ai<|SR<|aE (v:=Pn _ _) rfl<|V (af O)<|V (fA mz 1 O kq O)<|lV hG hH 0 O O rfl<|V (aC (hH.BB (i:=2) O JS) O hG O)<|V (eO O O J)<|aI rfl<|aa<|aA<|have e0:jK W (ul.map Prod.snd) (ul.length:Int).toNat=W:=(by rw[eC,<-gF (f:=Prod.snd)];exact DU);have e1:ul.take (ul.length:Int).toNat=ul:=aJ;bt (G:=Int×Value×(Option (Nat×Array Value))×Value×(Option (Nat×Array Value))) (fun⟨k,v1,c1,u1,c2⟩ s' w'=>(Fr (5::(rg 23 24 [])) _ s')/\(Hp W0 w' (.blk F (.cells #[nA,nB,nC,nD,nE,nF,nG,nH,v1,u1,vT,I (cnt),nI,nJ,nK,nL] 111 (0,0))::cE c1 v1 35 ((jK W (ul.map Prod.snd) k.toNat).map U)::cE c2 u1 1 ((ul.take k.toNat).map Prod.fst)::_))/\(s' 5=I (k-1))/\(m<=k)/\(k<=ul.length)/\(cO c1 v1 ((jK W (ul.map Prod.snd) k.toNat).map U))/\(cO c2 u1 ((ul.take k.toNat).map Prod.fst))) (fun⟨k,v1,c1,u1,c2⟩=>(k-m).toNat) ((ul.length,vW,cW,vU,cU)) ⟨Fr.refl _ _,(by rw[e0,e1];exact hH),(aK I J),J,J,R9,(by rw[e1];exact JS)⟩<| ?_
 rintro⟨k,v1,c1,u1,c2⟩ sg3 w3 ⟨fr3,tZ,Kr,k0,k1,HB,CH⟩
 obtain⟨BI,aud⟩:=fr3.w2 0 1
 refine ai<|SR<|aE Kr<|aE aud<|V (Gf O O)<|V (dF O O)<|aa<|aF O (fun h5=> ?_) (fun h5=> ?_)
 .refine an<|ai<|aA<|SR<|aE BI<|V (af O)<|V (fA mz 1 O kq O)<|lV hG tZ 0 O O rfl<|aE Kr<|V (ah (tZ.BB (i:=2) O CH) hG sizeOf1 O O (by(simp only[gF,dW];omega)))<|V (aG underlying1 O O ((tZ.BB (i:=2) O CH).cell _ _ (am3 J J)))<|have hkl:(k-1).toNat<ul.length:=J;have hL1:Hp W0 w3 (.blk F (.cells #[nA,nB,nC,nD,nE,nF,nG,nH,v1,u1,vT,I (cnt),nI,nJ,nK,nL] 111 (0,0))::cE c1 v1 35 ((jK W (ul.map Prod.snd) k.toNat).map U)::(cE c2 u1 1 ((ul.take k.toNat).map Prod.fst)::L)):=tZ;?_
  obtain⟨f6,cs7,hv8,hf9,aFR⟩:=akv (ul[(k-1).toNat]) ((hI _ (r8 hkl)).mono fun e he=>mT he) (asg hok (by simpa using hkl) J) HB hL1
  refine cD O aFR (Mq hf9 ((show _=_ from O).trans ((aib J hkl).trans hv8))) ?_
  rintro _ Tm ⟨rfl,v11,c12,aeX,Ga⟩
  rw[asf J hkl]at aeX Ga
  refine aa<|au<|aE BI<|aE BI<|V (af O)<|V (fA mz 1 O kq O)<|lV hG Ga 0 O O rfl<|aE Kr<|aE Kr<|V (vZ (Ga.BB (i:=2) O CH) hG sizeOf1 O O O Yt)<|V (af O)<|V (fA mz 1 O kq O)<|have hs1:=((Ga.BB (i:=2) O CH)).tG (n:=(k-1).toNat) Yt;?_
  obtain⟨c18,aaD,cT⟩:=Ga.ase (i:=2) O CH (m:=(k-1).toNat) Yt
  simp only[jh,kZ,<-Ca,B8,show min (k-1).toNat k.toNat=(k-1).toNat by omega]at cT aaD
  refine bk cT (i:=0) O (bM O O (v:=(tG u1 (k-1).toNat)) O (iq hs1).2 (iq hs1).1 (cT.blk (i:=0) O) aJ)<|fun NU cF=>aa<|au<|aE Kr<|V (eO O O J)<|aI rfl<|aa<| ?_
  refine⟨(k-1,v11,c12,(tG u1 (k-1).toNat),c18),aW,fr3.u4.u4.u4.u4.u4.u4.u1,(Hp.conv cF aL),(aK I aL),J,J,?_,?_⟩
  .exact aeX
  exact aaD
 refine a8 (id:=0) rfl<|SR<|va (v:=B true) rfl<|aa<|aj<|have ek:k=m:=J;?_
 subst ek
 exact jA O (v:=B true) O ⟨rfl,v1,c1,u1,c2,HB,CH,tZ⟩
def Tryz.TH:Go.Shelf.Ren:=⟨fun|189=>161|125=>192|257=>191|128=>228|129=>229|294=>219|295=>220|296=>221|297=>222|298=>223|299=>224|216=>225|300=>226|301=>227|328=>244|329=>245|330=>246|331=>247|332=>248|215=>249|343=>257|n=>n,fun|28=>99|3=>3|46=>59|0=>0|51=>201|53=>35|4=>4|183=>247|182=>246|131=>174|5=>5|9=>9|218=>260|222=>264|228=>270|229=>271|n=>n,fun|n=>n⟩
theorem Tryz.akw:Go.Proofs.Lays.n189 Tryz.prog Tryz.TH:={
 mixed:=aP
 f125:=func192.trans (aK some aP)
 f128:=func228.trans (aK some aP)
 f129:=func229.trans (aK some aP)
 f189:=func161.trans (aK some aP)
 f215:=func249.trans (aK some aP)
 f216:=func225.trans (aK some aP)
 f257:=func191.trans (aK some aP)
 f294:=func219.trans (aK some aP)
 f295:=func220.trans (aK some aP)
 f296:=func221.trans (aK some aP)
 f297:=func222.trans (aK some aP)
 f298:=func223.trans (aK some aP)
 f299:=func224.trans (aK some aP)
 f300:=func226.trans (aK some aP)
 f301:=func227.trans (aK some aP)
 f328:=func244.trans (aK some aP)
 f329:=func245.trans (aK some aP)
 f330:=func246.trans (aK some aP)
 f331:=func247.trans (aK some aP)
 f332:=func248.trans (aK some aP)
 f343:=func257.trans (aK some aP)
 t0:=underlying0
 a0:=isAgg0
 z0:=sizeOf0
 v0:=Tryz.zeroValue0
 t3:=bx
 a3:=isAgg3
 z3:=aO
 v3:=Tryz.zeroValue3
 t4:=qZ
 a4:=isAgg4
 z4:=oq
 v4:=Tryz.zeroValue4
 t5:=underlying5
 a5:=isAgg5
 z5:=sizeOf5
 v5:=Tryz.zeroValue5
 t9:=iy
 a9:=isAgg9
 z9:=kr
 v9:=Tryz.zeroValue9
 t28:=bD
 a28:=isAgg99
 z28:=dH
 v28:=Tryz.zeroValue99
 t46:=xR
 a46:=isAgg59
 z46:=sizeOf59
 v46:=Tryz.zeroValue59
 t51:=underlying201
 a51:=isAgg201
 z51:=sizeOf201
 v51:=Tryz.zeroValue201
 t53:=dM
 a53:=isAgg35
 z53:=cQ
 v53:=Tryz.zeroValue35
 t131:=underlying174
 a131:=isAgg174
 z131:=sizeOf174
 v131:=Tryz.zeroValue174
 t182:=underlying246
 a182:=isAgg246
 z182:=sizeOf246
 v182:=Tryz.zeroValue246
 t183:=underlying247
 a183:=isAgg247
 z183:=sizeOf247
 v183:=Tryz.zeroValue247
 t218:=underlying260
 a218:=isAgg260
 z218:=sizeOf260
 v218:=Tryz.zeroValue260
 t222:=underlying264
 a222:=isAgg264
 z222:=sizeOf264
 v222:=Tryz.zeroValue264
 t228:=underlying270
 a228:=isAgg270
 z228:=sizeOf270
 v228:=Tryz.zeroValue270
 t229:=underlying271
 a229:=isAgg271
 z229:=sizeOf271
 v229:=Tryz.zeroValue271}
section
open Go.Sort Go.Shelf
theorem aue(blk cap:Nat)(zs:List Int)(w:World)(hH:Holds (Value.int .i64) w blk 0 zs.toArray)(hblk:blk<w.heap.size)(hsz:zs.length<4611686018427387904):
  Calls Tryz.prog 161 #[.slice (some ⟨blk,0,none⟩) zs.length cap] w fun e w'=>e= .returned (.tuple #[])/\∃n os,w'=grow (putRow (Value.int .i64) (Sort.ahead w n) blk 0 (zs.mergeSort fun x y=>decide (x<=y)).toArray) os:=
 calls_of_every_depth fun D=>AnyS.slices_Sort_int_alone Tryz.akw D blk 0 cap zs w hH hblk hsz
theorem aaE{w0 w:World}{L:List bu}{i:Nat}{v:Value}{e:TypeId}{zs:List Int}(hH:Hp w0 w L)(hi:L[i]?=some (.row v e 1 zs.length (zs.map I)))(hn:0<zs.length)(hs:zs.length<=4000000):
  Calls Tryz.prog 161 #[v] w (jY fun u w'=>u= .tuple #[]/\Hp w0 w' (L.set i (.row v e 1 zs.length ((zs.mergeSort fun x y=>decide (x<=y)).map I)))):=by
 obtain⟨hl,h2⟩:=hH.get hi
 rcases h2 with⟨rfl,q⟩|⟨gb,cap,cur,rfl,hb,hg,hnc,hm,hsz,ht⟩
 .omega
 have hlt:gb<w.heap.size:=(B4.1 hg).1
 have hlen:(zs.mergeSort fun x y=>decide (x<=y)).length=zs.length:=List.length_mergeSort _
 refine Calls.mono (aue gb cap zs w (holds_of_blockI hg (by rw[lX]at ht;exact ht)) hlt J) fun en w' ⟨he,n,os,hw⟩=> ?_
 subst he
 refine⟨rfl,?_⟩
 subst hw
 have h3:=ownsRow_sortedI (w:=w) (base:=w0.heap.size) (os:=os) (n:=n) (ss:=zs) (ts:=zs.mergeSort fun x y=>decide (x<=y)) hlen hb hg hnc hm hsz
 exact hH.yH hi h3 (grownBy_sortedI _) (.inr (.inl O))
end
theorem BV{nA nB nC nD nE nF nG nH nI nJ nK nL:Value}(F:Nat)(vW vU vT:Value)(cnt:Int)(nd:List qD)(cl:List Nat)(i:Int)(hn:nd.length<=1000000)(hf:Fo nd cl)(w:World)(hb:w.heap[F]?=some (.cells #[nA,nB,nC,nD,nE,nF,nG,nH,vW,vU,vT,I cnt,nI,nJ,nK,nL] 111 (0,0)))(hW:Sl w vW 1 (bE nd).length ((bE nd).map U)):Calls Tryz.prog 129 #[.pointer (some ⟨F,8,none⟩),I i] w (sZ 3 1 (bP cl i).length ((bP cl i).map I) w):=by
 have hwl:=iG nd
 refine eH func129 rfl rfl fun hH=>SR<|va (v:= .slice none 0 0) rfl<|have jf:=hH.eR 3 1;aa<|Zk<|ai<|SR<|aE (v:=Pn _ _) rfl<|mI rfl<|aH O jf (mS _ _ _ _ _ _ _ lA _ (jf.ext hb) (hW.hp jf)) (aM call158 O O)<|fun w2 tZ=>V (vz O)<|aa<|aF O (fun h7=> ?_) (fun h7=> ?_)
 .refine SR<|va (v:= .slice none 0 0) rfl<|have eW:=tZ.eR 3 1;aa<|aj<|O3 O O eW (i:=0) O ((by rw[Qp hf J];rfl)) ((by rw[Qp hf J];rfl))
 refine an<|SR<|va (v:= .slice none 0 0) rfl<|have iE:=tZ.eR 3 1;aa<|SR<|mI rfl<|aI rfl<|aa<|ai<|Zl<|ai<|aA<|have hin:0<=i/\i<nd.length:=J;?_
 obtain⟨t,ht,hmt⟩:=hf.ring i.toNat J
 have htl:(i.toNat::t).length<=nd.length:=Vp ht.2 fun k hk=>((hmt k).1 hk).1
 refine bt (G:=Nat×(List Nat)×(List Nat)×Value) (fun⟨a,o,m,v5⟩ s' w'=>(Fr (5::6::(rg 12 12 [])) _ s')/\(Hp w w' (.row v5 3 1 (o.length) ((o.map Int.ofNat).map I)::_))/\(s' 5=v5)/\(s' 6=I (a:Int))/\(i.toNat::t=o++a::m)/\(a<nd.length)/\(o.length+1<=nd.length)) (fun⟨a,o,m,v5⟩=>m.length) ((i.toNat,[],t,(.slice none 0 0:Value))) ⟨Fr.refl _ _,iE,rfl,(aK I (show i=((i.toNat:Nat):Int)by omega)),rfl,J,(by simp at htl⊢;omega)⟩ ?_
 rintro⟨a,o,m,v5⟩ Wz EL ⟨nS,cg,Og,wx,he,ha,ho⟩
 obtain⟨ER,Oe⟩:=nS.w2 0 1
 have hnx:=abE hf hn ha
 have hst:=IT ht he
 refine aA<|SR<|aE Og<|aE wx<|tR 1 1 cg (cB bD O O (sz:=1) (vs:=[I _]) O O az az O O)<|fun N8 I8 cP=> ?_
 (try simp only[lj]at cP)
 refine gf O cP (i:=1) O (cP.dS (i:=0) (n:=1) (sz:=1) O O az) O O bD O O (size:=1) (bytes:=8) O O O az gX J iz<|fun v14 Tm cI=> ?_
 refine V (run_assign bA) ?_
 refine aa<|SR<|aE ER<|V (af O)<|V (fA ix 0 O vh O)<|aE wx<|aH O cI (dz _ _ _ _ _ _ _ _ J _ (cI.ext hb) (hW.hp cI)) (bz uu O O (show _=I 2 from O))<|fun Tp dP=>aI rfl<|aa<|SR<|mI rfl<|aE Oe<|V (bV O O)<|aa<|aF O (fun O0=> ?_) (fun O0=> ?_)
 .refine a8 (id:=0) rfl<|SR<| ?_
  refine V (run_move bA) ?_
  have hzl:((o++[a]).map Int.ofNat).length<=4000000:=by rw[gF,ec,eA];omega
  rw[show(o.map Int.ofNat).map I++[I (a:Int)]=((o++[a]).map Int.ofNat).map I by simp,show o.length+1=((o++[a]).map Int.ofNat).length by simp]at dP
  refine cD O (aaE (zs:=((o++[a]).map Int.ofNat)) (i:=1) (v:=v14) dP O aJ hzl) (ay call161 O) ?_
  rintro _ NU ⟨rfl,cF⟩
  refine aa<|SR<| ?_
  refine V (run_move bA) ?_
  refine V (run_assign bA) ?_
  refine aa<|aj<|O3 O O cF (i:=1) O ((by rw[<-Ng hf hin ht hmt he J,List.length_mergeSort])) ((by rw[<-Ng hf hin ht hmt he J]))
 refine an ?_
 refine⟨(tH nd a,o++[a],m.tail,v14),?_,nS.u4.u4.u4.u1.u1,(Hp.conv (dP.sub (sQ sR)) aJ),rfl,(aK I (abE hf hn ha)),?_,?_,?_⟩
 .exact(Am ht hmt he (fun e=>‹¬_=i› J)).2.2.2
 .exact(Am ht hmt he (fun e=>‹¬_=i› J)).1
 .exact(Am ht hmt he (fun e=>‹¬_=i› J)).2.1
 (have:=(Am ht hmt he (fun e=>‹¬_=i› J)).2.2.1;have:=Vp ht.2 (fun k hk=>((hmt k).1 hk).1);omega)
set_option maxHeartbeats 1000000 in
theorem Ej{nA nB nC nD nE nF nG nH nI nJ nK nL:Value}(W0:World)(F:Nat)(vW vU vT:Value)(cnt:Int)(cW cU:Option (Nat×Array Value))(nd:List qD)(ul:List (Value×jS))(ts:List Int)(L:List bu)(hn:nd.length<=100000)(OX:ul.length<=1000000)(hts:ts.length<=1000000)(W5: -1000000<=cnt/\cnt<=1000000)(w:World)(zv:cO cW vW ((bE nd).map U))(JS:cO cU vU (ul.map Prod.fst))(hH:Hp W0 w (.blk F (.cells #[nA,nB,nC,nD,nE,nF,nG,nH,vW,vU,vT,I (cnt),nI,nJ,nK,nL] 111 (0,0))::cE cW vW 35 ((bE nd).map U)::cE cU vU 1 (ul.map Prod.fst):: .row vT 3 1 ts.length (ts.map I)::L)):Calls Tryz.prog 47 #[.pointer (some ⟨F,8,none⟩)] w (jY fun u w'=>u=I nd.length/\∃(v1:Value) (c1:Option (Nat×Array Value)) (u1:Value) (c2:Option (Nat×Array Value)) (t1:Value) (mv:List (Value×jS)) (Lb:List bu),cO c1 v1 ((bE (nd++[rS nd.length])).map U)/\cO c2 u1 (mv.map Prod.fst)/\mv.map Prod.snd=O7 (ul.map Prod.snd) (bE nd).length/\mv.take ul.length=ul/\(∀x∈mv.drop ul.length,pM (⟨134,243,193,3,35,8⟩:UT) F Lb x)/\Hp W0 w' (.blk F (.cells #[nA,nB,nC,nD,nE,nF,nG,nH,v1,u1,t1,I (cnt+1),nI,nJ,nK,nL] 111 (0,0))::cE c1 v1 35 ((bE (nd++[rS nd.length])).map U)::cE c2 u1 1 (mv.map Prod.fst):: .row t1 3 1 (ts++[(ul.length:Int)]).length ((ts++[(ul.length:Int)]).map I)::(Lb++L))):=by
 have hwl:=iG nd
 refine en func47 rfl rfl<|SR<|va (v:=I 0) rfl<|aa<|ai<|SR<|aE (v:=Pn _ _) rfl<|V (kX LA O O)<|aa<|cL rfl<|an<|SR<|aE (v:=Pn _ _) rfl<|aH O hH (lQ _ _ _ _ _ _ J _ (hH.blk (i:=0) O) (hH.yR (i:=1) O zv)) (ay call89 O)<|fun w1 bp=>aI rfl<|aa<|ai<|gp aP bp (sQ (sP (sP (sQ sR))))<|fun w3 iw=>have EW:=iw.sub (sQ (sP (sP (sQ sR))));AQ 0 O EW (mV (Pn _ _) O)<|AQ 1 O EW (mV (Pn _ _) O)<|AQ 2 O EW (af O)<|AQ 3 O EW (fA ix 2 O dH O)<|AQ 5 O EW (mV (Pn _ _) O)<|AQ 6 O EW (af O)<|AQ 7 O EW (fA ix 0 O vh O)<|AQ 8 O EW (fA zI 0 O zM O)<|gq 4 9 aP ?_ ?_
 .refine cf O aD O iw (sQ (sP (sP (sQ sR)))) (aG bD O O (iw.cell (i:=0) O O))<|A1 9<|cw O aD O iw (sQ (sP (sP (sQ sR)))) (mR _ _ _ _ _ _ _ _ (iw.blk (i:=0) O) (iw.yR (i:=1) O zv) (iw.BB (i:=2) O JS)) (ay call90 O)<|fun w7 eW=>A1 10<|cH O aD O eW (sQ (sP (sP (sQ sR)))) (f:=fun b=> .slice (some ⟨b,0,none⟩) 1 1) (cB bD O O (sz:=1) (vs:=[I _]) O O az az O O)<|fun b11 w9 cg=> ?_
  (try simp only[lj]at cg)
  refine A1 11<|fT O aD O cg (j:=4) O (fun _=>(sQ (sQ (sP (sP (sQ sR)))))) (cg.dS (i:=0) (n:=1) (sz:=1) O O az) O O bD O O (size:=1) (bytes:=8) O O O az gX J iz<|fun v14 zc bX=>AQ 12 O (bX.sub (sQ (sQ (sP (sP (sQ sR)))))) (af O)<|AQ 13 O (bX.sub (sQ (sQ (sP (sP (sQ sR)))))) (fA ix 2 O dH O)<|A1 14<|ef O aD bX (j:=1) O (sQ (sQ (sP (sP (sQ sR))))) (bM O O (v:=v14) O (a6 (bX.get (i:=4) O)).1 (a6 (bX.get (i:=4) O)).2 (bX.blk (i:=1) O) aJ)<|fun Tp dP=>AD<|ai<|SR<|mI rfl<|mI rfl<|mI rfl<|tR 4 4 dP (cB bD O O (sz:=1) (vs:=[I _,I 1,I _,I _]) O O az az O O)<|fun b21 Tq cT=> ?_
  (try simp only[lj]at cT)
  refine V (aC (cT.dS (i:=0) (n:=4) (sz:=1) O O az) O bD O)<|aE (v:=I 0) rfl<|aa<|aA<|have e0:((bE nd)++(F7 (rS nd.length)).take (0:Int).toNat)=(bE nd):=aJ;bt (G:=Int×Value×(Option (Nat×Array Value))×Value×(Option (Nat×Array Value))×(List (Value×jS))×(List bu)) (fun⟨k,v1,c1,u1,c2,mv,Z1⟩ s' w'=>(Fr (5::(rg 29 12 [])) _ s')/\(Hp W0 w' (_::_:: .blk F (.cells #[nA,nB,nC,nD,nE,nF,nG,nH,v1,u1,v14,I (cnt),nI,nJ,nK,nL] 111 (0,0))::cE c1 v1 35 (((bE nd)++(F7 (rS nd.length)).take k.toNat).map U)::cE c2 u1 1 (mv.map Prod.fst)::_::Z1))/\(s' 29=I k)/\(0<=k)/\(k<=4)/\(cO c1 v1 (((bE nd)++(F7 (rS nd.length)).take k.toNat).map U))/\(cO c2 u1 (mv.map Prod.fst))/\(mv.map Prod.snd=ul.map Prod.snd++Nh (bE nd).length k)/\(mv.take ul.length=ul)/\(∃Lb,Z1=Lb++L/\∀x∈mv.drop ul.length,pM (⟨134,243,193,3,35,8⟩:UT) F Lb x)/\(mv.length<=ul.length+k.toNat)) (fun⟨k,v1,c1,u1,c2,mv,Z1⟩=>(4-k).toNat) ((0,vW,cW,vU,cU,ul,L)) ⟨Fr.refl _ _,(by rw[e0];exact cT),rfl,J,J,R9,JS,(by simp[Nh]),(HM ..),⟨[],rfl,aJ⟩,J⟩<| ?_
  rintro⟨k,v1,c1,u1,c2,mv,Z1⟩ ays QV ⟨TC,cF,aaF,h0,h4,HB,CH,hms,hpt,hzz,aor⟩
  obtain⟨acD,ay5,auf,aug⟩:=TC.w4 0 3 27 28
  refine SR<|V (aN aaF aug)<|aa<|ai<|aF O (fun xu=> ?_) (fun xu=> ?_)
  .refine an<|ai<|aA<|SR<|V (ah (cF.dS (i:=0) (n:=4) (sz:=1) O O az) bD aO auf aaF J)<|V (aG bx O O ((cF.dS (i:=0) (n:=4) (sz:=1) O O az).cell _ _ (Zm h0 ‹k<_›)))<|aI rfl<|aa<|au<|aE acD<|V (af O)<|V (fA ix 0 O vh O)<|V (fA zI 0 O zM O)<|mI rfl<|V (iZ bx dM O)<|cD O (rP _ _ _ _ _ _ _ _ _ _ _ _ Yo J _ HB CH (cF.pj [2,2,2])) (aM call91 O O)<| ?_
   rintro _ w27 ⟨rfl,v30,c31,u32,e33,auh,ay6,aFT,aFU,aFV,ay7,aFW,ay8,Wv⟩
   have gj:=Hp.mK (A:=[_,_,_]) (R:=[_,_,_]) Wv
   simp only[gB,eN]at gj
   have qQ:=gj.pk [3,3]
   refine aa<|au<|V (ax aaF O J)<|mI rfl<|aa<| ?_
   refine⟨(k+1,v30,c31,u32,e33,auh,(ay6++Z1)),aW,TC.u4.u4.u4.u1,(Hp.conv qQ Yp),(aK I aL),J,J,?_,?_,?_,?_,?_,?_⟩
   ·(rw[KB h0 ‹k<_›,<-dG];exact aFT)
   .exact aFU
   ·(rw[aFV,hms,IV h0,<-dG,ec,dW];congr 3;(have:(F7 (rS nd.length)).length=4:=rfl);omega)
   ·(obtain⟨Lb0,rfl,W6⟩:=hzz;exact(pN hpt ay7 W6 ay8).1)
   ·(obtain⟨Lb0,rfl,W6⟩:=hzz;exact⟨ay6++Lb0,by rw[dG],(pN hpt ay7 W6 ay8).2⟩)
   (have:=aFW;omega)
  refine a8 (id:=0) rfl<|SR<|aE acD<|V (af O)<|V (fA ix 3 O aO O)<|lI bx cF 2 O O rfl<|V (ax O O J)<|V (af O)<|V (fA ix 3 O aO O)<|bk cF (i:=2) O (bM O O (v:=I _) O O O (cF.blk (i:=2) O) aJ)<|fun w43 qo=>aa<|SR<|aE ay5<|aI rfl<|aa<|aj<|have ek:k=4:=J;?_
  subst ek
  obtain⟨Lb0,rfl,W6⟩:=hzz
  exact jA O (v:=I nd.length) O ⟨rfl,v1,c1,u1,c2,v14,mv,Lb0,Yv,CH,(hms.trans Zp),hpt,W6,(by rw[qw,show(ts++[(ul.length:Int)]).length=ts.length+1 by simp,show(ts++[(ul.length:Int)]).map I=ts.map I++[I ((ul.map Prod.fst).length:Int)]by simp];exact(qo.pj [2,2,2,2]).sub (sP (sP (sP (sP (sQ (sQ sR)))))))⟩
 refine cw O aD O iw (sQ (sP (sP (sQ sR)))) (mR _ _ _ _ _ _ _ _ (iw.blk (i:=0) O) (iw.yR (i:=1) O zv) (iw.BB (i:=2) O JS)) (ay call90 O)<|fun w45 oe=>gq 4 10 aP ?_ ?_
 .refine cf O aD O oe (sQ (sP (sP (sQ sR)))) (aG bD O O (oe.cell (i:=0) O O))<|A1 10<|cH O aD O oe (sQ (sP (sP (sQ sR)))) (f:=fun b=> .slice (some ⟨b,0,none⟩) 1 1) (cB bD O O (sz:=1) (vs:=[I _]) O O az az O O)<|fun b51 w49 eL=> ?_
  (try simp only[lj]at eL)
  refine A1 11<|fT O aD O eL (j:=4) O (fun _=>(sQ (sQ (sP (sP (sQ sR)))))) (eL.dS (i:=0) (n:=1) (sz:=1) O O az) O O bD O O (size:=1) (bytes:=8) O O O az gX J iz<|fun v54 w52 jD=>AQ 12 O (jD.sub (sQ (sQ (sP (sP (sQ sR)))))) (af O)<|AQ 13 O (jD.sub (sQ (sQ (sP (sP (sQ sR)))))) (fA ix 2 O dH O)<|A1 14<|ef O aD jD (j:=1) O (sQ (sQ (sP (sP (sQ sR))))) (bM O O (v:=v54) O (a6 (jD.get (i:=4) O)).1 (a6 (jD.get (i:=4) O)).2 (jD.blk (i:=1) O) aJ)<|fun w57 oK=>AD<|ai<|SR<|mI rfl<|mI rfl<|mI rfl<|tR 4 4 oK (cB bD O O (sz:=1) (vs:=[I _,I 1,I _,I _]) O O az az O O)<|fun b61 w59 yy=> ?_
  (try simp only[lj]at yy)
  refine V (aC (yy.dS (i:=0) (n:=4) (sz:=1) O O az) O bD O)<|aE (v:=I 0) rfl<|aa<|aA<|have e0:((bE nd)++(F7 (rS nd.length)).take (0:Int).toNat)=(bE nd):=aJ;bt (G:=Int×Value×(Option (Nat×Array Value))×Value×(Option (Nat×Array Value))×(List (Value×jS))×(List bu)) (fun⟨k,v1,c1,u1,c2,mv,Z1⟩ s' w'=>(Fr (5::(rg 29 12 [])) _ s')/\(Hp W0 w' (_::_:: .blk F (.cells #[nA,nB,nC,nD,nE,nF,nG,nH,v1,u1,v54,I (cnt),nI,nJ,nK,nL] 111 (0,0))::cE c1 v1 35 (((bE nd)++(F7 (rS nd.length)).take k.toNat).map U)::cE c2 u1 1 (mv.map Prod.fst)::_::Z1))/\(s' 29=I k)/\(0<=k)/\(k<=4)/\(cO c1 v1 (((bE nd)++(F7 (rS nd.length)).take k.toNat).map U))/\(cO c2 u1 (mv.map Prod.fst))/\(mv.map Prod.snd=ul.map Prod.snd++Nh (bE nd).length k)/\(mv.take ul.length=ul)/\(∃Lb,Z1=Lb++L/\∀x∈mv.drop ul.length,pM (⟨134,243,193,3,35,8⟩:UT) F Lb x)/\(mv.length<=ul.length+k.toNat)) (fun⟨k,v1,c1,u1,c2,mv,Z1⟩=>(4-k).toNat) ((0,vW,cW,vU,cU,ul,L)) ⟨Fr.refl _ _,(by rw[e0];exact yy),rfl,J,J,R9,JS,(by simp[Nh]),(HM ..),⟨[],rfl,aJ⟩,J⟩<| ?_
  rintro⟨k,v1,c1,u1,c2,mv,Z1⟩ aOT w62 ⟨ay9,rZ,aaG,h0,h4,HB,CH,hms,hpt,hzz,aor⟩
  obtain⟨aqD,aza,aui,auj⟩:=ay9.w4 0 3 27 28
  refine SR<|V (aN aaG auj)<|aa<|ai<|aF O (fun h64=> ?_) (fun h64=> ?_)
  .refine an<|ai<|aA<|SR<|V (ah (rZ.dS (i:=0) (n:=4) (sz:=1) O O az) bD aO aui aaG J)<|V (aG bx O O ((rZ.dS (i:=0) (n:=4) (sz:=1) O O az).cell _ _ (Zm h0 ‹k<_›)))<|aI rfl<|aa<|au<|aE aqD<|V (af O)<|V (fA ix 0 O vh O)<|V (fA zI 0 O zM O)<|mI rfl<|V (iZ bx dM O)<|cD O (rP _ _ _ _ _ _ _ _ _ _ _ _ Yo J _ HB CH (rZ.pj [2,2,2])) (aM call91 O O)<| ?_
   rintro _ w67 ⟨rfl,v70,c71,u72,e73,aFX,aeY,aFY,aFZ,aF0,azb,aF1,azc,h68⟩
   have Ek:=Hp.mK (A:=[_,_,_]) (R:=[_,_,_]) h68
   simp only[gB,eN]at Ek
   have oZ:=Ek.pk [3,3]
   refine aa<|au<|V (ax aaG O J)<|mI rfl<|aa<| ?_
   refine⟨(k+1,v70,c71,u72,e73,aFX,(aeY++Z1)),aW,ay9.u4.u4.u4.u1,(Hp.conv oZ Yp),(aK I aL),J,J,?_,?_,?_,?_,?_,?_⟩
   ·(rw[KB h0 ‹k<_›,<-dG];exact aFY)
   .exact aFZ
   ·(rw[aF0,hms,IV h0,<-dG,ec,dW];congr 3;(have:(F7 (rS nd.length)).length=4:=rfl);omega)
   ·(obtain⟨Lb0,rfl,W6⟩:=hzz;exact(pN hpt azb W6 azc).1)
   ·(obtain⟨Lb0,rfl,W6⟩:=hzz;exact⟨aeY++Lb0,by rw[dG],(pN hpt azb W6 azc).2⟩)
   (have:=aF1;omega)
  refine a8 (id:=0) rfl<|SR<|aE aqD<|V (af O)<|V (fA ix 3 O aO O)<|lI bx rZ 2 O O rfl<|V (ax O O J)<|V (af O)<|V (fA ix 3 O aO O)<|bk rZ (i:=2) O (bM O O (v:=I _) O O O (rZ.blk (i:=2) O) aJ)<|fun w83 lm=>aa<|SR<|aE aza<|aI rfl<|aa<|aj<|have ek:k=4:=J;?_
  subst ek
  obtain⟨Lb0,rfl,W6⟩:=hzz
  exact jA O (v:=I nd.length) O ⟨rfl,v1,c1,u1,c2,v54,mv,Lb0,Yv,CH,(hms.trans Zp),hpt,W6,(by rw[qw,show(ts++[(ul.length:Int)]).length=ts.length+1 by simp,show(ts++[(ul.length:Int)]).map I=ts.map I++[I ((ul.map Prod.fst).length:Int)]by simp];exact(lm.pj [2,2,2,2]).sub (sP (sP (sP (sP (sQ (sQ sR)))))))⟩
 refine cH O aD O oe (sQ (sP (sP (sQ sR)))) (f:=fun b=> .slice (some ⟨b,0,none⟩) 1 1) (cB bD O O (sz:=1) (vs:=[I _]) O O az az O O)<|fun b87 w85 uy=> ?_
 (try simp only[lj]at uy)
 refine A1 4<|cf O aD O uy (sQ (sQ (sP (sP (sQ sR))))) (aG bD O O (uy.cell (i:=1) O O))<|A1 11<|fT O aD O uy (j:=4) O (fun _=>(sQ (sQ (sP (sP (sQ sR)))))) (uy.dS (i:=0) (n:=1) (sz:=1) O O az) O O bD O O (size:=1) (bytes:=8) O O O az gX J iz<|fun v92 w90 OB=>AQ 12 O (OB.sub (sQ (sQ (sP (sP (sQ sR)))))) (af O)<|AQ 13 O (OB.sub (sQ (sQ (sP (sP (sQ sR)))))) (fA ix 2 O dH O)<|A1 14<|ef O aD OB (j:=1) O (sQ (sQ (sP (sP (sQ sR))))) (bM O O (v:=v92) O (a6 (OB.get (i:=4) O)).1 (a6 (OB.get (i:=4) O)).2 (OB.blk (i:=1) O) aJ)<|fun w95 pY=>AD<|ai<|SR<|mI rfl<|mI rfl<|mI rfl<|tR 4 4 pY (cB bD O O (sz:=1) (vs:=[I _,I 1,I _,I _]) O O az az O O)<|fun b99 w97 Om=> ?_
 (try simp only[lj]at Om)
 refine V (aC (Om.dS (i:=0) (n:=4) (sz:=1) O O az) O bD O)<|aE (v:=I 0) rfl<|aa<|aA<|have e0:((bE nd)++(F7 (rS nd.length)).take (0:Int).toNat)=(bE nd):=aJ;bt (G:=Int×Value×(Option (Nat×Array Value))×Value×(Option (Nat×Array Value))×(List (Value×jS))×(List bu)) (fun⟨k,v1,c1,u1,c2,mv,Z1⟩ s' w'=>(Fr (5::(rg 29 12 [])) _ s')/\(Hp W0 w' (_::_:: .blk F (.cells #[nA,nB,nC,nD,nE,nF,nG,nH,v1,u1,v92,I (cnt),nI,nJ,nK,nL] 111 (0,0))::cE c1 v1 35 (((bE nd)++(F7 (rS nd.length)).take k.toNat).map U)::cE c2 u1 1 (mv.map Prod.fst)::_::Z1))/\(s' 29=I k)/\(0<=k)/\(k<=4)/\(cO c1 v1 (((bE nd)++(F7 (rS nd.length)).take k.toNat).map U))/\(cO c2 u1 (mv.map Prod.fst))/\(mv.map Prod.snd=ul.map Prod.snd++Nh (bE nd).length k)/\(mv.take ul.length=ul)/\(∃Lb,Z1=Lb++L/\∀x∈mv.drop ul.length,pM (⟨134,243,193,3,35,8⟩:UT) F Lb x)/\(mv.length<=ul.length+k.toNat)) (fun⟨k,v1,c1,u1,c2,mv,Z1⟩=>(4-k).toNat) ((0,vW,cW,vU,cU,ul,L)) ⟨Fr.refl _ _,(by rw[e0];exact Om),rfl,J,J,R9,JS,(by simp[Nh]),(HM ..),⟨[],rfl,aJ⟩,J⟩<| ?_
 rintro⟨k,v1,c1,u1,c2,mv,Z1⟩ aKN auk ⟨aqE,wB,TI,h0,h4,HB,CH,hms,hpt,hzz,aor⟩
 obtain⟨aky,aul,aos,aot⟩:=aqE.w4 0 3 27 28
 refine SR<|V (aN TI aot)<|aa<|ai<|aF O (fun aF2=> ?_) (fun aF2=> ?_)
 .refine an<|ai<|aA<|SR<|V (ah (wB.dS (i:=0) (n:=4) (sz:=1) O O az) bD aO aos TI J)<|V (aG bx O O ((wB.dS (i:=0) (n:=4) (sz:=1) O O az).cell _ _ (Zm h0 ‹k<_›)))<|aI rfl<|aa<|au<|aE aky<|V (af O)<|V (fA ix 0 O vh O)<|V (fA zI 0 O zM O)<|mI rfl<|V (iZ bx dM O)<|cD O (rP _ _ _ _ _ _ _ _ _ _ _ _ Yo J _ HB CH (wB.pj [2,2,2])) (aM call91 O O)<| ?_
  rintro _ aol ⟨rfl,aF3,aF4,aF5,aF6,aze,aqF,akz,azf,azg,aqG,azh,aqH,aF7⟩
  have JT:=Hp.mK (A:=[_,_,_]) (R:=[_,_,_]) aF7
  simp only[gB,eN]at JT
  have acB:=JT.pk [3,3]
  refine aa<|au<|V (ax TI O J)<|mI rfl<|aa<| ?_
  refine⟨(k+1,aF3,aF4,aF5,aF6,aze,(aqF++Z1)),aW,aqE.u4.u4.u4.u1,(Hp.conv acB Yp),(aK I aL),J,J,?_,?_,?_,?_,?_,?_⟩
  ·(rw[KB h0 ‹k<_›,<-dG];exact akz)
  .exact azf
  ·(rw[azg,hms,IV h0,<-dG,ec,dW];congr 3;(have:(F7 (rS nd.length)).length=4:=rfl);omega)
  ·(obtain⟨Lb0,rfl,W6⟩:=hzz;exact(pN hpt aqG W6 aqH).1)
  ·(obtain⟨Lb0,rfl,W6⟩:=hzz;exact⟨aqF++Lb0,by rw[dG],(pN hpt aqG W6 aqH).2⟩)
  (have:=azh;omega)
 refine a8 (id:=0) rfl<|SR<|aE aky<|V (af O)<|V (fA ix 3 O aO O)<|lI bx wB 2 O O rfl<|V (ax O O J)<|V (af O)<|V (fA ix 3 O aO O)<|bk wB (i:=2) O (bM O O (v:=I _) O O O (wB.blk (i:=2) O) aJ)<|fun aum Dh=>aa<|SR<|aE aul<|aI rfl<|aa<|aj<|have ek:k=4:=J;?_
 subst ek
 obtain⟨Lb0,rfl,W6⟩:=hzz
 exact jA O (v:=I nd.length) O ⟨rfl,v1,c1,u1,c2,v92,mv,Lb0,Yv,CH,(hms.trans Zp),hpt,W6,(by rw[qw,show(ts++[(ul.length:Int)]).length=ts.length+1 by simp,show(ts++[(ul.length:Int)]).map I=ts.map I++[I ((ul.map Prod.fst).length:Int)]by simp];exact(Dh.pj [2,2,2,2]).sub (sP (sP (sP (sP (sQ (sQ sR)))))))⟩
set_option maxHeartbeats 1000000 in
theorem BW{nA nB nC nD nE nF nG nH nI nJ nK nL:Value}(W0:World)(F:Nat)(vW vU vT:Value)(cnt:Int)(cW cU:Option (Nat×Array Value))(nd:List qD)(ul:List (Value×jS))(ts:List Int)(L:List bu)(cl:List Nat)(i j:Int)(hn:nd.length<=100000)(OX:ul.length<=1000000)(hts:ts.length<=1000000)(W5: -1000000<=cnt/\cnt<=1000000)(hf:Fo nd cl)(w:World)(zv:cO cW vW ((bE nd).map U))(JS:cO cU vU (ul.map Prod.fst))(hH:Hp W0 w (.blk F (.cells #[nA,nB,nC,nD,nE,nF,nG,nH,vW,vU,vT,I (cnt),nI,nJ,nK,nL] 111 (0,0))::cE cW vW 35 ((bE nd).map U)::cE cU vU 1 (ul.map Prod.fst):: .row vT 3 1 ts.length (ts.map I)::L)):Calls Tryz.prog 156 #[.pointer (some ⟨F,8,none⟩),I i,I j] w (jY fun u w'=>(u=B false/\¬IZ nd.length cl i j/\Hp W0 w' (.blk F (.cells #[nA,nB,nC,nD,nE,nF,nG,nH,vW,vU,vT,I (cnt),nI,nJ,nK,nL] 111 (0,0))::cE cW vW 35 ((bE nd).map U)::cE cU vU 1 (ul.map Prod.fst):: .row vT 3 1 ts.length (ts.map I)::L))\/(u=B true/\∃(a b:Nat),UnP nd cl i j a b/\∃(v1:Value) (c1:Option (Nat×Array Value)) (u1:Value) (c2:Option (Nat×Array Value)) (t1:Value) (mv:List (Value×jS)) (Lb:List bu),cO c1 v1 ((bE (pL nd a b)).map U)/\cO c2 u1 (mv.map Prod.fst)/\mC (bE nd) (ul.map Prod.snd) (bE (pL nd a b)) (mv.map Prod.snd)/\mv.take ul.length=ul/\mv.length<=ul.length+5/\(∀x∈mv.drop ul.length,pM (⟨134,243,193,3,35,8⟩:UT) F Lb x)/\Hp W0 w' (.blk F (.cells #[nA,nB,nC,nD,nE,nF,nG,nH,v1,u1,t1,I (cnt-1),nI,nJ,nK,nL] 111 (0,0))::cE c1 v1 35 ((bE (pL nd a b)).map U)::cE c2 u1 1 (mv.map Prod.fst):: .row t1 3 1 (ts++[(ul.length:Int)]).length ((ts++[(ul.length:Int)]).map I)::(Lb++L)))):=by
 have hwl:=iG nd
 refine en func156 rfl rfl<|SR<|va (v:=B false) rfl<|aa<|ai<|SR<|aE (v:=Pn _ _) rfl<|mI rfl<|aH O hH (mS _ _ _ _ _ _ _ J _ (hH.blk (i:=0) O) (hH.yR (i:=1) O zv)) (aM call158 O O)<|fun w1 bp=>V (vz O)<|mB rfl<|bK 16 O (fun h6=> ?_) (fun h6=> ?_)
 .refine aE (v:=B true) rfl<|aa<|ct rfl<|SR<|va (v:=B false) rfl<|aa<|aj<|jA O (v:=B false) O (.inl ⟨rfl,(by exact asu J),bp⟩)
 refine aE (v:=Pn _ _) rfl<|mI rfl<|aH O bp (mS _ _ _ _ _ _ _ J _ (bp.blk (i:=0) O) (bp.yR (i:=1) O zv)) (aM call158 O O)<|fun w7 eW=>V (vz O)<|mB rfl<|aa<|aF O (fun h12=> ?_) (fun h12=> ?_)
 .refine SR<|va (v:=B false) rfl<|aa<|aj<|jA O (v:=B false) O (.inl ⟨rfl,(by exact asv J),eW⟩)
 refine an<|SR<|aE (v:=Pn _ _) rfl<|mI rfl<|aH O eW (oO _ _ _ _ _ nd cl _ J lA J _ (eW.blk (i:=0) O) (eW.yR (i:=1) O zv)) (aM call160 O O)<|fun C2 cG=>aE (v:=Pn _ _) rfl<|mI rfl<|aH O cG (oO _ _ _ _ _ nd cl _ J lA J _ (cG.blk (i:=0) O) (cG.yR (i:=1) O zv)) (aM call160 O O)<|fun Tm cI=>aI rfl<|aI rfl<|aa<|ai<|SR<|mI rfl<|mI rfl<|V (bV O O)<|aa<|aF O (fun qn=> ?_) (fun qn=> ?_)
 .refine SR<|va (v:=B false) rfl<|aa<|aj<|jA O (v:=B false) O (.inl ⟨rfl,(by exact asw hf J J J),cI⟩)
 refine an<|SR<|aE (v:=Pn _ _) rfl<|V (af O)<|V (fA ix 0 O vh O)<|va (v:=Pn _ _) rfl<|aa<|Fy (G:=(Value)) cI (rg 34 13 []) (fun(L:List bu) (t1:(Value))=>((L).set 0 (.blk F (.cells #[nA,nB,nC,nD,nE,nF,nG,nH,vW,vU,t1,I (cnt),nI,nJ,nK,nL] 111 (0,0)))).set 3 (.row t1 3 1 (ts.length+1) (ts.map I++[I ((ul.map Prod.fst).length:Int)]))) (fun(t1:(Value)) s'=>True) ?_ ?_
 .refine gp aP cI (sQ (sP (sP (sQ sR))))<|fun Tq cT=>have rL:=cT.sub (sQ (sP (sP (sQ sR))));AQ 0 O rL (mV (Pn _ _) O)<|AQ 1 O rL (mV (Pn _ _) O)<|AQ 2 O rL (af O)<|AQ 3 O rL (fA ix 2 O dH O)<|AQ 5 O rL (mV (Pn _ _) O)<|AQ 6 O rL (af O)<|AQ 7 O rL (fA zI 0 O zM O)<|gq 4 8 aP ?_ ?_
  .refine cf O aD O cT (sQ (sP (sP (sQ sR)))) (aG bD O O (cT.cell (i:=0) O O))<|A1 8<|cw O aD O cT (sQ (sP (sP (sQ sR)))) (mR _ _ _ _ _ _ _ _ (cT.blk (i:=0) O) (cT.yR (i:=1) O zv) (cT.BB (i:=2) O JS)) (ay call90 O)<|fun w23 gY=>A1 9<|cH O aD O gY (sQ (sP (sP (sQ sR)))) (f:=fun b=> .slice (some ⟨b,0,none⟩) 1 1) (cB bD O O (sz:=1) (vs:=[I _]) O O az az O O)<|fun b27 w25 jg=> ?_
   (try simp only[lj]at jg)
   refine A1 10<|fT O aD O jg (j:=4) O (fun _=>(sQ (sQ (sP (sP (sQ sR)))))) (jg.dS (i:=0) (n:=1) (sz:=1) O O az) O O bD O O (size:=1) (bytes:=8) O O O az gX J iz<|fun v30 w28 gj=>AQ 11 O (gj.sub (sQ (sQ (sP (sP (sQ sR)))))) (af O)<|AQ 12 O (gj.sub (sQ (sQ (sP (sP (sQ sR)))))) (fA ix 2 O dH O)<|A1 13<|ef O aD gj (j:=1) O (sQ (sQ (sP (sP (sQ sR))))) (bM O O (v:=v30) O (a6 (gj.get (i:=4) O)).1 (a6 (gj.get (i:=4) O)).2 (gj.blk (i:=1) O) aJ)<|fun w33 lF=>AD<| ?_
   refine⟨((Fr.refl _ _)).u4.u4.u4.u1,v30,(Hp.conv (lF.sub (sQ sR)) aL),trivial⟩
  refine cw O aD O cT (sQ (sP (sP (sQ sR)))) (mR _ _ _ _ _ _ _ _ (cT.blk (i:=0) O) (cT.yR (i:=1) O zv) (cT.BB (i:=2) O JS)) (ay call90 O)<|fun w35 j7=>gq 4 9 aP ?_ ?_
  .refine cf O aD O j7 (sQ (sP (sP (sQ sR)))) (aG bD O O (j7.cell (i:=0) O O))<|A1 9<|cH O aD O j7 (sQ (sP (sP (sQ sR)))) (f:=fun b=> .slice (some ⟨b,0,none⟩) 1 1) (cB bD O O (sz:=1) (vs:=[I _]) O O az az O O)<|fun b41 w39 lG=> ?_
   (try simp only[lj]at lG)
   refine A1 10<|fT O aD O lG (j:=4) O (fun _=>(sQ (sQ (sP (sP (sQ sR)))))) (lG.dS (i:=0) (n:=1) (sz:=1) O O az) O O bD O O (size:=1) (bytes:=8) O O O az gX J iz<|fun v44 w42 mo=>AQ 11 O (mo.sub (sQ (sQ (sP (sP (sQ sR)))))) (af O)<|AQ 12 O (mo.sub (sQ (sQ (sP (sP (sQ sR)))))) (fA ix 2 O dH O)<|A1 13<|ef O aD mo (j:=1) O (sQ (sQ (sP (sP (sQ sR))))) (bM O O (v:=v44) O (a6 (mo.get (i:=4) O)).1 (a6 (mo.get (i:=4) O)).2 (mo.blk (i:=1) O) aJ)<|fun w47 jB=>AD<| ?_
   refine⟨((Fr.refl _ _)).u4.u4.u4.u1,v44,(Hp.conv (jB.sub (sQ sR)) aL),trivial⟩
  refine cH O aD O j7 (sQ (sP (sP (sQ sR)))) (f:=fun b=> .slice (some ⟨b,0,none⟩) 1 1) (cB bD O O (sz:=1) (vs:=[I _]) O O az az O O)<|fun b51 w49 eL=> ?_
  (try simp only[lj]at eL)
  refine A1 4<|cf O aD O eL (sQ (sQ (sP (sP (sQ sR))))) (aG bD O O (eL.cell (i:=1) O O))<|A1 10<|fT O aD O eL (j:=4) O (fun _=>(sQ (sQ (sP (sP (sQ sR)))))) (eL.dS (i:=0) (n:=1) (sz:=1) O O az) O O bD O O (size:=1) (bytes:=8) O O O az gX J iz<|fun v56 w54 jC=>AQ 11 O (jC.sub (sQ (sQ (sP (sP (sQ sR)))))) (af O)<|AQ 12 O (jC.sub (sQ (sQ (sP (sP (sQ sR)))))) (fA ix 2 O dH O)<|A1 13<|ef O aD jC (j:=1) O (sQ (sQ (sP (sP (sQ sR))))) (bM O O (v:=v56) O (a6 (jC.get (i:=4) O)).1 (a6 (jC.get (i:=4) O)).2 (jC.blk (i:=1) O) aJ)<|fun w59 yy=>AD<| ?_
  refine⟨((Fr.refl _ _)).u4.u4.u4.u1,v56,(Hp.conv (yy.sub (sQ sR)) aL),trivial⟩
 rintro t1 aOY w61 aF8 Ef-
 obtain⟨azi,aKP,akA,akB,akC⟩:=aF8.w5 0 6 7 8 9
 refine Fy (G:=(Nat)×(Nat)) Ef (7::8::(rg 47 9 [])) (fun(L:List bu) (⟨a,b⟩:(Nat)×(Nat))=>L) (fun(⟨a,b⟩:(Nat)×(Nat)) s'=>(s' 7=I (a:Int))/\(s' 8=I (b:Int))/\(UnP nd cl i j a b)) ?_ ?_
 .refine SR<|aE akC<|aE akA<|aH O Ef (dz _ _ _ _ _ _ _ _ afH _ (Ef.blk (i:=0) O) (Ef.yR (i:=1) O zv)) (bz uu O O (show _=I 1 from O))<|fun w62 nU=>aE akC<|aE akB<|aH O nU (dz _ _ _ _ _ _ _ _ afH _ (nU.blk (i:=0) O) (nU.yR (i:=1) O zv)) (bz uu O O (show _=I 1 from O))<|fun w64 wR=>V (aN O O)<|aa<|aF O (fun h67=> ?_) (fun h67=> ?_)
  .refine au<|aE akB<|aE akA<|aI rfl<|aI rfl<|aa<| ?_
   refine⟨((Fr.refl _ _)).u4.u4.u1.u1.u1,(o9 nd cl j.toNat,o9 nd cl i.toNat),wR,(aK I aL),(aK I aL),?_⟩
   exact(VG hf J J J).swap
  refine an ?_
  refine⟨((Fr.refl _ _)).u4.u1.u1.u1,(o9 nd cl i.toNat,o9 nd cl j.toNat),wR,(jX akA (aK I aL)),(jX akB (aK I aL)),?_⟩
  exact VG hf J J J
 rintro⟨a,b⟩ aOZ w68 aF9 kG ⟨OC,W7,hP⟩
 obtain⟨azj,Dr⟩:=aF9.t2 0 azi 9 akC
 have ha:=hP.ha
 have hb:=hP.hb
 have hab:=hP.ab
 have sa:=hf.small ha
 have sb:=hf.small hb
 have ta:=hf.aiq ha hP.ua
 have tb:=hf.aiq hb hP.ub
 refine SR<|aE Dr<|aE W7<|aE OC<|cD O (kH _ _ _ _ _ _ _ _ _ _ _ _ _ _ J J J _ zv JS kG) (jH call189 O O (show _=I 0 from O) O)<| ?_
 rintro _ w71 ⟨rfl,v74,c75,u76,e77,azk,aO0,aou,aGa,aGb,aGc,aGd,aGe,h72⟩
 have uX:=Hp.mK (A:=[_,_,_]) (R:=[_]) h72
 simp only[gB,eN]at uX
 have l1:(kK nd b a).length=nd.length:=by simp[kK,nP,rT,we]
 have qp:=iG (kK nd b a)
 have lt1:mC (bE nd) (ul.map Prod.snd) (bE (kK nd b a)) (azk.map Prod.snd):=by rw[aGb,<-ah6 (nd:=nd) hb];exact mC.set J
 rw[ah6 hb]at aou uX
 have la1:=lt1
 have dr1:=And.intro aGc aGe
 refine aa<|SR<|aE Dr<|aE OC<|aE Dr<|aE OC<|aH O uX (dz _ _ _ _ _ _ _ _ J _ (uX.blk (i:=0) O) (uX.yR (i:=1) O aou)) (bz uu O O (show _=I 1 from O))<|fun w86 WK=>have c64:=apI (nd:=(kK nd b a)) (a:=a) (v:=kN nd a) (by rw[l1];exact ha) Vq J;aE Dr<|aE W7<|aH O WK (dz _ _ _ _ _ _ _ _ J _ (WK.blk (i:=0) O) (WK.yR (i:=1) O aou)) (bz uu O O (show _=I 1 from O))<|fun w88 Ji=>have c67:=apI (nd:=(kK nd b a)) (a:=b) (v:=kN nd b) (by rw[l1];exact hb) Vq J;V (ax (aK I c64) (aK I c67) J)<|cD O (kH _ _ _ _ _ _ _ _ _ _ _ _ _ _ J J J _ aou aGa Ji) (jH call189 O O (show _=I 1 from O) (aK I (show _=((kN nd a+kN nd b:Nat):Int)from by omega)))<| ?_
 rintro _ w92 ⟨rfl,v95,c96,u97,e98,azl,akD,acF,azm,azn,azo,aKR,azp,h93⟩
 have uz:=Hp.mK (A:=[_,_,_]) (R:=[_]) h93
 simp only[gB,eN]at uz
 have l2:(nP (kK nd b a) a (kN nd a+kN nd b)).length=nd.length:=by simp[kK,nP,rT,we]
 have Kh:=iG (nP (kK nd b a) a (kN nd a+kN nd b))
 have lt2:mC (bE (kK nd b a)) (azk.map Prod.snd) (bE (nP (kK nd b a) a (kN nd a+kN nd b))) (azl.map Prod.snd):=by rw[azn,<-ah7 (nd:=(kK nd b a)) (by rw[l1];exact ha)];exact mC.set J
 rw[ah7 (by rw[l1];exact ha)]at acF uz
 have la2:=la1.trans lt2
 have dr2:=pN dr1.1 azo dr1.2 azp
 refine aa<|SR<|aE Dr<|aE OC<|aE Dr<|aE OC<|aH O uz (dz _ _ _ _ _ _ _ _ J _ (uz.blk (i:=0) O) (uz.yR (i:=1) O acF)) (bz uu O O (show _=I 3 from O))<|fun aO8 akE=>have c74:=apK (nd:=(nP (kK nd b a) a (kN nd a+kN nd b))) (a:=a) (v:=qT nd a) (by rw[l2];exact ha) (Vv.trans Vs) J;aE Dr<|aE W7<|aH O akE (dz _ _ _ _ _ _ _ _ J _ (akE.blk (i:=0) O) (akE.yR (i:=1) O acF)) (bz uu O O (show _=I 3 from O))<|fun aGg Q4=>have c77:=apK (nd:=(nP (kK nd b a) a (kN nd a+kN nd b))) (a:=b) (v:=qT nd b) (by rw[l2];exact hb) (Vv.trans Vs) J;V (vA (aK I c74) (aK I c77))<|cD O (kH _ _ _ _ _ _ _ _ _ _ _ _ _ _ J J J _ acF azm Q4) (jH call189 O O (show _=I 3 from O) (aK I (show _=((min (qT nd a) (qT nd b):Nat):Int)from by omega)))<| ?_
 rintro _ ayC ⟨rfl,aPb,aPc,aPd,aPe,aqI,aKT,acG,azq,azr,azs,aKU,azt,aun⟩
 have JU:=Hp.mK (A:=[_,_,_]) (R:=[_]) aun
 simp only[gB,eN]at JU
 have l3:(rT (nP (kK nd b a) a (kN nd a+kN nd b)) a (min (qT nd a) (qT nd b))).length=nd.length:=by simp[kK,nP,rT,we]
 have wl3:=iG (rT (nP (kK nd b a) a (kN nd a+kN nd b)) a (min (qT nd a) (qT nd b)))
 have lt3:mC (bE (nP (kK nd b a) a (kN nd a+kN nd b))) (azl.map Prod.snd) (bE (rT (nP (kK nd b a) a (kN nd a+kN nd b)) a (min (qT nd a) (qT nd b)))) (aqI.map Prod.snd):=by rw[azr,<-ah8 (nd:=(nP (kK nd b a) a (kN nd a+kN nd b))) (by rw[l2];exact ha)];exact mC.set J
 rw[ah8 (by rw[l2];exact ha)]at acG JU
 have la3:=la2.trans lt3
 have dr3:=pN dr2.1 azs dr2.2 azt
 refine aa<|SR<|aE Dr<|aE OC<|aH O JU (dz _ _ _ _ _ _ _ _ J _ (JU.blk (i:=0) O) (JU.yR (i:=1) O acG)) (bz uu O O (show _=I 2 from O))<|fun aPh OD=>have c82:=apJ (nd:=(rT (nP (kK nd b a) a (kN nd a+kN nd b)) a (min (qT nd a) (qT nd b)))) (a:=a) (v:=tH nd a) (by rw[l3];exact ha) (Vw.trans (Vt.trans Vr)) J;aE Dr<|aE W7<|aH O OD (dz _ _ _ _ _ _ _ _ J _ (OD.blk (i:=0) O) (OD.yR (i:=1) O acG)) (bz uu O O (show _=I 2 from O))<|fun aGh acH=>have c85:=apJ (nd:=(rT (nP (kK nd b a) a (kN nd a+kN nd b)) a (min (qT nd a) (qT nd b)))) (a:=b) (v:=tH nd b) (by rw[l3];exact hb) (Vw.trans (Vt.trans Vr)) J;V (run_assign (aK I c82))<|V (run_assign (aK I c85))<|aa<|SR<|aE Dr<|aE OC<|mI rfl<|cD O (kH _ _ _ _ _ _ _ _ _ _ _ _ _ _ J J J _ acG azq acH) (jH call189 O O (show _=I 2 from O) O)<| ?_
 rintro _ aPk ⟨rfl,aPl,aPm,aPn,aPo,aqJ,aKW,aqK,azu,azv,azw,aKX,azx,aGi⟩
 have Hq:=Hp.mK (A:=[_,_,_]) (R:=[_]) aGi
 simp only[gB,eN]at Hq
 have l4:(we (rT (nP (kK nd b a) a (kN nd a+kN nd b)) a (min (qT nd a) (qT nd b))) a (tH nd b)).length=nd.length:=by simp[kK,nP,rT,we]
 have wl4:=iG (we (rT (nP (kK nd b a) a (kN nd a+kN nd b)) a (min (qT nd a) (qT nd b))) a (tH nd b))
 have lt4:mC (bE (rT (nP (kK nd b a) a (kN nd a+kN nd b)) a (min (qT nd a) (qT nd b)))) (aqI.map Prod.snd) (bE (we (rT (nP (kK nd b a) a (kN nd a+kN nd b)) a (min (qT nd a) (qT nd b))) a (tH nd b))) (aqJ.map Prod.snd):=by rw[azv,<-SS (nd:=(rT (nP (kK nd b a) a (kN nd a+kN nd b)) a (min (qT nd a) (qT nd b)))) (by rw[l3];exact ha)];exact mC.set J
 rw[SS (by rw[l3];exact ha)]at aqK Hq
 have la4:=la3.trans lt4
 have dr4:=pN dr3.1 azw dr3.2 azx
 refine aa<|SR<|aE Dr<|aE W7<|mI rfl<|cD O (kH _ _ _ _ _ _ _ _ _ _ _ _ _ _ J J J _ aqK azu Hq) (jH call189 O O (show _=I 2 from O) O)<| ?_
 rintro _ aPr ⟨rfl,v154,aGj,aGk,aGl,aqL,aKZ,akF,azy,azz,azA,aK0,azB,aGm⟩
 have JV:=Hp.mK (A:=[_,_,_]) (R:=[_]) aGm
 simp only[gB,eN]at JV
 have l5:(we (we (rT (nP (kK nd b a) a (kN nd a+kN nd b)) a (min (qT nd a) (qT nd b))) a (tH nd b)) b (tH nd a)).length=nd.length:=by simp[kK,nP,rT,we]
 have wl5:=iG (we (we (rT (nP (kK nd b a) a (kN nd a+kN nd b)) a (min (qT nd a) (qT nd b))) a (tH nd b)) b (tH nd a))
 have lt5:mC (bE (we (rT (nP (kK nd b a) a (kN nd a+kN nd b)) a (min (qT nd a) (qT nd b))) a (tH nd b))) (aqJ.map Prod.snd) (bE (we (we (rT (nP (kK nd b a) a (kN nd a+kN nd b)) a (min (qT nd a) (qT nd b))) a (tH nd b)) b (tH nd a))) (aqL.map Prod.snd):=by rw[azz,<-SS (nd:=(we (rT (nP (kK nd b a) a (kN nd a+kN nd b)) a (min (qT nd a) (qT nd b))) a (tH nd b))) (by rw[l4];exact hb)];exact mC.set J
 rw[SS (by rw[l4];exact hb)]at akF JV
 have la5:=la4.trans lt5
 have dr5:=pN dr4.1 azA dr4.2 azB
 refine aa<|SR<|aE azj<|V (af O)<|V (fA ix 3 O aO O)<|lI bx JV 0 O O rfl<|V (eO O O J)<|V (af O)<|V (fA ix 3 O aO O)<|bk JV (i:=0) O (bM O O (v:=I _) O O O (JV.blk (i:=0) O) aJ)<|fun aFr Ov=>aa<|SR<|va (v:=B true) rfl<|aa<|aj<|have hE:=Ov;?_
 rw[ah3 ha hb hab]at hE akF la5
 refine jA O (v:=B true) O (.inr ⟨rfl,a,b,hP,v154,aGj,aGk,aGl,t1,aqL,_,akF,azy,la5,dr5.1,J,dr5.2,?_⟩)
 rw[show(ts++[(ul.length:Int)]).length=ts.length+1 by simp,show(ts++[(ul.length:Int)]).map I=ts.map I++[I ((ul.map Prod.fst).length:Int)]by simp];simp only[dG];exact hE
set_option maxHeartbeats 1000000 in
theorem Dt{nA nB nC nD nE nF nG nH nI nJ nK nL:Value}(W0:World)(F:Nat)(vW vU vT:Value)(cnt:Int)(cW cU:Option (Nat×Array Value))(W:List (BitVec 64))(ul:List (Value×jS))(tn:List Nat)(cs:List (List Nat))(L:List bu)(m:Int)(OX:ul.length<=1000000)(htn:tn.length<=100000)(hs:Hs W (ul.map Prod.snd) tn cs)(hok:Na W.length (ul.map Prod.snd))(hI:∀x∈ul,pM (⟨134,243,193,3,35,8⟩:UT) F L x)(W5:cnt=(leads (cs.headD []):Nat))(w:World)(zv:cO cW vW (W.map U))(JS:cO cU vU (ul.map Prod.fst))(hH:Hp W0 w (.blk F (.cells #[nA,nB,nC,nD,nE,nF,nG,nH,vW,vU,vT,I (cnt),nI,nJ,nK,nL] 111 (0,0))::cE cW vW 35 (W.map U)::cE cU vU 1 (ul.map Prod.fst):: .row vT 3 1 tn.length ((Kc tn).map I)::L)):Calls Tryz.prog 49 #[.pointer (some ⟨F,8,none⟩),I m] w (jY fun u w'=>(u=B false/\(tn.length:Int)<m/\Hp W0 w' (.blk F (.cells #[nA,nB,nC,nD,nE,nF,nG,nH,vW,vU,vT,I (cnt),nI,nJ,nK,nL] 111 (0,0))::cE cW vW 35 (W.map U)::cE cU vU 1 (ul.map Prod.fst):: .row vT 3 1 tn.length ((Kc tn).map I)::L))\/(u=B true/\m<=tn.length/\∃(v1:Value) (c1:Option (Nat×Array Value)) (u1:Value) (c2:Option (Nat×Array Value)) (t1:Value) (W1:List (BitVec 64)) (mv:List (Value×jS)) (JJ:List Nat) (FG:List (List Nat)),GM ul mv tn JJ cs FG W1/\(JJ.length:Int)=max 0 m/\cO c1 v1 (W1.map U)/\cO c2 u1 (mv.map Prod.fst)/\Hp W0 w' (.blk F (.cells #[nA,nB,nC,nD,nE,nF,nG,nH,v1,u1,t1,I ((leads (FG.headD []):Nat)),nI,nJ,nK,nL] 111 (0,0))::cE c1 v1 35 (W1.map U)::cE c2 u1 1 (mv.map Prod.fst):: .row t1 3 1 JJ.length ((Kc JJ).map I)::L))):=by
 refine en func49 rfl rfl<|SR<|va (v:=B false) rfl<|aa<|ai<|SR<|aE (v:=Pn _ _) rfl<|V (kX LA O O)<|mB rfl<|cC O rfl<|mI rfl<|aE (v:=Pn _ _) rfl<|V (af O)<|V (fA ix 2 O dH O)<|lV bD hH 0 O O rfl<|V (aC (hH.sl (i:=3) O) O bD O)<|V (dN O O)<|mB rfl<|aa<|aF O (fun h2=> ?_) (fun h2=> ?_)
 .refine SR<|va (v:=B false) rfl<|aa<|aj<|jA O (v:=B false) O (.inl ⟨rfl,J,hH⟩)
 refine an<|ai<|SR<|aE (v:=Pn _ _) rfl<|V (af O)<|V (fA ix 2 O dH O)<|lV bD hH 0 O O rfl<|V (aC (hH.sl (i:=3) O) O bD O)<|V (eO O O J)<|aI rfl<|aa<|aA<| ?_
 rw[W5]at hH
 refine bt (G:=(List (BitVec 64))×(List (Value×jS))×(List Nat)×(List (List Nat))×(Option (Nat×Array Value))×Value×(Option (Nat×Array Value))×Value×Value) (fun⟨W1,mv,JJ,FG,c1,v1,c2,u1,t1⟩ s' w'=>(Fr (5::6::(rg 24 47 [])) _ s')/\(Hp W0 w' (.blk F (.cells #[nA,nB,nC,nD,nE,nF,nG,nH,v1,u1,t1,I ((leads (FG.headD []):Nat)),nI,nJ,nK,nL] 111 (0,0))::cE c1 v1 35 (W1.map U)::cE c2 u1 1 (mv.map Prod.fst):: .row t1 3 1 JJ.length ((Kc JJ).map I)::_))/\(s' 5=I ((JJ.length:Int)-1))/\(GM ul mv tn JJ cs FG W1)/\(cO c1 v1 (W1.map U))/\(cO c2 u1 (mv.map Prod.fst))/\(max 0 m<=(JJ.length:Int))) (fun⟨W1,mv,JJ,FG,c1,v1,c2,u1,t1⟩=>JJ.length) ((W,ul,tn,cs,cW,vW,cU,vU,vT)) ⟨Fr.refl _ _,hH,rfl,(GM.start hs hok),zv,JS,J⟩ ?_
 rintro⟨W1,mv,JJ,FG,c1,v1,c2,u1,t1⟩ sg3 w3 ⟨fr3,tZ,Kr,hb,HB,CH,B0⟩
 obtain⟨BI,aud⟩:=fr3.w2 0 1
 refine ai<|SR<|aE Kr<|aE aud<|V (Gf O O)<|V (dF O O)<|aa<|aF O (fun h5=> ?_) (fun h5=> ?_)
 .refine an<|ai<|aA<|SR<| ?_
  obtain⟨t,tn2,cl,c3,cs2,rfl,rfl⟩:=asx hb.hs J
  obtain⟨nd1,nd2,e1,f1,e2,f2,hs2⟩:=ang hb.hs
  subst e1
  have q1:=f1.len
  have q2:=f2.len
  have n1:=hb.hs.Zy
  have n2:=hs2.Zy
  have cn:=hb.hs.cnt
  unfold GG at cn
  have lc:=Nj cl
  have lc3:=Nj c3
  have tl:=hb.tn
  have ule:=hb.le
  have htl:=hb.hs.le
  rw[gF]at htl
  have hkk:((t::tn2).length:Int)=tn2.length+1:=aJ
  have hkn:(((t::tn2).length:Int)-1).toNat=tn2.length:=J
  have qp:=iG nd1
  have Kh:=iG nd2
  simp only[Ya]at tZ
  refine aE BI<|aH O tZ (lQ _ _ _ _ _ _ J _ (tZ.blk (i:=0) O) (tZ.yR (i:=1) O HB)) (ay call89 O)<|fun w6 eE=>aI rfl<|aa<|ai<|gp aP eE (sQ (sQ (sQ sR)))<|fun w8 iE=>have OE:=iE.sub (sQ (sQ (sQ sR)));AQ 0 O OE (run_move BI)<|AQ 1 O OE (af O)<|AQ 2 O OE (fA ix 0 O vh O)<|AQ 3 O OE (fA zI 0 O zM O)<|AQ 4 O OE (run_move BI)<|AQ 5 O OE (af O)<|AQ 6 O OE (fA ix 2 O dH O)<|AQ 8 O OE (run_move Kr)<|A1 7<|cf O aD O iE (sQ (sQ (sQ sR))) (aG bD O O (iE.cell (i:=0) O O))<|AT 9 O OE (fun w hS=>ah (hS.sl (i:=0) O) bD aO O O J)<|AT 10 O OE (fun w hS=>aG bx O O ((hS.sl (i:=0) O).cell _ _ (asy J)))<|A1 11<|ye O aD O (FU _ _ _ _ _ _ _ _ _ _ _ _ J J ⟨J,Int.ofNat_le.2 htl⟩ _ (fun x hx=>(hI x (hb.sub x hx)).mono fun e he=>mT he) hb.ok HB CH iE) (aM call92 O O) (fun u w' ⟨_,_,_,_,_,_,_,h⟩=>h.sub (sQ (sQ (sQ sR))))<| ?_
  rintro _ QT ⟨rfl,v15,c16,u17,e18,aaD,auo,fJ⟩
  rw[eC,e2]at aaD
  rw[eC]at auo
  rw[eC,e2]at fJ
  refine AD<|ai<|SR<|aE BI<|aH O fJ (lQ _ _ _ _ _ _ J _ (fJ.blk (i:=0) O) (fJ.yR (i:=1) O aaD)) (ay call89 O)<|fun QV eM=>mI rfl<|V (aN O O)<|aa<|aF O (fun Jc=> ?_) (fun Jc=> ?_)
  .refine au<|aE BI<|V (af O)<|V (fA ix 3 O aO O)<|lI bx eM 0 O O rfl<|have aup:((leads c3:Nat):Int)=(leads cl:Int)-1:=J;V (eO O O J)<|V (af O)<|V (fA ix 3 O aO O)<|bk eM (i:=0) O (bM O O (v:=I _) O O O (eM.blk (i:=0) O) aJ)<|fun Wx dK=>aa<|au<|aE BI<|aE BI<|V (af O)<|V (fA ix 2 O dH O)<|lV bD dK 0 O O rfl<|aE Kr<|V (p5 (dK.sl (i:=3) O) bD aO O O J)<|have iJ:=dK.anh (i:=3) O (m:=tn2.length) aJ;?_
   rw[VH]at iJ
   refine V (af O)<|V (fA ix 2 O dH O)<|bk iJ (i:=0) O (bM O O (aK (uL t1) hkn) (a6 (iJ.get (i:=3) O)).1 (a6 (iJ.get (i:=3) O)).2 (iJ.blk (i:=0) O) aJ)<|fun w29 iW=>aa<|au<|aE Kr<|V (eO O O J)<|aI rfl<|aa<| ?_
   refine⟨((bE nd2),(mv.take t),tn2,(c3::cs2),c16,v15,e18,u17,(uL t1 tn2.length)),?_,fr3.u4.u4.u4.u4.u4.u4.u4.u4.u4.u4.u1.u1,(Hp.conv iW (by(simp only[Ya];rw[aup];rfl))),(aK I J),?_,?_,?_,J⟩
   ·(simp only[fw];omega)
   .exact hb.next e2
   .exact aaD
   exact auo
  refine au<|aE BI<|V (af O)<|V (fA ix 3 O aO O)<|lI bx eM 0 O O rfl<|have aup:((leads c3:Nat):Int)=(leads cl:Int)+1:=J;V (ax O O J)<|V (af O)<|V (fA ix 3 O aO O)<|bk eM (i:=0) O (bM O O (v:=I _) O O O (eM.blk (i:=0) O) aJ)<|fun w31 iC=>aa<|au<|aE BI<|aE BI<|V (af O)<|V (fA ix 2 O dH O)<|lV bD iC 0 O O rfl<|aE Kr<|V (p5 (iC.sl (i:=3) O) bD aO O O J)<|have ko:=iC.anh (i:=3) O (m:=tn2.length) aJ;?_
  rw[VH]at ko
  refine V (af O)<|V (fA ix 2 O dH O)<|bk ko (i:=0) O (bM O O (aK (uL t1) hkn) (a6 (ko.get (i:=3) O)).1 (a6 (ko.get (i:=3) O)).2 (ko.blk (i:=0) O) aJ)<|fun w34 uW=>aa<|au<|aE Kr<|V (eO O O J)<|aI rfl<|aa<| ?_
  refine⟨((bE nd2),(mv.take t),tn2,(c3::cs2),c16,v15,e18,u17,(uL t1 tn2.length)),?_,fr3.u4.u4.u4.u4.u4.u4.u4.u4.u4.u4.u1.u1,(Hp.conv uW (by(simp only[Ya];rw[aup];rfl))),(aK I J),?_,?_,?_,J⟩
  ·(simp only[fw];omega)
  .exact hb.next e2
  .exact aaD
  exact auo
 refine a8 (id:=0) rfl<|SR<|va (v:=B true) rfl<|aa<|aj<|jA O (v:=B true) O (.inr ⟨rfl,J,v1,c1,u1,c2,t1,W1,mv,JJ,FG,hb,J,HB,CH,tZ⟩)
section
variable{w0 w:World}{L:List bu}{F m:Nat}{cs:List (List Nat)}{vW vU vT:Value}{cW cU:Option (Nat×Array Value)}{W:List (BitVec 64)}{ul:List (Value×jS)}{ts:List Int}{cn:Int}{nA nB nC nD nE nF nG nH nI nJ nK nL:Value}
theorem acI(h:xn FX F m cs vW vU cW cU W ul ts cn L)(hm:m<=100000)(hb:w.heap[F]?=some (.cells #[nA,nB,nC,nD,nE,nF,nG,nH,vW,vU,vT,I cn,nI,nJ,nK,nL] 111 (0,0)))(hW:Sl w vW 1 W.length (W.map U)):Calls Tryz.prog 123 #[.pointer (some ⟨F,8,none⟩)] w (Pure (I (leads (bB cs):Nat)) w):=by
 have W5:=h.cn
 subst W5
 exact BU F vW vU vT _ _ w hb hW
end
section
variable{w0 w:World}{L:List bu}{F m:Nat}{cs:List (List Nat)}{vW vU vT:Value}{cW cU:Option (Nat×Array Value)}{W:List (BitVec 64)}{ul:List (Value×jS)}{ts:List Int}{cn:Int}{nA nB nC nD nE nF nG nH nI nJ nK nL:Value}
theorem FV(i:Int)(h:xn FX F m cs vW vU cW cU W ul ts cn L)(hm:m<=100000)(hb:w.heap[F]?=some (.cells #[nA,nB,nC,nD,nE,nF,nG,nH,vW,vU,vT,I cn,nI,nJ,nK,nL] 111 (0,0)))(hW:Sl w vW 1 W.length (W.map U)):Calls Tryz.prog 128 #[.pointer (some ⟨F,8,none⟩),I i] w (Pure (I (fN (bB cs) i)) w):=by
 obtain⟨nd,cl,A7,rfl,rfl,h2,h3,h4,h5,h6⟩:=h.now
 exact Dq F vW vU vT _ nd cl i J h2 w hb hW
end
section
variable{w0 w:World}{L:List bu}{F m:Nat}{cs:List (List Nat)}{vW vU vT:Value}{cW cU:Option (Nat×Array Value)}{W:List (BitVec 64)}{ul:List (Value×jS)}{ts:List Int}{cn:Int}{nA nB nC nD nE nF nG nH nI nJ nK nL:Value}
theorem acJ(i:Int)(h:xn FX F m cs vW vU cW cU W ul ts cn L)(hm:m<=100000)(hb:w.heap[F]?=some (.cells #[nA,nB,nC,nD,nE,nF,nG,nH,vW,vU,vT,I cn,nI,nJ,nK,nL] 111 (0,0)))(hW:Sl w vW 1 W.length (W.map U)):Calls Tryz.prog 129 #[.pointer (some ⟨F,8,none⟩),I i] w (sZ 3 1 (bP (bB cs) i).length ((bP (bB cs) i).map I) w):=by
 obtain⟨nd,cl,A7,rfl,rfl,h2,h3,h4,h5,h6⟩:=h.now
 exact BV F vW vU vT _ nd cl i J h2 w hb hW
end
section
variable{w0 w:World}{L:List bu}{F m:Nat}{cs:List (List Nat)}{vW vU vT:Value}{cW cU:Option (Nat×Array Value)}{W:List (BitVec 64)}{ul:List (Value×jS)}{ts:List Int}{cn:Int}{nA nB nC nD nE nF nG nH nI nJ nK nL:Value}
theorem akG(h:xn FX F m cs vW vU cW cU W ul ts cn L)(hm:m<=100000)(hb:w.heap[F]?=some (.cells #[nA,nB,nC,nD,nE,nF,nG,nH,vW,vU,vT,I cn,nI,nJ,nK,nL] 111 (0,0)))(hW:Sl w vW 1 W.length (W.map U))(hT:Sl w vT 1 ts.length (ts.map I)):Calls Tryz.prog 46 #[.pointer (some ⟨F,8,none⟩)] w (Pure (I ((cs.length:Int)-1)) w):=by
 obtain⟨nd,cl,A7,rfl,rfl,h2,h3,h4,h5,h6⟩:=h.now
 have:=Dp F vW vU vT _ _ ts w hb hW hT
 rwa[show((ts.length:Nat):Int)=((cl::A7).length:Int)-1 by omega]at this
end
section
variable{w0 w:World}{L:List bu}{F m:Nat}{cs:List (List Nat)}{vW vU vT:Value}{cW cU:Option (Nat×Array Value)}{W:List (BitVec 64)}{ul:List (Value×jS)}{ts:List Int}{cn:Int}{nA nB nC nD nE nF nG nH nI nJ nK nL:Value}
theorem azC(h:xn FX F m cs vW vU cW cU W ul ts cn L)(hm:m<=100000){R:List bu}(hH:Hp w0 w (.blk F (.cells #[nA,nB,nC,nD,nE,nF,nG,nH,vW,vU,vT,I (cn),nI,nJ,nK,nL] 111 (0,0))::cE cW vW 35 ((W).map U)::cE cU vU 1 ((ul).map Prod.fst):: .row vT 3 1 (ts).length ((ts).map I)::(R++L))):Calls Tryz.prog 47 #[.pointer (some ⟨F,8,none⟩)] w (jY fun u w'=>u=I (bB cs).length/\∃(OF OG Xr:Value) (Q6 Q7:Option (Nat×Array Value)) (W':List (BitVec 64)) (zn:List (Value×jS)) (ts':List Int) (Q8:Int) (Lb:List bu),xn FX F (m+1) (SX cs) OF OG Q6 Q7 W' zn ts' Q8 (Lb++L)/\Hp w0 w' (.blk F (.cells #[nA,nB,nC,nD,nE,nF,nG,nH,OF,OG,Xr,I (Q8),nI,nJ,nK,nL] 111 (0,0))::cE Q6 OF 35 ((W').map U)::cE Q7 OG 1 ((zn).map Prod.fst):: .row Xr 3 1 (ts').length ((ts').map I)::(Lb++(R++L)))):=by
 obtain⟨tn,rfl,i⟩:=h.fo
 have W5:=h.cn
 subst W5
 obtain⟨nd,cl,A7,rfl,rfl,h2,h3,h4,h5,h6⟩:=i.now
 have l1:=i.lu;have l2:=i.lt
 refine(Ej w0 F vW vU vT _ cW cU nd ul (Kc tn) (R++L) J J (by rw[xm];omega) afS w i.hW i.hU hH).mono fun e w' hr=>jY.mono ?_ hr
 rintro u w' ⟨rfl,v1,c1,u1,c2,t1,mv,Ks,k1,k2,k3,k4,k5,hh⟩
 have e5:(leads (bB (SX (cl::A7))):Nat)=leads cl+1:=by rw[<-Qk h2,h3];rfl
 have e6:((leads (bB (cl::A7)):Nat):Int)+1=((leads (bB (SX (cl::A7))):Nat):Int):=by rw[e5];rfl
 have e7:(Kc tn++[(ul.length:Int)])=Kc (ul.length::tn):=(GL ..).symm
 rw[e6,e7]at hh
 refine⟨by rw[h3];rfl,v1,u1,t1,c1,c2,bE (nd++[rS nd.length]),mv,Kc (ul.length::tn),_,Ks,⟨⟨ul.length::tn,rfl,k1,k2,?_,?_,?_,?_,?_⟩,rfl⟩,hh⟩
 .have e1:=amW (W:=bE nd) (us:=ul.map Prod.snd) (a:=BitVec.ofNat 64 nd.length) (b:=BitVec.ofNat 64 1) (c:=BitVec.ofNat 64 nd.length) (d:=BitVec.ofNat 64 nd.length)
  have e2:bE (nd++[rS nd.length])=bE nd++[BitVec.ofNat 64 nd.length]++[BitVec.ofNat 64 1]++[BitVec.ofNat 64 nd.length]++[BitVec.ofNat 64 nd.length]:=by rw[qw];simp[F7,rS]
  rw[<-e2]at e1
  have h:=Hs.more (jV:=cl++[nd.length]) i.hs O h2.add (.inl ⟨aJ,Qk h2⟩) e1.1 e1.2.1 e1.2.2
  rw[gF]at h
  rw[k3]
  show Hs _ _ _ ((cl++[cl.length])::cl::A7)
  rw[<-h3];exact h
 .have e2:bE (nd++[rS nd.length])=bE nd++[BitVec.ofNat 64 nd.length]++[BitVec.ofNat 64 1]++[BitVec.ofNat 64 nd.length]++[BitVec.ofNat 64 nd.length]:=by rw[qw];simp[F7,rS]
  rw[k3,e2];exact amX i.ok
 .intro x hx
  rw[<-HI ul.length mv,k4]at hx
  rcases e8.1 hx with q|q
  .exact(i.un x q).mono fun e he=>bH _ he
  exact(k5 x q).mono fun e he=>dL _ he
 .have:=aK List.length k3;simp[O7]at this;omega
 simp;omega
end
section
variable{w0 w:World}{L:List bu}{F m:Nat}{cs:List (List Nat)}{vW vU vT:Value}{cW cU:Option (Nat×Array Value)}{W:List (BitVec 64)}{ul:List (Value×jS)}{ts:List Int}{cn:Int}{nA nB nC nD nE nF nG nH nI nJ nK nL:Value}
theorem aov(i j:Int)(h:xn FX F m cs vW vU cW cU W ul ts cn L)(hm:m<=100000){R:List bu}(hH:Hp w0 w (.blk F (.cells #[nA,nB,nC,nD,nE,nF,nG,nH,vW,vU,vT,I (cn),nI,nJ,nK,nL] 111 (0,0))::cE cW vW 35 ((W).map U)::cE cU vU 1 ((ul).map Prod.fst):: .row vT 3 1 (ts).length ((ts).map I)::(R++L))):Calls Tryz.prog 156 #[.pointer (some ⟨F,8,none⟩),I i,I j] w (jY fun u w'=>u=B (jy cs i j).2/\∃(OF OG Xr:Value) (Q6 Q7:Option (Nat×Array Value)) (W':List (BitVec 64)) (zn:List (Value×jS)) (ts':List Int) (Q8:Int) (Lb:List bu),xn FX F (m+(if(jy cs i j).2 then 1 else 0)) ((jy cs i j).1) OF OG Q6 Q7 W' zn ts' Q8 (Lb++L)/\Hp w0 w' (.blk F (.cells #[nA,nB,nC,nD,nE,nF,nG,nH,OF,OG,Xr,I (Q8),nI,nJ,nK,nL] 111 (0,0))::cE Q6 OF 35 ((W').map U)::cE Q7 OG 1 ((zn).map Prod.fst):: .row Xr 3 1 (ts').length ((ts').map I)::(Lb++(R++L)))):=by
 obtain⟨tn,rfl,k⟩:=h.fo
 have W5:=h.cn
 subst W5
 obtain⟨nd,cl,A7,rfl,rfl,h2,h3,h4,h5,h6⟩:=k.now
 have l1:=k.lu;have l2:=k.lt
 refine(BW w0 F vW vU vT _ cW cU nd ul (Kc tn) (R++L) cl i j J J (by rw[xm];omega) afS h2 w k.hW k.hU hH).mono fun e w' hr=>jY.mono ?_ hr
 rintro u w' (⟨rfl,no,hh⟩|⟨rfl,a,b,p,v1,c1,u1,c2,t1,mv,Ks,k1,k2,la,k4,k6,k5,hh⟩)
 .rw[Nk (cs:=cl::A7) (by show¬IZ cl.length cl i j;rw[<-h3];exact no)]
  exact⟨rfl,vW,vU,vT,cW,cU,bE nd,ul,Kc tn,_,[],h,hh⟩
 rw[I1 (cs:=cl::A7) (by have:=p.ok;show IZ cl.length cl i j;rw[<-h3];exact this)]
 obtain⟨f1,f2⟩:=axj h2 p
 have e5:((leads (bB (cl::A7)):Nat):Int)-1=((leads (bB (iI cl (cm cl i.toNat) (cm cl j.toNat)::cl::A7)):Nat):Int):=by
  have e1:leads (bB (cl::A7))=leads cl:=rfl
  have e2:leads (bB (iI cl (cm cl i.toNat) (cm cl j.toNat)::cl::A7))=leads (iI cl (cm cl i.toNat) (cm cl j.toNat)):=rfl
  omega
 have e7:(Kc tn++[(ul.length:Int)])=Kc (ul.length::tn):=(GL ..).symm
 rw[e5,e7]at hh
 refine⟨rfl,v1,u1,t1,c1,c2,bE (pL nd a b),mv,Kc (ul.length::tn),_,Ks,⟨⟨ul.length::tn,rfl,k1,k2,?_,la.ok k.ok,?_,?_,?_⟩,rfl⟩,hh⟩
 .have h:=Hs.more (jV:=iI cl (cm cl i.toNat) (cm cl j.toNat)) k.hs O f1 (.inr ⟨I0,f2⟩) la.back.1 la.back.2 la.le
  rw[gF]at h;exact h
 .intro x hx
  rw[<-HI ul.length mv,k4]at hx
  rcases e8.1 hx with q|q
  .exact(k.un x q).mono fun e he=>bH _ he
  exact(k5 x q).mono fun e he=>dL _ he
 .show mv.length<=5*(m+1);omega
 show(ul.length::tn).length<=m+1;simp;omega
end
section
variable{w0 w:World}{L:List bu}{F m:Nat}{cs:List (List Nat)}{vW vU vT:Value}{cW cU:Option (Nat×Array Value)}{W:List (BitVec 64)}{ul:List (Value×jS)}{ts:List Int}{cn:Int}{nA nB nC nD nE nF nG nH nI nJ nK nL:Value}
theorem auq(i:Int)(h:xn FX F m cs vW vU cW cU W ul ts cn L)(hm:m<=100000){R:List bu}(hH:Hp w0 w (.blk F (.cells #[nA,nB,nC,nD,nE,nF,nG,nH,vW,vU,vT,I (cn),nI,nJ,nK,nL] 111 (0,0))::cE cW vW 35 ((W).map U)::cE cU vU 1 ((ul).map Prod.fst):: .row vT 3 1 (ts).length ((ts).map I)::(R++L))):Calls Tryz.prog 49 #[.pointer (some ⟨F,8,none⟩),I i] w (jY fun u w'=>u=B (CK cs i).2/\∃(OF OG Xr:Value) (Q6 Q7:Option (Nat×Array Value)) (W':List (BitVec 64)) (zn:List (Value×jS)) (ts':List Int) (Q8:Int) (Lb:List bu),xn FX F (m) ((CK cs i).1) OF OG Q6 Q7 W' zn ts' Q8 (Lb++L)/\Hp w0 w' (.blk F (.cells #[nA,nB,nC,nD,nE,nF,nG,nH,OF,OG,Xr,I (Q8),nI,nJ,nK,nL] 111 (0,0))::cE Q6 OF 35 ((W').map U)::cE Q7 OG 1 ((zn).map Prod.fst):: .row Xr 3 1 (ts').length ((ts').map I)::(Lb++(R++L)))):=by
 obtain⟨tn,rfl,k⟩:=h.fo
 have W5:=h.cn
 subst W5
 obtain⟨nd,cl,A7,rfl,rfl,h2,h3,h4,h5,h6⟩:=k.now
 have l1:=k.lu;have l2:=k.lt
 rw[xm]at hH
 refine(Dt w0 F vW vU vT _ cW cU (bE nd) ul tn (cl::A7) (R++L) i J J k.hs k.ok (fun x hx=>(k.un x hx).mono fun e he=>bH _ he) O w k.hW k.hU hH).mono fun e w' hr=>jY.mono ?_ hr
 rintro u w' (⟨rfl,no,hh⟩|⟨rfl,yes,v1,c1,u1,c2,t1,W1,mv,JJ,FG,hb,htn,k1,k2,hh⟩)
 .rw[show CK (cl::A7) i=(cl::A7,false)from aX J]
  rw[<-xm]at hh
  exact⟨rfl,vW,vU,vT,cW,cU,bE nd,ul,Kc tn,_,[],h,hh⟩
 rw[show CK (cl::A7) i=((cl::A7).drop ((cl::A7).length-1-(max 0 i).toNat),true)from aT J]
 have e1:FG=(cl::A7).drop ((cl::A7).length-1-(max 0 i).toNat):=by rw[hb.cs];congr 1;omega
 rw[<-e1]
 have q1:=hb.le;have q2:=hb.tn
 rw[<-xm]at hh
 exact⟨rfl,v1,u1,t1,c1,c2,W1,mv,Kc JJ,_,[],⟨⟨JJ,rfl,k1,k2,hb.hs,hb.ok,fun x hx=>k.un x (hb.sub x hx),J,J⟩,rfl⟩,hh⟩
end
end
end Go.Proofs.YtlhjdflgjbkpmaaGreatDoor.W

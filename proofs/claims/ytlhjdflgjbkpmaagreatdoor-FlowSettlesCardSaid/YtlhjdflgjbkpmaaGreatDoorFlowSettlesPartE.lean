/- Part 5 of the proof of FlowSettles: its plain laws and the walks of its functions. -/
import Derived.Test.YtlhjdflgjbkpmaaGreatDoorFlowSettlesPartD
set_option linter.all false
namespace Go.Proofs.YtlhjdflgjbkpmaaGreatDoor.W
section
open Go Go.RowKit Go.Proofs.YtlhjdflgjbkpmaaGreatDoor.E Go.Proofs.YtlhjdflgjbkpmaaGreatDoor.M
set_option maxRecDepth 100000
open Go.Proofs.Tryz
variable{fr:List bu}
set_option maxHeartbeats 1000000 in
theorem AS(s:mv)(x:iU)(w:World)(hs:DX (Kw w) s)(hx:JZ (Kw w) x):Calls Tryz.prog 35 #[.agg (Ss s),.agg (vP x).toArray] w (Pure (B (kM s x)) w):=by
 have BY:=hs.aq.sl.small
 have J4:=hs.vars.sl.small
 unfold maxLen at BY J4
 have hm3:=hx.code.small
 unfold maxLen at hm3
 refine eH func35 rfl rfl fun hH=>SR<|gM hH (v:= .agg _) rfl<|fun b3 w1 bp=>gM bp (v:= .agg _) rfl<|fun b6 w4 bY=>va (v:=B false) rfl<|aa<|ai<|SR<|V (fA fJ 0 O aO O)<|lI bx bY 0 O O rfl<|V (bU O O)<|aa<|aF O (fun h8=> ?_) (fun h8=> ?_)
 .refine SR<|V (cF (cs:=DY _) gH O O O (bj (bY.blk (i:=1) O)))<|V (fA fJ 16 O aO O)<|lI bx bY 0 O O rfl<|V (fA fJ 1 O aO O)<|lI bx bY 0 O O rfl<|aH O bY (kI _ _ _ _ _ (hs.mono bY.kw)) (jE call76 O O (show _=I 2 from O) O)<|fun w9 cg=>mB rfl<|eF 16 O (fun h12=> ?_) (fun h12=> ?_)
  .refine V (fA fJ 17 O ko O)<|V (aG iy O O (cg.cell (i:=0) O (v:= .string _) O))<|aH O cg (iK _ _) (ay call74 O)<|fun C0 cG=>mB rfl<|aB rfl<|aa<|aj<|oB O ?_ cG
   (rw[ahD ‹x.op=10›,‹q9 s x.var 2 x.a8=true›,mG];done)
  refine aE (v:=B false) rfl<|aB rfl<|aa<|aj<|oB O ?_ cg
  (rw[ahD ‹x.op=10›,‹q9 s x.var 2 x.a8=false›,qV];done)
 refine an<|ai<|SR<|V (fA fJ 1 O aO O)<|lI bx bY 0 O O rfl<|V (aN O O)<|mB rfl<|bM 24 O (fun G5=> ?_) (fun G5=> ?_)
 .refine aE (v:=B true) rfl<|aa<|cA rfl<|SR<|va (v:=B false) rfl<|aa<|aj<|oB O ?_ bY
  (rw[ahE J J];done)
 refine V (fA fJ 1 O aO O)<|lI bx bY 0 O O rfl<|V (fA gH 0 O nN O)<|V (bZ (hs.aq.sl.hp bY) iP O O (bY.cell (i:=1) O O))<|V (aC (hs.aq.sl.hp bY) O iP O)<|V (dF O O)<|mB rfl<|aa<|aF O (fun NT=> ?_) (fun NT=> ?_)
 .refine SR<|va (v:=B false) rfl<|aa<|aj<|oB O ?_ bY
  (rw[ahE J J];done)
 refine an<|ai<|SR<|V (fA fJ 0 O aO O)<|lI bx bY 0 O O rfl<|V (bU O O)<|aa<|aF O (fun N2=> ?_) (fun N2=> ?_)
 .refine SR<|V (cF (cs:=DY _) gH O O O (bj (bY.blk (i:=1) O)))<|V (fA fJ 1 O aO O)<|lI bx bY 0 O O rfl<|V (fA fJ 12 O HM O)<|V (ja (sub:=Sy _) p9 O O O (bY.blk (i:=0) O) (arU _))<|aH O bY (rO _ _ _ J _ (hs.mono bY.kw) (hx.a.mono bY.kw)) (bz call77 O O O)<|fun QJ eM=>mB rfl<|eF 41 O (fun I6=> ?_) (fun I6=> ?_)
  .refine V (cF (cs:=DY _) gH O O O (bj (eM.blk (i:=1) O)))<|V (fA fJ 1 O aO O)<|lI bx eM 0 O O rfl<|V (fA fJ 14 O HM O)<|V (ja (sub:=Sy _) p9 O O O (eM.blk (i:=0) O) (arV _))<|aH O eM (rO _ _ _ J _ (hs.mono eM.kw) (hx.b.mono eM.kw)) (bz call77 O O O)<|fun Wv dK=>mB rfl<|aB rfl<|aa<|aj<|oB O ?_ dK
   (rw[apj ‹x.op=9› (show 0<=x.a8/\x.a8<s.aq.length by omega),‹vS s x.a8 x.a=true›,mG];done)
  refine aE (v:=B false) rfl<|aB rfl<|aa<|aj<|oB O ?_ eM
  (rw[apj ‹x.op=9› (show 0<=x.a8/\x.a8<s.aq.length by omega),‹vS s x.a8 x.a=false›,qV];done)
 refine an<|ai<|SR<|V (fA fJ 0 O aO O)<|lI bx bY 0 O O rfl<|V (kG O O)<|mB rfl<|bM 52 O (fun Pb=> ?_) (fun Pb=> ?_)
 .refine aE (v:=B true) rfl<|mB rfl<|cC O rfl<|aE (v:=B true) rfl<|aa<|cA rfl<|SR<|va (v:=B false) rfl<|aa<|aj<|oB O ?_ bY
  (rw[awR J J J];done)
 refine V (fA fJ 2 O xV O)<|V (bZ (hx.code.sl.hp bY) ia O O (bY.cell (i:=0) O O))<|aH O bY (rN _ _ _ (hx.code.sl.hp bY)) (ay call78 O)<|fun w31 iC=>V (bJ O)<|mB rfl<|mB rfl<|eF 58 O (fun BI=> ?_) (fun BI=> ?_)
 .refine aE (v:=B true) rfl<|aa<|cA rfl<|SR<|va (v:=B false) rfl<|aa<|aj<|oB O ?_ iC
  (rw[P8 (show x.op=8 by omega) (show 0<=x.a8/\x.a8<s.aq.length by omega),ahB (nt ‹(!fU _)=true›),qV];done)
 refine V (cF (cs:=DY _) gH O O O (bj (iC.blk (i:=1) O)))<|V (fA fJ 1 O aO O)<|lI bx iC 0 O O rfl<|V (fA fJ 3 O kO O)<|V (ja (sub:=jG _) kK O O O (iC.blk (i:=0) O) (abq _))<|aH O iC (mo _ _ _ J _ (hs.mono iC.kw)) (bz call79 O O O)<|fun w36 uy=>V (bJ O)<|mB rfl<|aa<|bW O (fun h40=> ?_) (fun h40=> ?_)
 .refine SR<|va (v:=B false) rfl<|aa<|aj<|oB O ?_ uy
  (rw[P8 (show x.op=8 by omega) (show 0<=x.a8/\x.a8<s.aq.length by omega),nt ‹(!mc s x.a8 x.to)=true›,K8];done)
 refine an<|ai<|SR<|va (v:=I 0) rfl<|aa<|aA<|bt (G:=Int) (fun k s' w'=>(Fr (rg 4 3 (rg 67 42 [])) _ s')/\(Hp w w' _)/\(s' 5=I k)/\(0<=k)/\(k<=x.code.length)/\(∀j:Int,0<=j->j<k->vV s x.a8 (x.code.getD j.toNat bG)=true)) (fun k=>(x.code.length-k).toNat) (0) ⟨Fr.refl _ _,uy,rfl,J,J,fun j a b=>absurd b J⟩<| ?_
 rintro k aEX w41 ⟨WL,jS,EK,h0,hk,hg⟩
 obtain⟨aj2,Of⟩:=WL.w2 2 3
 refine ai<|SR<|aE EK<|V (fA fJ 2 O xV Of)<|V (bZ (hx.code.sl.hp jS) ia O O (jS.cell (i:=0) O O))<|V (aC (hx.code.sl.hp jS) O ia O)<|V (aN O O)<|aa<|aF O (fun h43=> ?_) (fun h43=> ?_)
 .refine an<|ai<|aA<|SR<|V (fA fJ 2 O xV Of)<|V (bZ (hx.code.sl.hp jS) ia O O (jS.cell (i:=0) O O))<|aE EK<|V (ah (hx.code.sl.hp jS) ia pg O O J)<|V (dY (dv:=bG) gO (hx.code.sl.hp jS) dX O O O J)<|lJ jS (aS yX)<|fun b46 w44 rZ=>bg rZ (i:=0) O (dO (c':=(j9 _).toArray) O O O (vR _) (rZ.blk (i:=0) O) O)<|fun w47 kC=>aa<|ai<|ec aP kC<|fun w49 eL=>have aas:=eL;AQ 0 O aas (fA dX 0 O aO O)<|tI 1 O aas bx 0 O O rfl<|AQ 2 O aas (bU O O)<|AQ 3 O aas (mV (B _) O)<|Cs (dj:=82) O (fun WN=> ?_) (fun WN=> ?_)
  .refine AG 4 O O (bT WN) eL (fun w hS=>cF (cs:=DY _) gH O O aj2 (bj (hS.blk (i:=2) O)))<|BQ 5 O O (bT WN) eL (fA dX 1 O aO O)<|AG 6 O O (bT WN) eL (fun w hS=>aG bx O O (hS.cell (i:=0) O (v:=I _) O))<|BQ 7 O O (bT WN) eL (fA fJ 1 O aO Of)<|AG 8 O O (bT WN) eL (fun w hS=>aG bx O O (hS.cell (i:=1) O (v:=I _) O))<|A1 9<|ct O (A3 O (bT WN)) O eL sR (kI _ _ _ _ _ (hs.mono eL.kw)) (jE call76 O O (show _=I 1 from O) O)<|fun w53 gQ=>BQ 10 O O (bT WN) gQ (bJ O)<|have aob:=gQ;AQ 11 O aob (gL (bT WN) (v:=B _) O)<|AQ 12 O aob (mV (B _) O)<|LR (dj:=91) O (fun Pm=> ?_) (fun Pm=> ?_)
   .refine AK 13 O O (bR (c:=true) Pm) gQ<|AK 14 O O (bR (c:=true) Pm) gQ<|AK 15 O O (bR (c:=true) Pm) gQ<|AK 16 O O (bR (c:=true) Pm) gQ<|AU 17 O O O gQ<|AU 18 O O O gQ<|AU 19 O O O gQ<|AU 20 O O O gQ<|AU 21 O O O gQ<|AU 22 O O O gQ<|AU 23 O O O gQ<|AU 24 O O O gQ<|AU 25 O O O gQ<|AU 26 O O O gQ<|AU 27 O O O gQ<|AK 28 O O (bR (c:=true) Pm) gQ<|AQ 29 O aob (gL (bR (c:=true) Pm) (v:=B true) O)<|AD<|cA rfl<|SR<|va (v:=B false) rfl<|aa<|aj<|oB O ?_ gQ
    (rw[P8 (show x.op=8 by omega) (show 0<=x.a8/\x.a8<s.aq.length by omega),MV h0 ‹k<_› (amG ‹(List.getD x.code _ _).op=1› (nt ‹(!q9 s _ 1 x.a8)=true›)),qV];done)
   refine BQ 13 O O (bR (c:=false) Pm) gQ (fA dX 0 O aO O)<|AG 14 O O (bR (c:=false) Pm) gQ (fun w hS=>aG bx O O (hS.cell (i:=0) O (v:=I _) O))<|BQ 15 O O (bR (c:=false) Pm) gQ (bU O O)<|BQ 16 O O (bR (c:=false) Pm) gQ (mV (B _) O)<|Cs (dj:=95) O (fun Kg=> ?_) (fun Kg=> ?_)
   .refine BQ 17 O O (bT Kg) gQ (fA gH 0 O nN aj2)<|AG 18 O O (bT Kg) gQ (fun w hS=>bZ (hs.aq.sl.hp hS) iP O O (hS.cell (i:=2) O O))<|BQ 19 O O (bT Kg) gQ (fA fJ 1 O aO Of)<|AG 20 O O (bT Kg) gQ (fun w hS=>aG bx O O (hS.cell (i:=1) O (v:=I _) O))<|AG 21 O O (bT Kg) gQ (fun w hS=>ah (hs.aq.sl.hp hS) iP vi O O J)<|BQ 22 O O (bT Kg) gQ (fA qY 1 O uo O)<|AG 23 O O (bT Kg) gQ (fun w hS=>kZ (dv:=lH) (off:=1) (cs:=wK _) m9 (hs.aq.sl.hp hS) dm O O O J (xg _))<|BQ 24 O O (bT Kg) gQ (fA dX 2 O fh O)<|AG 25 O O (bT Kg) gQ (fun w hS=>nr bI O O O (hS.blk (i:=0) O) (DM _))<|A1 26<|ct O (A3 O (bT Kg)) O gQ sR (nU _ _ _ ((hs.at J J).mono gQ.kw)) (aL call80 O O)<|fun w60 D9=>BQ 27 O O (bT Kg) D9 (bJ O)<|BQ 28 O O (bR (c:=false) Pm) D9 (gL (bT Kg) (v:=B _) O)<|have aE0:=D9;AQ 29 O aE0 (eo (bR (c:=false) Pm) (v:=B _) O)<|AD<|bW O (fun h64=> ?_) (fun h64=> ?_)
    .refine SR<|va (v:=B false) rfl<|aa<|aj<|oB O ?_ D9
     (rw[P8 (show x.op=8 by omega) (show 0<=x.a8/\x.a8<s.aq.length by omega),MV h0 ‹k<_› (abv ‹(List.getD x.code _ _).op=2› (nt ‹(!cJ _ _)=true›)),qV];done)
    refine an<|au<|aE EK<|V (ax O O J)<|aI rfl<|aa<| ?_
    refine⟨k+1,aW,WL.u4.u4.u4.u4.u4.u4.u4.u4.u4.u4.u4,(D9.sub (sQ sR)),(aK I aM),J,J,?_⟩
    exact fun j a b=>if e:j=k then e▸KT afI (by exact .inr (nf ‹(!cJ _ _)=false›))else hg j a J
   refine AK 17 O O (bF Kg) gQ<|AK 18 O O (bF Kg) gQ<|AK 19 O O (bF Kg) gQ<|AK 20 O O (bF Kg) gQ<|AK 21 O O (bF Kg) gQ<|AK 22 O O (bF Kg) gQ<|AK 23 O O (bF Kg) gQ<|AK 24 O O (bF Kg) gQ<|AK 25 O O (bF Kg) gQ<|AK 26 O O (bF Kg) gQ<|AK 27 O O (bF Kg) gQ<|BQ 28 O O (bR (c:=false) Pm) gQ (eo (bF Kg) (v:=B false) O)<|AQ 29 O aob (eo (bR (c:=false) Pm) (v:=B _) O)<|AD<|cQ rfl<|an<|au<|aE EK<|V (ax O O J)<|aI rfl<|aa<| ?_
   refine⟨k+1,aW,WL.u4.u4.u4.u4.u4.u4.u4.u4.u4.u4.u4,(gQ.sub (sQ sR)),(aK I aM),J,J,?_⟩
   exact fun j a b=>if e:j=k then e▸KT afI (by exact .inl ‹¬(List.getD x.code _ _).op=2›)else hg j a J
  refine AK 4 O O (bF WN) eL<|AK 5 O O (bF WN) eL<|AK 6 O O (bF WN) eL<|AK 7 O O (bF WN) eL<|AK 8 O O (bF WN) eL<|AK 9 O O (bF WN) eL<|AK 10 O O (bF WN) eL<|AQ 11 O aas (eo (bF WN) (v:=B false) O)<|AQ 12 O aas (mV (B _) O)<|BQ 13 O O O eL (fA dX 0 O aO O)<|AG 14 O O O eL (fun w hS=>aG bx O O (hS.cell (i:=0) O (v:=I _) O))<|BQ 15 O O O eL (bU O O)<|BQ 16 O O O eL (mV (B _) O)<|Cs (dj:=95) O (fun G9=> ?_) (fun G9=> ?_)
  .refine BQ 17 O O (bT G9) eL (fA gH 0 O nN aj2)<|AG 18 O O (bT G9) eL (fun w hS=>bZ (hs.aq.sl.hp hS) iP O O (hS.cell (i:=2) O O))<|BQ 19 O O (bT G9) eL (fA fJ 1 O aO Of)<|AG 20 O O (bT G9) eL (fun w hS=>aG bx O O (hS.cell (i:=1) O (v:=I _) O))<|AG 21 O O (bT G9) eL (fun w hS=>ah (hs.aq.sl.hp hS) iP vi O O J)<|BQ 22 O O (bT G9) eL (fA qY 1 O uo O)<|AG 23 O O (bT G9) eL (fun w hS=>kZ (dv:=lH) (off:=1) (cs:=wK _) m9 (hs.aq.sl.hp hS) dm O O O J (xg _))<|BQ 24 O O (bT G9) eL (fA dX 2 O fh O)<|AG 25 O O (bT G9) eL (fun w hS=>nr bI O O O (hS.blk (i:=0) O) (DM _))<|A1 26<|ct O (A3 O (bT G9)) O eL sR (nU _ _ _ ((hs.at J J).mono eL.kw)) (aL call80 O O)<|fun w67 kE=>BQ 27 O O (bT G9) kE (bJ O)<|BQ 28 O O O kE (gL (bT G9) (v:=B _) O)<|have Tw:=kE;AQ 29 O Tw (eo O (v:=B _) O)<|AD<|bW O (fun h71=> ?_) (fun h71=> ?_)
   .refine SR<|va (v:=B false) rfl<|aa<|aj<|oB O ?_ kE
    (rw[P8 (show x.op=8 by omega) (show 0<=x.a8/\x.a8<s.aq.length by omega),MV h0 ‹k<_› (abv ‹(List.getD x.code _ _).op=2› (nt ‹(!cJ _ _)=true›)),qV];done)
   refine an<|au<|aE EK<|V (ax O O J)<|aI rfl<|aa<| ?_
   refine⟨k+1,aW,WL.u4.u4.u4.u4.u4.u4.u4.u4.u4.u4.u4,(kE.sub (sQ sR)),(aK I aM),J,J,?_⟩
   exact fun j a b=>if e:j=k then e▸KT afM (by exact .inr (nf ‹(!cJ _ _)=false›))else hg j a J
  refine AK 17 O O (bF G9) eL<|AK 18 O O (bF G9) eL<|AK 19 O O (bF G9) eL<|AK 20 O O (bF G9) eL<|AK 21 O O (bF G9) eL<|AK 22 O O (bF G9) eL<|AK 23 O O (bF G9) eL<|AK 24 O O (bF G9) eL<|AK 25 O O (bF G9) eL<|AK 26 O O (bF G9) eL<|AK 27 O O (bF G9) eL<|BQ 28 O O O eL (eo (bF G9) (v:=B false) O)<|AQ 29 O aas (eo O (v:=B _) O)<|AD<|cQ rfl<|an<|au<|aE EK<|V (ax O O J)<|aI rfl<|aa<| ?_
  refine⟨k+1,aW,WL.u4.u4.u4.u4.u4.u4.u4.u4.u4.u4.u4,(eL.sub (sQ sR)),(aK I aM),J,J,?_⟩
  exact fun j a b=>if e:j=k then e▸KT afM (by exact .inl ‹¬(List.getD x.code _ _).op=2›)else hg j a J
 refine a7 (id:=0) rfl<|SR<|va (v:=B true) rfl<|aa<|aj<|oB O ?_ jS
 (rw[P8 (show x.op=8 by omega) (show 0<=x.a8/\x.a8<s.aq.length by omega),adP ‹¬k<_› hg (nf ‹(!fU _)=false›),nf ‹(!mc s x.a8 x.to)=false›];rfl)
theorem Dc(s:kP)(op:Int)(v:Value)(l:List El)(hne:1<=l.length)(w:World)(hs:Sl w v 8 l.length (l.flatMap pH))(hsh:k7 (Kw w) s)(hT:o3 w):Calls Tryz.prog 139 #[.agg (qJ s),I op,v] w (Pure (.agg (iM (pJ (J0 s.sh op) l))) w):=by
 have hm:=hs.small
 unfold maxLen at hm
 refine eH func139 rfl rfl fun hH=>SR<|gM hH (v:= .agg _) rfl<|fun b3 w1 bp=>lJ bp (aS e8)<|fun b6 w4 bY=>aa<|SR<| ?_
 refine V (run_move bA) ?_
 refine V (run_move bA) ?_
 refine V (aC (hs.hp bY) O bV O)<|V (eO O O J)<|V (ah (hs.hp bY) bV fh O O J)<|V (gy (hs.hp bY) bI O O O J)<|lJ bY (aS e8)<|fun b9 w7 eX=>bg eX (i:=0) O (cR O O O (eX.blk (i:=0) O))<|fun EB df=>aa<|ai<|SR<| ?_
 refine V (run_move bA) ?_
 refine V (aC (hs.hp df) O bV O)<|V (eO O O J)<|aI rfl<|aa<|aA<|bt (G:=Int×El) (fun⟨k,e1⟩ s' w'=>(Fr (8::(rg 18 19 [])) _ s')/\(Hp w w' (.blk b9 (.cells (iM e1) 37 (0,0))::_))/\(s' 8=I k)/\(-1<=k)/\(k<=(l.length:Int)-2)/\(e1=pJ (J0 s.sh op) (l.drop (k+1).toNat))) (fun⟨k,e1⟩=>(k+1).toNat) (((l.length:Int)-2,(l.getD ((l.length:Int)-1).toNat dg))) ⟨Fr.refl _ _,df,rfl,J,J,(by rw[show((l.length:Int)-2+1).toNat=l.length-1 by omega,MT (by intro h;rw[h]at hne;simp at hne)];congr 1;omega)⟩<| ?_
 rintro⟨k,e1⟩ Z4 y8 ⟨mi,cN,NW,h0,hk,he⟩
 obtain⟨o8,zc,kN,aql,WO⟩:=mi.w5 1 2 3 6 7
 refine ai<|SR<|aE NW<|V (dF O O)<|aa<|aF O (fun F4=> ?_) (fun F4=> ?_)
 .refine an<|ai<|aA<|ai<|SR<|aE o8<|V (bU O O)<|aa<|aF O (fun yj=> ?_) (fun yj=> ?_)
  .refine ai<|gD aP cN (sQ sR)<|fun Ti dP=>have qP:=dP.sub (sQ sR);AT 0 O qP (fun w hS=>cF (cs:=[B _,_]) dm O O kN (bj (hS.blk (i:=1) O)))<|AQ 1 O qP (run_move zc)<|AQ 2 O qP (run_move NW)<|AT 3 O qP (fun w hS=>ah (hs.hp hS) bV fh O O J)<|AT 4 O qP (fun w hS=>gy (hs.hp hS) bI O O O J)<|A1 5<|cf O aD O dP (sQ sR) (cM bI O O WO (dP.blk (i:=0) O))<|A1 6<|ct O aD O dP (sQ sR) (Tp _ _ _ _ (hsh.mono dP.kw) (hT.hp dP)) (bz call170 O O O)<|fun NL cD=>A1 7<|ed O aD cD (j:=0) O (sQ sR) (cR O WO O (cD.blk (i:=0) O))<|fun w25 jf=>AD<|a7 (id:=1) rfl<|au<|aE NW<|V (eO O O J)<|aI rfl<|aa<| ?_
   refine⟨(k-1,_),aW,mi.u4.u4.u4.u1.u1,jf,(aK I aM),J,J,?_⟩
   (rw[show(k-1+1).toNat=k.toNat by omega,KR J J,<-he];exact aph ‹op=3›)
  refine an<|gD aP cN (sQ sR)<|fun w27 iJ=>have Z0:=iJ.sub (sQ sR);AQ 0 O Z0 (run_move zc)<|AQ 1 O Z0 (run_move NW)<|AT 2 O Z0 (fun w hS=>ah (hs.hp hS) bV fh O O J)<|AT 3 O Z0 (fun w hS=>gy (hs.hp hS) bI O O O J)<|A1 4<|cf O aD O iJ (sQ sR) (cM bI O O WO (iJ.blk (i:=0) O))<|A1 5<|ct O aD O iJ (sQ sR) (Tq _ _ _) (aL call171 O O)<|fun w31 iC=>A1 6<|ed O aD iC (j:=0) O (sQ sR) (cR O WO O (iC.blk (i:=0) O))<|fun w35 j4=>AD<|au<|aE NW<|V (eO O O J)<|aI rfl<|aa<| ?_
  refine⟨(k-1,_),aW,mi.u4.u4.u4.u1,j4,(aK I aM),J,J,?_⟩
  (rw[show(k-1+1).toNat=k.toNat by omega,KR J J,<-he];exact api ‹¬op=3›)
 refine a7 (id:=0) rfl<|SR<|V (cM bI O O WO (cN.blk (i:=0) O))<|bg cN (i:=1) O (cR O aql O (cN.blk (i:=1) O))<|fun w37 uz=>aa<|aj<|rz O aql uz (i:=1) O bI O jI ⟨?_,uz.below⟩
 (exact aK Value.agg (l6 (by rw[he,show(k+1).toNat=0 by omega];exact fun _ _=>rfl)))
set_option maxHeartbeats 1000000 in
theorem WQ(s:kP)(v:Value)(l:List dU)(u:Value)(vs:List El)(hl:l.length<=1000)(w:World)(hs:Sl w v 10 l.length (l.flatMap j9))(ht:Sl w u 8 vs.length (vs.flatMap pH))(hsh:k7 (Kw w) s)(hT:o3 w):Calls Tryz.prog 96 #[.agg (qJ s),v,u] w (Pure (.tuple #[.agg (iM (ey s.sh l vs).1),B (ey s.sh l vs).2]) w):=by
 have hm:=hs.small
 unfold maxLen at hm
 have J4:=ht.small
 unfold maxLen at J4
 refine eH func96 rfl rfl fun hH=>SR<|gM hH (v:= .agg _) rfl<|fun b3 w1 bp=>lJ bp (aS e8)<|fun b6 w4 bY=>va (v:=B false) rfl<|aa<|ai<|SR<| ?_
 refine V (run_move bA) ?_
 refine aH O bY (G7 _ _ _ (hs.hp bY)) (ay call103 O)<|fun w7 eX=>V (bJ O)<|aa<|bW O (fun h11=> ?_) (fun h11=> ?_)
 .refine SR<|V (dJ (vs:=[]) O (oP))<|bg eX (i:=0) O (cR O O O (eX.blk (i:=0) O))<|fun y8 bX=>va (v:=B false) rfl<|aa<|aj<|Ep O O O bX (i:=0) O bI O jI ⟨?_,bX.below⟩
  (rw[apg (nt ‹(!fU l)=true›)];rfl)
 refine an<|SR<|va (v:= .slice none 0 0) rfl<|have cG:=eX.eR 37 8;aa<|ai<|SR<| ?_
 refine V (run_move bA) ?_
 refine V (aC (hs.hp cG) O ia O)<|aE (v:=I 0) rfl<|aa<|aA<|have hr:fU l=true:=nf ‹(!fU l)=false›;bt (G:=Int×(List El)×Value) (fun⟨k,st,v8⟩ s' w'=>(Fr (7::8::(10::11::(rg 18 53 []))) _ s')/\(Hp w w' (.row v8 37 8 (st.length) (st.flatMap pH)::_))/\(s' 8=v8)/\(s' 18=I k)/\(0<=k)/\(k<=l.length)/\(ij s.sh vs l k=some st)/\(ju l k=some (st.length:Int))) (fun⟨k,st,v8⟩=>(l.length-k).toNat) ((0,[],(.slice none 0 0:Value))) ⟨Fr.refl _ _,cG,rfl,rfl,J,J,rfl,yP l⟩<| ?_
 rintro⟨k,st,v8⟩ ayl Tf ⟨wT,gS,zf,Dd,h0,hk,hst,Eh⟩
 obtain⟨QO,acq,zg,atK,atL⟩:=wT.w5 2 3 6 16 17
 have hdk:=KP h0 hk Eh
 refine SR<|V (aN Dd atL)<|aa<|ai<|aF O (fun G5=> ?_) (fun G5=> ?_)
 .refine an<|ai<|aA<|SR<|V (ah (hs.hp gS) ia pg atK Dd J)<|V (dY (dv:=bG) gO (hs.hp gS) dX O O O J)<|lJ gS (aS yX)<|fun b20 K0 iD=>bg iD (i:=0) O (dO (c':=(j9 _).toArray) O O O (vR _) (iD.blk (i:=0) O) O)<|fun NL cD=>aa<|SR<|V (fA dX 0 O aO O)<|lI bx cD 0 O O rfl<|aa<|aA<|SR<|V (bU O O)<|aB rfl<|aa<|aF O (fun xu=> ?_) (fun xu=> ?_)
  .refine ai<|SR<|V (fA dX 1 O aO O)<|lI bx cD 0 O O rfl<|V (aN O O)<|mB rfl<|bM 47 O (fun Wp=> ?_) (fun Wp=> ?_)
   .refine aE (v:=B true) rfl<|aa<|cA rfl<|SR<|V (dJ (vs:=[]) O (oP))<|bg cD (i:=2) O (cR O zg O (cD.blk (i:=2) O))<|fun w27 iJ=>va (v:=B false) rfl<|aa<|aj<|Ep O zg O iJ (i:=2) O bI O jI ⟨?_,iJ.below⟩
    (rw[KQ h0 ‹k<_› hst ‹(List.getD l k.toNat bG).op=1› J];rfl)
   refine V (fA dX 1 O aO O)<|lI bx cD 0 O O rfl<|aE QO<|V (aC (ht.hp cD) O bV O)<|V (dF O O)<|mB rfl<|aa<|aF O (fun Pb=> ?_) (fun Pb=> ?_)
   .refine SR<|V (dJ (vs:=[]) O (oP))<|bg cD (i:=2) O (cR O zg O (cD.blk (i:=2) O))<|fun w31 iC=>va (v:=B false) rfl<|aa<|aj<|Ep O zg O iC (i:=2) O bI O jI ⟨?_,iC.below⟩
    (rw[KQ h0 ‹k<_› hst ‹(List.getD l k.toNat bG).op=1› J];rfl)
   refine an<|au<|aE zf<|aE QO<|V (fA dX 1 O aO O)<|lI bx cD 0 O O rfl<|V (ah (ht.hp cD) bV fh O O J)<|V (gy (ht.hp cD) bI O O O J)<|tQ 1 1 cD (fY bV O O O O)<|fun b35 w33 lD=> ?_
   (try simp only[lf]at lD)
   refine gf O lD (i:=2) O (Hp.iu cY lD (i:=0) (l:=[_]) O gd) O O bV O O (size:=8) (bytes:=64) O O O az (gR _) RU afN<|fun v36 w37 uz=> ?_
   refine V (run_assign bA) ?_
   refine aa<|au<|V (ax Dd O J)<|mI rfl<|aa<| ?_
   refine⟨(k+1,st++[vs.getD (l.getD k.toNat bG).n.toNat dg],v36),aW,wT.u4.u4.u4.u4.u4.u4.u4.u1,(Hp.conv (uz.sub (sQ (sQ sR))) H6),rfl,(aK I aM),J,J,?_,?_⟩
   .exact ahy h0 ‹k<_› hst ‹(List.getD l k.toNat bG).op=1› ⟨J,J⟩
   (rw[jc h0 ‹k<_›,Eh,uT (.inl ‹(List.getD l k.toNat bG).op=1›)];simp;done)
  refine SR<|V (bU O O)<|aB rfl<|aa<|aF O (fun h40=> ?_) (fun h40=> ?_)
  .refine au<|aE zf<|V (fA dX 2 O fh O)<|V (nr bI O O O (cD.blk (i:=0) O) (DM _))<|tQ 1 1 cD (fY bV O O O O)<|fun b43 w41 qN=> ?_
   (try simp only[lf]at qN)
   refine gf O qN (i:=2) O (Hp.iu cY qN (i:=0) (l:=[_]) O gd) O O bV O O (size:=8) (bytes:=64) O O O az (gR _) RU afN<|fun v44 w45 oa=> ?_
   refine V (run_assign bA) ?_
   refine aa<|au<|V (ax Dd O J)<|mI rfl<|aa<| ?_
   refine⟨(k+1,st++[(l.getD k.toNat bG).c],v44),aW,wT.u4.u4.u4.u4.u1.u1,(Hp.conv (oa.sub (sQ (sQ sR))) H6),rfl,(aK I aM),J,J,?_,?_⟩
   .exact amD h0 ‹k<_› hst ‹(List.getD l k.toNat bG).op=2›
   (rw[jc h0 ‹k<_›,Eh,uT (.inr ‹(List.getD l k.toNat bG).op=2›)];simp;done)
  refine SR<|aE zf<|V (aC (cD.sl (i:=1) O) O bV O)<|V (fA dX 1 O aO O)<|lI bx cD 0 O O rfl<|V (eO O O (by have hq:=(fQ hr h0 ‹k<_› Eh ‹¬(List.getD l k.toNat bG).op=1› ‹¬(List.getD l k.toNat bG).op=2›);omega))<|aI rfl<|aa<|have hpo:=(fQ hr h0 ‹k<_› Eh ‹¬(List.getD l k.toNat bG).op=1› ‹¬(List.getD l k.toNat bG).op=2›);gD aP cD (sP (sQ sR))<|fun w47 kC=>have WR:=kC.sub (sP (sQ sR));AQ 0 O WR (run_move zf)<|AQ 1 O WR (mV (I _) O)<|AQ 2 O WR (mV (I _) O)<|AT 4 O WR (fun w hS=>cF (cs:=[B _,_]) dm O O acq (bj (hS.blk (i:=2) O)))<|AQ 5 O WR (fA dX 0 O aO O)<|tI 6 O WR bx 0 O O rfl<|AQ 7 O WR (run_move zf)<|AQ 8 O WR (mV (I _) O)<|gp 3 9 aP ?_ ?_
  .refine cf O aD O kC (sP (sQ sR)) (vX (kC.sl (i:=1) O) bV fh O O O J)<|A1 9<|cf O aD O kC (sP (sQ sR)) (gC (kC.sl (i:=1) O) bV fh O O J)<|A1 10<|ct O aD O kC (sP (sQ sR)) (Dc s (l.getD k.toNat bG).op _ (st.drop ((st.length:Int)-(l.getD k.toNat bG).n).toNat) LG _ (Sl.frE cY (kC.sl (i:=1) O) _ J) (hsh.mono kC.kw) (hT.hp kC)) (bz call139 O O O)<|fun w53 gQ=>A1 11<|cH O aD O gQ (sP (sQ sR)) (f:=fun b=> .slice (some ⟨b,0,none⟩) 1 1) (fY bV O O O O)<|fun b57 w55 ni=> ?_
   (try simp only[lf]at ni)
   refine A1 12<|SC O aD O ni (j:=2) O (q:=(((st.length:Int)-(l.getD k.toNat bG).n)).toNat) J (fun _=>(sQ (sP (sQ sR)))) (Hp.iu cY ni (i:=0) (l:=[_]) O gd) O O bV O O (size:=8) (bytes:=64) O O O aJ RF RE<|fun v60 w61 r5=> ?_
   refine AQ 13 O (r5.sub (sQ (sP (sQ sR)))) (run_assign bA) ?_
   refine AD<|au<|V (ax Dd O J)<|mI rfl<|aa<| ?_
   refine⟨(k+1,st.take ((st.length:Int)-(l.getD k.toNat bG).n).toNat++[pJ (J0 s.sh (l.getD k.toNat bG).op) (st.drop ((st.length:Int)-(l.getD k.toNat bG).n).toNat)],v60),aW,wT.u4.u4.u4.u4.u4.u4.u4.u4,(Hp.conv (r5.sub (sQ (sQ sR))) RH),rfl,(aK I aM),J,J,?_,?_⟩
   .exact Bb h0 ‹k<_› hst ‹¬(List.getD l k.toNat bG).op=1› ‹¬(List.getD l k.toNat bG).op=2› O wX
   (have hq:=(fQ hr h0 ‹k<_› Eh ‹¬(List.getD l k.toNat bG).op=1› ‹¬(List.getD l k.toNat bG).op=2›);rw[hq.2.2,dZ,er,ez];congr 1<;>omega)
  refine cf O aD O kC (sP (sQ sR)) (gC (kC.sl (i:=1) O) bV fh O O J)<|gp 3 10 aP ?_ ?_
  .refine cf O aD O kC (sP (sQ sR)) (vX (kC.sl (i:=1) O) bV fh O O O J)<|A1 10<|ct O aD O kC (sP (sQ sR)) (Dc s (l.getD k.toNat bG).op _ (st.drop ((st.length:Int)-(l.getD k.toNat bG).n).toNat) LG _ (Sl.frE cY (kC.sl (i:=1) O) _ J) (hsh.mono kC.kw) (hT.hp kC)) (bz call139 O O O)<|fun w67 kE=>A1 11<|cH O aD O kE (sP (sQ sR)) (f:=fun b=> .slice (some ⟨b,0,none⟩) 1 1) (fY bV O O O O)<|fun b71 w69 wA=> ?_
   (try simp only[lf]at wA)
   refine A1 12<|SC O aD O wA (j:=2) O (q:=(((st.length:Int)-(l.getD k.toNat bG).n)).toNat) J (fun _=>(sQ (sP (sQ sR)))) (Hp.iu cY wA (i:=0) (l:=[_]) O gd) O O bV O O (size:=8) (bytes:=64) O O O aJ RF RE<|fun v74 w75 oG=> ?_
   refine AQ 13 O (oG.sub (sQ (sP (sQ sR)))) (run_assign bA) ?_
   refine AD<|au<|V (ax Dd O J)<|mI rfl<|aa<| ?_
   refine⟨(k+1,st.take ((st.length:Int)-(l.getD k.toNat bG).n).toNat++[pJ (J0 s.sh (l.getD k.toNat bG).op) (st.drop ((st.length:Int)-(l.getD k.toNat bG).n).toNat)],v74),aW,wT.u4.u4.u4.u4.u4.u4.u4.u4,(Hp.conv (oG.sub (sQ (sQ sR))) RH),rfl,(aK I aM),J,J,?_,?_⟩
   .exact Bb h0 ‹k<_› hst ‹¬(List.getD l k.toNat bG).op=1› ‹¬(List.getD l k.toNat bG).op=2› O wX
   (have hq:=(fQ hr h0 ‹k<_› Eh ‹¬(List.getD l k.toNat bG).op=1› ‹¬(List.getD l k.toNat bG).op=2›);rw[hq.2.2,dZ,er,ez];congr 1<;>omega)
  refine ct O aD O kC (sP (sQ sR)) (Dc s (l.getD k.toNat bG).op _ (st.drop ((st.length:Int)-(l.getD k.toNat bG).n).toNat) LG _ (Sl.frE cY (kC.sl (i:=1) O) _ J) (hsh.mono kC.kw) (hT.hp kC)) (bz call139 O O O)<|fun w77 zh=>gp 3 11 aP ?_ ?_
  .refine cf O aD O zh (sP (sQ sR)) (vX (zh.sl (i:=1) O) bV fh O O O J)<|A1 11<|cH O aD O zh (sP (sQ sR)) (f:=fun b=> .slice (some ⟨b,0,none⟩) 1 1) (fY bV O O O O)<|fun b83 w81 oT=> ?_
   (try simp only[lf]at oT)
   refine A1 12<|SC O aD O oT (j:=2) O (q:=(((st.length:Int)-(l.getD k.toNat bG).n)).toNat) J (fun _=>(sQ (sP (sQ sR)))) (Hp.iu cY oT (i:=0) (l:=[_]) O gd) O O bV O O (size:=8) (bytes:=64) O O O aJ RF RE<|fun v86 w87 ze=> ?_
   refine AQ 13 O (ze.sub (sQ (sP (sQ sR)))) (run_assign bA) ?_
   refine AD<|au<|V (ax Dd O J)<|mI rfl<|aa<| ?_
   refine⟨(k+1,st.take ((st.length:Int)-(l.getD k.toNat bG).n).toNat++[pJ (J0 s.sh (l.getD k.toNat bG).op) (st.drop ((st.length:Int)-(l.getD k.toNat bG).n).toNat)],v86),aW,wT.u4.u4.u4.u4.u4.u4.u4.u4,(Hp.conv (ze.sub (sQ (sQ sR))) RH),rfl,(aK I aM),J,J,?_,?_⟩
   .exact Bb h0 ‹k<_› hst ‹¬(List.getD l k.toNat bG).op=1› ‹¬(List.getD l k.toNat bG).op=2› O wX
   (have hq:=(fQ hr h0 ‹k<_› Eh ‹¬(List.getD l k.toNat bG).op=1› ‹¬(List.getD l k.toNat bG).op=2›);rw[hq.2.2,dZ,er,ez];congr 1<;>omega)
  refine cH O aD O zh (sP (sQ sR)) (f:=fun b=> .slice (some ⟨b,0,none⟩) 1 1) (fY bV O O O O)<|fun b91 w89 oH=> ?_
  (try simp only[lf]at oH)
  refine A1 3<|cf O aD O oH (sQ (sP (sQ sR))) (vX (oH.sl (i:=2) O) bV fh O O O J)<|A1 12<|SC O aD O oH (j:=2) O (q:=(((st.length:Int)-(l.getD k.toNat bG).n)).toNat) J (fun _=>(sQ (sP (sQ sR)))) (Hp.iu cY oH (i:=0) (l:=[_]) O gd) O O bV O O (size:=8) (bytes:=64) O O O aJ RF RE<|fun v96 w97 Oc=> ?_
  refine AQ 13 O (Oc.sub (sQ (sP (sQ sR)))) (run_assign bA) ?_
  refine AD<|au<|V (ax Dd O J)<|mI rfl<|aa<| ?_
  refine⟨(k+1,st.take ((st.length:Int)-(l.getD k.toNat bG).n).toNat++[pJ (J0 s.sh (l.getD k.toNat bG).op) (st.drop ((st.length:Int)-(l.getD k.toNat bG).n).toNat)],v96),aW,wT.u4.u4.u4.u4.u4.u4.u4.u4,(Hp.conv (Oc.sub (sQ (sQ sR))) RH),rfl,(aK I aM),J,J,?_,?_⟩
  .exact Bb h0 ‹k<_› hst ‹¬(List.getD l k.toNat bG).op=1› ‹¬(List.getD l k.toNat bG).op=2› O wX
  (have hq:=(fQ hr h0 ‹k<_› Eh ‹¬(List.getD l k.toNat bG).op=1› ‹¬(List.getD l k.toNat bG).op=2›);rw[hq.2.2,dZ,er,ez];congr 1<;>omega)
 refine a7 (id:=0) rfl<|SR<|aE zf<|V (ah (gS.sl (i:=0) O) bV fh O O RP)<|V (gy (gS.sl (i:=0) O) bI O O O RP)<|bg gS (i:=1) O (cR O zg O (gS.blk (i:=1) O))<|fun w99 qH=>va (v:=B true) rfl<|aa<|aj<|Ep O zg O qH (i:=1) O bI O jI ⟨?_,qH.below⟩
 (rw[MU hr hk ‹¬k<_› hst];rfl)
set_option maxHeartbeats 2000000 in
theorem nV(s:kP)(v:Value)(l:List dU)(u:Value)(vs:List El)(hl:l.length<=1000)(w:World)(hs:Sl w v 10 l.length (l.flatMap j9))(ht:Sl w u 8 vs.length (vs.flatMap pH))(hsh:k7 (Kw w) s):Calls Tryz.prog 38 #[.agg (qJ s),v,u] w (Pure (.tuple #[.agg (iM (ey s.sh l vs).1),B (ey s.sh l vs).2]) w):=by
 have hm:=hs.small
 unfold maxLen at hm
 have J4:=ht.small
 unfold maxLen at J4
 refine eH func38 rfl rfl fun hH=>SR<|gM hH (v:= .agg _) rfl<|fun b3 w1 bp=>lJ bp (aS e8)<|fun b6 w4 bY=>va (v:=B false) rfl<|aa<|SR<|va (v:= .slice none 0 0) rfl<|have eC:=bY.eR 37 8;aa<|ai<|SR<| ?_
 refine V (run_move bA) ?_
 refine aH O eC (rN _ _ _ (hs.hp eC)) (ay call78 O)<|fun w8 iE=>V (bJ O)<|aa<|bW O (fun h12=> ?_) (fun h12=> ?_)
 .refine SR<|V (dJ (vs:=[]) O (oP))<|bg iE (i:=1) O (cR O O O (iE.blk (i:=1) O))<|fun C0 cG=> ?_
  simp only[z2,dx,pull]at cG
  refine va (v:=B false) rfl<|aa<|aj<|Ep O O O cG (i:=1) O bI O jI ⟨?_,cG.below⟩
  (rw[apg (nt ‹(!fU l)=true›)];rfl)
 refine an<|ai<|SR<|va (v:=I 0) rfl<|aa<|aA<|have hr:fU l=true:=nf ‹(!fU l)=false›;bt (G:=Int×(List El)×Value) (fun⟨k,st,v8⟩ s' w'=>(Fr (rg 7 6 (rg 17 86 [])) _ s')/\(Hp w w' (.row v8 37 8 (st.length) (st.flatMap pH)::_))/\(s' 8=v8)/\(s' 9=I k)/\(0<=k)/\(k<=l.length)/\(ij s.sh vs l k=some st)/\(ju l k=some (st.length:Int))) (fun⟨k,st,v8⟩=>(l.length-k).toNat) ((0,[],(.slice none 0 0:Value))) ⟨Fr.refl _ _,iE,rfl,rfl,J,J,rfl,yP l⟩<| ?_
 rintro⟨k,st,v8⟩ ayl Tf ⟨wT,gS,zf,WS,h0,hk,hst,Eh⟩
 obtain⟨WT,QO,acq,zg⟩:=wT.w4 1 2 3 6
 have hdk:=KP h0 hk Eh
 refine ai<|SR<|aE WS<|aE WT<|V (aC (hs.hp gS) O ia O)<|V (aN O O)<|aa<|aF O (fun G5=> ?_) (fun G5=> ?_)
 .refine an<|ai<|aA<|SR<|aE WT<|aE WS<|V (ah (hs.hp gS) ia pg O O J)<|V (dY (dv:=bG) gO (hs.hp gS) dX O O O J)<|lJ gS (aS yX)<|fun b20 K0 iD=>bg iD (i:=0) O (dO (c':=(j9 _).toArray) O O O (vR _) (iD.blk (i:=0) O) O)<|fun NL cD=> ?_
  simp only[z2,dx,pull]at cD
  refine aa<|SR<|V (fA dX 0 O aO O)<|lI bx cD 0 O O rfl<|V (bU O O)<|aa<|aF O (fun xu=> ?_) (fun xu=> ?_)
  .refine au<|aE zf<|V (fA dX 2 O fh O)<|V (nr bI O O O (cD.blk (i:=0) O) (DM _))<|tQ 1 1 cD (fY bV O O O O)<|fun b27 w25 jf=> ?_
   (try simp only[lf]at jf)
   refine gf O jf (i:=2) O (Hp.iu cY jf (i:=0) (l:=[_]) O gd) O O bV O O (size:=8) (bytes:=64) O O O az (gR _) RU afF<|fun v28 w29 iV=> ?_
   simp only[z2,dx,pull]at iV
   refine V (run_assign bA) ?_
   refine aa<|au<|aE WS<|V (ax O O J)<|aI rfl<|aa<| ?_
   refine⟨(k+1,st++[(l.getD k.toNat bG).c],v28),aW,wT.u4.u4.u4.u4.u4.u1,(Hp.conv (iV.sub (sQ (sQ sR))) H6),rfl,(aK I aM),J,J,?_,?_⟩
   .exact amD h0 ‹k<_› hst ‹(List.getD l k.toNat bG).op=2›
   (rw[jc h0 ‹k<_›,Eh,uT (.inr ‹(List.getD l k.toNat bG).op=2›)];simp;done)
  refine SR<|V (fA dX 0 O aO O)<|lI bx cD 0 O O rfl<|V (bU O O)<|aa<|aF O (fun BO=> ?_) (fun BO=> ?_)
  .refine ai<|SR<|V (fA dX 1 O aO O)<|lI bx cD 0 O O rfl<|V (aN O O)<|mB rfl<|bM 41 O (fun h34=> ?_) (fun h34=> ?_)
   .refine aE (v:=B true) rfl<|aa<|cA rfl<|SR<|V (dJ (vs:=[]) O (oP))<|bg cD (i:=2) O (cR O zg O (cD.blk (i:=2) O))<|fun w35 j4=> ?_
    simp only[z2,dx,pull]at j4
    refine va (v:=B false) rfl<|aa<|aj<|Ep O zg O j4 (i:=2) O bI O jI ⟨?_,j4.below⟩
    (rw[KQ h0 ‹k<_› hst ‹(List.getD l k.toNat bG).op=1› J];rfl)
   refine V (fA dX 1 O aO O)<|lI bx cD 0 O O rfl<|aE QO<|V (aC (ht.hp cD) O bV O)<|V (dF O O)<|mB rfl<|aa<|aF O (fun h38=> ?_) (fun h38=> ?_)
   .refine SR<|V (dJ (vs:=[]) O (oP))<|bg cD (i:=2) O (cR O zg O (cD.blk (i:=2) O))<|fun w39 lE=> ?_
    simp only[z2,dx,pull]at lE
    refine va (v:=B false) rfl<|aa<|aj<|Ep O zg O lE (i:=2) O bI O jI ⟨?_,lE.below⟩
    (rw[KQ h0 ‹k<_› hst ‹(List.getD l k.toNat bG).op=1› J];rfl)
   refine an<|au<|aE zf<|aE QO<|V (fA dX 1 O aO O)<|lI bx cD 0 O O rfl<|V (ah (ht.hp cD) bV fh O O J)<|V (gy (ht.hp cD) bI O O O J)<|tQ 1 1 cD (fY bV O O O O)<|fun b43 w41 qN=> ?_
   (try simp only[lf]at qN)
   refine gf O qN (i:=2) O (Hp.iu cY qN (i:=0) (l:=[_]) O gd) O O bV O O (size:=8) (bytes:=64) O O O az (gR _) RU afF<|fun v44 w45 oa=> ?_
   simp only[z2,dx,pull]at oa
   refine V (run_assign bA) ?_
   refine aa<|au<|aE WS<|V (ax O O J)<|aI rfl<|aa<| ?_
   refine⟨(k+1,st++[vs.getD (l.getD k.toNat bG).n.toNat dg],v44),aW,wT.u4.u4.u4.u4.u4.u4.u4.u4.u4.u1,(Hp.conv (oa.sub (sQ (sQ sR))) H6),rfl,(aK I aM),J,J,?_,?_⟩
   .exact ahy h0 ‹k<_› hst ‹(List.getD l k.toNat bG).op=1› ⟨J,J⟩
   (rw[jc h0 ‹k<_›,Eh,uT (.inl ‹(List.getD l k.toNat bG).op=1›)];simp;done)
  refine SR<|aE zf<|aE zf<|V (aC (cD.sl (i:=1) O) O bV O)<|V (eO O O J)<|V (ah (cD.sl (i:=1) O) bV fh O O wX)<|V (gy (cD.sl (i:=1) O) bI O O O wX)<|lJ cD (aS e8)<|fun b49 w47 kC=>bg kC (i:=0) O (cR O O O (kC.blk (i:=0) O))<|fun w50 rY=> ?_
  simp only[z2,dx,pull]at rY
  refine aa<|ai<|SR<|va (v:=I 2) rfl<|aa<|aA<|have hpo:=(fQ hr h0 ‹k<_› Eh ‹¬(List.getD l k.toNat bG).op=1› ‹¬(List.getD l k.toNat bG).op=2›);bt (G:=Int×El) (fun⟨j,e1⟩ s' w'=>(Fr (12::(rg 63 28 [])) _ s')/\(Hp w w' (.blk b49 (.cells (iM e1) 37 (0,0))::_))/\(s' 12=I j)/\(2<=j)/\(j<=(l.getD k.toNat bG).n+1)/\(e1=pJ (J0 s.sh (l.getD k.toNat bG).op) (st.drop ((st.length:Int)-(j-1)).toNat))) (fun⟨j,e1⟩=>((l.getD k.toNat bG).n+1-j).toNat) ((2,(st.getD ((st.length:Int)-1).toNat dg))) ⟨Fr.refl _ _,rY,rfl,J,J,(by rw[show((st.length:Int)-(2-1)).toNat=st.length-1 by omega,MT (by intro h;rw[h]at hpo;simp at hpo;omega)];congr 1;omega)⟩<| ?_
  rintro⟨j,e1⟩ aNH w52 ⟨Kh,BP,Og,j0,jk,he⟩
  obtain⟨aat,Oh⟩:=Kh.w2 10 11
  obtain⟨ayn,QR,JL⟩:=Kh.t3 3 acq 8 zf 9 WS
  refine ai<|SR<|aE Og<|V (fA dX 1 O aO aat)<|lI bx BP 1 O O rfl<|V (wY O O)<|aa<|aF O (fun h54=> ?_) (fun h54=> ?_)
  .refine an<|ai<|aA<|SR<|V (fA dX 0 O aO aat)<|lI bx BP 1 O O rfl<|V (bU O O)<|aa<|aF O (fun G8=> ?_) (fun G8=> ?_)
   .refine gD aP BP (sQ sR)<|fun w57 oF=>have WU:=oF.sub (sQ sR);AT 0 O WU (fun w hS=>cF (cs:=[B _,_]) dm O O ayn (bj (hS.blk (i:=3) O)))<|AQ 1 O WU (run_move QR)<|AQ 2 O WU (run_move QR)<|AT 3 O WU (fun w hS=>aC (hS.sl (i:=1) O) O bV O)<|AQ 4 O WU (run_move Og)<|AQ 5 O WU (eO O O J)<|AT 6 O WU (fun w hS=>ah (hS.sl (i:=1) O) bV fh O O J)<|AT 7 O WU (fun w hS=>gy (hS.sl (i:=1) O) bI O O O J)<|A1 8<|cf O aD O oF (sQ sR) (cM bI O O Oh (oF.blk (i:=0) O))<|A1 9<|ct O aD O oF (sQ sR) (sq _ _ _ _ (hsh.mono oF.kw)) (bz call39 O O O)<|fun w61 r5=>A1 10<|ed O aD r5 (j:=0) O (sQ sR) (cR O Oh O (r5.blk (i:=0) O))<|fun w65 aeK=> ?_
    simp only[z2,dx,pull]at aeK
    refine AD<|au<|aE Og<|V (ax O O J)<|aI rfl<|aa<| ?_
    refine⟨(j+1,_),aW,Kh.u4.u4.u4.u4.u4,aeK,(aK I aM),J,J,?_⟩
    (rw[show((st.length:Int)-(j+1-1)).toNat=((st.length:Int)-j).toNat by omega,KR J J,show((st.length:Int)-j+1).toNat=((st.length:Int)-(j-1)).toNat by omega,<-he];exact aph ‹(List.getD l k.toNat bG).op=3›)
   refine gD aP BP (sQ sR)<|fun w67 kE=>have Tw:=kE.sub (sQ sR);AQ 0 O Tw (run_move QR)<|AQ 1 O Tw (run_move QR)<|AT 2 O Tw (fun w hS=>aC (hS.sl (i:=1) O) O bV O)<|AQ 3 O Tw (run_move Og)<|AQ 4 O Tw (eO O O J)<|AT 5 O Tw (fun w hS=>ah (hS.sl (i:=1) O) bV fh O O J)<|AT 6 O Tw (fun w hS=>gy (hS.sl (i:=1) O) bI O O O J)<|A1 7<|cf O aD O kE (sQ sR) (cM bI O O Oh (kE.blk (i:=0) O))<|A1 8<|ct O aD O kE (sQ sR) (BN _ _ _) (aL call82 O O)<|fun w71 Ja=>A1 9<|ed O aD Ja (j:=0) O (sQ sR) (cR O Oh O (Ja.blk (i:=0) O))<|fun w75 oG=> ?_
   simp only[z2,dx,pull]at oG
   refine AD<|au<|aE Og<|V (ax O O J)<|aI rfl<|aa<| ?_
   refine⟨(j+1,_),aW,Kh.u4.u4.u4.u4.u1.u1.u1,oG,(aK I aM),J,J,?_⟩
   (rw[show((st.length:Int)-(j+1-1)).toNat=((st.length:Int)-j).toNat by omega,KR J J,show((st.length:Int)-j+1).toNat=((st.length:Int)-(j-1)).toNat by omega,<-he];exact api ‹¬(List.getD l k.toNat bG).op=3›)
  refine a7 (id:=2) rfl<|have he3:e1=pJ (J0 s.sh (l.getD k.toNat bG).op) (st.drop ((st.length:Int)-(l.getD k.toNat bG).n).toNat):=(by rw[he];congr 2;omega);ec aP BP<|fun w77 zh=>have De:=zh;AQ 1 O De (run_move QR)<|AQ 2 O De (run_move QR)<|AT 3 O De (fun w hS=>aC (hS.sl (i:=2) O) O bV O)<|AQ 4 O De (fA dX 1 O aO aat)<|tI 5 O De bx 1 O O rfl<|AQ 6 O De (eO O O J)<|AT 9 O De (fun w hS=>cM bI O O Oh (hS.blk (i:=0) O))<|arJ 0 7 10 aP ?_ ?_ ?_
  .refine cH O aD O zh sR (f:=fun b=> .slice (some ⟨b,0,none⟩) 0 0) (s0 bV fh)<|fun b81 w79 pA=> ?_
   (try simp only[lf]at pA)
   have oT:=pA.sE 0 8 O az
   refine gp 7 10 aP ?_ ?_
   .refine cf O aD O oT (sQ sR) (rh (oT.sl (i:=3) O) bV fh O O J)<|gp 8 10 aP ?_ ?_
    .refine fT O aD O oT (j:=0) O (fun _=>(sQ sR)) ((oT.sl (i:=3) O).cut _ (by(have:=(fQ hr h0 ‹k<_› Eh ‹¬(List.getD l k.toNat bG).op=1› ‹¬(List.getD l k.toNat bG).op=2›);omega))) O O bV O O (size:=8) (bytes:=64) O O O az (fun u hu=>gR st u (u9 hu)) J iz<|fun v87 w85 uA=> ?_
     simp only[z2,dx,pull]at uA
     refine A1 10<|cH O aD O uA (sQ sR) (f:=fun b=> .slice (some ⟨b,0,none⟩) 1 1) (fY bV O O O O)<|fun b90 w88 Jc=> ?_
     (try simp only[lf]at Jc)
     refine A1 11<|fT O aD O Jc (j:=1) O (fun _=>(sQ (sQ sR))) (Hp.iu cY Jc (i:=0) (l:=[_]) O gd) O O bV O O (size:=8) (bytes:=64) O O O az (gR _) Ci Ch<|fun v93 w91 Jb=> ?_
     simp only[z2,dx,pull]at Jb
     refine AQ 12 O (Jb.sub (sQ (sQ sR))) (run_assign bA) ?_
     refine AD<|au<|aE JL<|V (ax O O J)<|aI rfl<|aa<|have uB:=Hp.swap (Jb.perm (((pC pR).trans pS).trans (pC pR))) (i:=3) xX;?_
     simp only[z2,dx,pull]at uB
     refine⟨(k+1,st.take ((st.length:Int)-(l.getD k.toNat bG).n).toNat++[e1],v93),aW,(((wT.u4.u4.u4.u4.u4.u1.u1.u1).t Kh O)).u4.u4.u4.u4.u4,(Hp.conv (uB.sub (sQ (sQ (sQ sR)))) afB),rfl,(aK I aM),J,J,?_,?_⟩
     ·(rw[he3];exact Bb h0 ‹k<_› hst ‹¬(List.getD l k.toNat bG).op=1› ‹¬(List.getD l k.toNat bG).op=2› O wX)
     (have hq:=(fQ hr h0 ‹k<_› Eh ‹¬(List.getD l k.toNat bG).op=1› ‹¬(List.getD l k.toNat bG).op=2›);rw[hq.2.2,dZ,er,ez];congr 1<;>omega)
    refine cH O aD O oT (sQ sR) (f:=fun b=> .slice (some ⟨b,0,none⟩) 1 1) (fY bV O O O O)<|fun b97 w95 pX=> ?_
    (try simp only[lf]at pX)
    refine A1 8<|fT O aD O pX (j:=1) O (fun _=>(sQ (sQ sR))) ((pX.sl (i:=4) O).cut _ (by(have:=(fQ hr h0 ‹k<_› Eh ‹¬(List.getD l k.toNat bG).op=1› ‹¬(List.getD l k.toNat bG).op=2›);omega))) O O bV O O (size:=8) (bytes:=64) O O O az (fun u hu=>gR st u (u9 hu)) J iz<|fun aNJ w98 Po=> ?_
    simp only[z2,dx,pull]at Po
    refine A1 11<|fT O aD O Po (j:=1) O (fun _=>(sQ (sQ sR))) (Hp.iu cY Po (i:=0) (l:=[_]) O gd) O O bV O O (size:=8) (bytes:=64) O O O az (gR _) Ci Ch<|fun aE4 atM rM=> ?_
    simp only[z2,dx,pull]at rM
    refine AQ 12 O (rM.sub (sQ (sQ sR))) (run_assign bA) ?_
    refine AD<|au<|aE JL<|V (ax O O J)<|aI rfl<|aa<|have Br:=Hp.swap (rM.perm (((pC pR).trans pS).trans (pC pR))) (i:=3) xX;?_
    simp only[z2,dx,pull]at Br
    refine⟨(k+1,st.take ((st.length:Int)-(l.getD k.toNat bG).n).toNat++[e1],aE4),aW,(((wT.u4.u4.u4.u4.u4.u1.u1.u1).t Kh O)).u4.u4.u4.u4.u4,(Hp.conv (Br.sub (sQ (sQ (sQ sR)))) HQ),rfl,(aK I aM),J,J,?_,?_⟩
    ·(rw[he3];exact Bb h0 ‹k<_› hst ‹¬(List.getD l k.toNat bG).op=1› ‹¬(List.getD l k.toNat bG).op=2› O wX)
    (have hq:=(fQ hr h0 ‹k<_› Eh ‹¬(List.getD l k.toNat bG).op=1› ‹¬(List.getD l k.toNat bG).op=2›);rw[hq.2.2,dZ,er,ez];congr 1<;>omega)
   refine cH O aD O oT (sQ sR) (f:=fun b=> .slice (some ⟨b,0,none⟩) 1 1) (fY bV O O O O)<|fun ayo aoc nj=> ?_
   (try simp only[lf]at nj)
   refine A1 7<|cf O aD O nj (sQ (sQ sR)) (rh (nj.sl (i:=4) O) bV fh O O J)<|A1 8<|fT O aD O nj (j:=1) O (fun _=>(sQ (sQ sR))) ((nj.sl (i:=4) O).cut _ (by(have:=(fQ hr h0 ‹k<_› Eh ‹¬(List.getD l k.toNat bG).op=1› ‹¬(List.getD l k.toNat bG).op=2›);omega))) O O bV O O (size:=8) (bytes:=64) O O O az (fun u hu=>gR st u (u9 hu)) J iz<|fun aNK aE5 He=> ?_
   simp only[z2,dx,pull]at He
   refine A1 11<|fT O aD O He (j:=1) O (fun _=>(sQ (sQ sR))) (Hp.iu cY He (i:=0) (l:=[_]) O gd) O O bV O O (size:=8) (bytes:=64) O O O az (gR _) Ci Ch<|fun aE6 ayp xC=> ?_
   simp only[z2,dx,pull]at xC
   refine AQ 12 O (xC.sub (sQ (sQ sR))) (run_assign bA) ?_
   refine AD<|au<|aE JL<|V (ax O O J)<|aI rfl<|aa<|have zi:=Hp.swap (xC.perm (((pC pR).trans pS).trans (pC pR))) (i:=3) xX;?_
   simp only[z2,dx,pull]at zi
   refine⟨(k+1,st.take ((st.length:Int)-(l.getD k.toNat bG).n).toNat++[e1],aE6),aW,(((wT.u4.u4.u4.u4.u4.u1.u1.u1).t Kh O)).u4.u4.u4.u4.u4,(Hp.conv (zi.sub (sQ (sQ (sQ sR)))) HQ),rfl,(aK I aM),J,J,?_,?_⟩
   ·(rw[he3];exact Bb h0 ‹k<_› hst ‹¬(List.getD l k.toNat bG).op=1› ‹¬(List.getD l k.toNat bG).op=2› O wX)
   (have hq:=(fQ hr h0 ‹k<_› Eh ‹¬(List.getD l k.toNat bG).op=1› ‹¬(List.getD l k.toNat bG).op=2›);rw[hq.2.2,dZ,er,ez];congr 1<;>omega)
  .refine cf O aD O zh sR (rh (zh.sl (i:=2) O) bV fh O O J)<|gp 0 10 aP ?_ ?_
   .refine cH O aD O zh sR (f:=fun b=> .slice (some ⟨b,0,none⟩) 0 0) (s0 bV fh)<|fun aNL aE7 acr=> ?_
    (try simp only[lf]at acr)
    have Oi:=acr.sE 0 8 O az
    refine gp 8 10 aP ?_ ?_
    .refine fT O aD O Oi (j:=0) O (fun _=>(sQ sR)) ((Oi.sl (i:=3) O).cut _ (by(have:=(fQ hr h0 ‹k<_› Eh ‹¬(List.getD l k.toNat bG).op=1› ‹¬(List.getD l k.toNat bG).op=2›);omega))) O O bV O O (size:=8) (bytes:=64) O O O az (fun u hu=>gR st u (u9 hu)) J iz<|fun aNM atN pY=> ?_
     simp only[z2,dx,pull]at pY
     refine A1 10<|cH O aD O pY (sQ sR) (f:=fun b=> .slice (some ⟨b,0,none⟩) 1 1) (fY bV O O O O)<|fun aj3 aE8 QS=> ?_
     (try simp only[lf]at QS)
     refine A1 11<|fT O aD O QS (j:=1) O (fun _=>(sQ (sQ sR))) (Hp.iu cY QS (i:=0) (l:=[_]) O gd) O O bV O O (size:=8) (bytes:=64) O O O az (gR _) Ci Ch<|fun v131 aNN aj4=> ?_
     simp only[z2,dx,pull]at aj4
     refine AQ 12 O (aj4.sub (sQ (sQ sR))) (run_assign bA) ?_
     refine AD<|au<|aE JL<|V (ax O O J)<|aI rfl<|aa<|have Bs:=Hp.swap (aj4.perm (((pC pR).trans pS).trans (pC pR))) (i:=3) xX;?_
     simp only[z2,dx,pull]at Bs
     refine⟨(k+1,st.take ((st.length:Int)-(l.getD k.toNat bG).n).toNat++[e1],v131),aW,(((wT.u4.u4.u4.u4.u4.u1.u1.u1).t Kh O)).u4.u4.u4.u4.u4,(Hp.conv (Bs.sub (sQ (sQ (sQ sR)))) afB),rfl,(aK I aM),J,J,?_,?_⟩
     ·(rw[he3];exact Bb h0 ‹k<_› hst ‹¬(List.getD l k.toNat bG).op=1› ‹¬(List.getD l k.toNat bG).op=2› O wX)
     (have hq:=(fQ hr h0 ‹k<_› Eh ‹¬(List.getD l k.toNat bG).op=1› ‹¬(List.getD l k.toNat bG).op=2›);rw[hq.2.2,dZ,er,ez];congr 1<;>omega)
    refine cH O aD O Oi (sQ sR) (f:=fun b=> .slice (some ⟨b,0,none⟩) 1 1) (fY bV O O O O)<|fun aNO atO Df=> ?_
    (try simp only[lf]at Df)
    refine A1 8<|fT O aD O Df (j:=1) O (fun _=>(sQ (sQ sR))) ((Df.sl (i:=4) O).cut _ (by(have:=(fQ hr h0 ‹k<_› Eh ‹¬(List.getD l k.toNat bG).op=1› ‹¬(List.getD l k.toNat bG).op=2›);omega))) O O bV O O (size:=8) (bytes:=64) O O O az (fun u hu=>gR st u (u9 hu)) J iz<|fun v138 aNP aj5=> ?_
    simp only[z2,dx,pull]at aj5
    refine A1 11<|fT O aD O aj5 (j:=1) O (fun _=>(sQ (sQ sR))) (Hp.iu cY aj5 (i:=0) (l:=[_]) O gd) O O bV O O (size:=8) (bytes:=64) O O O az (gR _) Ci Ch<|fun v141 aE9 QT=> ?_
    simp only[z2,dx,pull]at QT
    refine AQ 12 O (QT.sub (sQ (sQ sR))) (run_assign bA) ?_
    refine AD<|au<|aE JL<|V (ax O O J)<|aI rfl<|aa<|have mq:=Hp.swap (QT.perm (((pC pR).trans pS).trans (pC pR))) (i:=3) xX;?_
    simp only[z2,dx,pull]at mq
    refine⟨(k+1,st.take ((st.length:Int)-(l.getD k.toNat bG).n).toNat++[e1],v141),aW,(((wT.u4.u4.u4.u4.u4.u1.u1.u1).t Kh O)).u4.u4.u4.u4.u4,(Hp.conv (mq.sub (sQ (sQ (sQ sR)))) HQ),rfl,(aK I aM),J,J,?_,?_⟩
    ·(rw[he3];exact Bb h0 ‹k<_› hst ‹¬(List.getD l k.toNat bG).op=1› ‹¬(List.getD l k.toNat bG).op=2› O wX)
    (have hq:=(fQ hr h0 ‹k<_› Eh ‹¬(List.getD l k.toNat bG).op=1› ‹¬(List.getD l k.toNat bG).op=2›);rw[hq.2.2,dZ,er,ez];congr 1<;>omega)
   refine cH O aD O zh sR (f:=fun b=> .slice (some ⟨b,0,none⟩) 1 1) (fY bV O O O O)<|fun aNQ atP xD=> ?_
   (try simp only[lf]at xD)
   refine A1 0<|cH O aD O xD (sQ sR) (f:=fun b=> .slice (some ⟨b,0,none⟩) 0 0) (s0 bV fh)<|fun aNR aNS aqn=> ?_
   (try simp only[lf]at aqn)
   have WV:=aqn.sE 0 8 O az
   refine A1 8<|fT O aD O WV (j:=0) O (fun _=>(sQ (sQ sR))) ((WV.sl (i:=4) O).cut _ (by(have:=(fQ hr h0 ‹k<_› Eh ‹¬(List.getD l k.toNat bG).op=1› ‹¬(List.getD l k.toNat bG).op=2›);omega))) O O bV O O (size:=8) (bytes:=64) O O O az (fun u hu=>gR st u (u9 hu)) J iz<|fun v152 aFa Hf=> ?_
   simp only[z2,dx,pull]at Hf
   refine A1 11<|fT O aD O Hf (j:=0) O (fun _=>(sQ (sQ sR))) (Hp.iu cY Hf (i:=1) (l:=[_]) O gd) O O bV O O (size:=8) (bytes:=64) O O O az (gR _) Ci Ch<|fun aj6 aNT QU=> ?_
   simp only[z2,dx,pull]at QU
   refine AQ 12 O (QU.sub (sQ (sQ sR))) (run_assign bA) ?_
   refine AD<|au<|aE JL<|V (ax O O J)<|aI rfl<|aa<|have aqo:=Hp.swap QU (i:=3) xX;?_
   simp only[z2,dx,pull]at aqo
   refine⟨(k+1,st.take ((st.length:Int)-(l.getD k.toNat bG).n).toNat++[e1],aj6),aW,(((wT.u4.u4.u4.u4.u4.u1.u1.u1).t Kh O)).u4.u4.u4.u4.u4,(Hp.conv (aqo.sub (sQ (sQ (sQ sR)))) HQ),rfl,(aK I aM),J,J,?_,?_⟩
   ·(rw[he3];exact Bb h0 ‹k<_› hst ‹¬(List.getD l k.toNat bG).op=1› ‹¬(List.getD l k.toNat bG).op=2› O wX)
   (have hq:=(fQ hr h0 ‹k<_› Eh ‹¬(List.getD l k.toNat bG).op=1› ‹¬(List.getD l k.toNat bG).op=2›);rw[hq.2.2,dZ,er,ez];congr 1<;>omega)
  refine cH O aD O zh sR (f:=fun b=> .slice (some ⟨b,0,none⟩) 1 1) (fY bV O O O O)<|fun aNU aFb JM=> ?_
  (try simp only[lf]at JM)
  refine gp 0 7 aP ?_ ?_
  .refine cH O aD O JM (sQ sR) (f:=fun b=> .slice (some ⟨b,0,none⟩) 0 0) (s0 bV fh)<|fun aNV ayq WW=> ?_
   (try simp only[lf]at WW)
   have acs:=WW.sE 0 8 O az
   refine A1 7<|cf O aD O acs (sQ (sQ sR)) (rh (acs.sl (i:=4) O) bV fh O O J)<|A1 8<|fT O aD O acs (j:=0) O (fun _=>(sQ (sQ sR))) ((acs.sl (i:=4) O).cut _ (by(have:=(fQ hr h0 ‹k<_› Eh ‹¬(List.getD l k.toNat bG).op=1› ‹¬(List.getD l k.toNat bG).op=2›);omega))) O O bV O O (size:=8) (bytes:=64) O O O az (fun u hu=>gR st u (u9 hu)) J iz<|fun v168 aFc Oj=> ?_
   simp only[z2,dx,pull]at Oj
   refine A1 11<|fT O aD O Oj (j:=0) O (fun _=>(sQ (sQ sR))) (Hp.iu cY Oj (i:=1) (l:=[_]) O gd) O O bV O O (size:=8) (bytes:=64) O O O az (gR _) Ci Ch<|fun v171 aFd Ol=> ?_
   simp only[z2,dx,pull]at Ol
   refine AQ 12 O (Ol.sub (sQ (sQ sR))) (run_assign bA) ?_
   refine AD<|au<|aE JL<|V (ax O O J)<|aI rfl<|aa<|have aqp:=Hp.swap Ol (i:=3) xX;?_
   simp only[z2,dx,pull]at aqp
   refine⟨(k+1,st.take ((st.length:Int)-(l.getD k.toNat bG).n).toNat++[e1],v171),aW,(((wT.u4.u4.u4.u4.u4.u1.u1.u1).t Kh O)).u4.u4.u4.u4.u4,(Hp.conv (aqp.sub (sQ (sQ (sQ sR)))) HQ),rfl,(aK I aM),J,J,?_,?_⟩
   ·(rw[he3];exact Bb h0 ‹k<_› hst ‹¬(List.getD l k.toNat bG).op=1› ‹¬(List.getD l k.toNat bG).op=2› O wX)
   (have hq:=(fQ hr h0 ‹k<_› Eh ‹¬(List.getD l k.toNat bG).op=1› ‹¬(List.getD l k.toNat bG).op=2›);rw[hq.2.2,dZ,er,ez];congr 1<;>omega)
  refine cf O aD O JM (sQ sR) (rh (JM.sl (i:=3) O) bV fh O O J)<|A1 0<|cH O aD O JM (sQ sR) (f:=fun b=> .slice (some ⟨b,0,none⟩) 0 0) (s0 bV fh)<|fun aNW aNX WX=> ?_
  (try simp only[lf]at WX)
  have aqq:=WX.sE 0 8 O az
  refine A1 8<|fT O aD O aqq (j:=0) O (fun _=>(sQ (sQ sR))) ((aqq.sl (i:=4) O).cut _ (by(have:=(fQ hr h0 ‹k<_› Eh ‹¬(List.getD l k.toNat bG).op=1› ‹¬(List.getD l k.toNat bG).op=2›);omega))) O O bV O O (size:=8) (bytes:=64) O O O az (fun u hu=>gR st u (u9 hu)) J iz<|fun aNY aNZ aj7=> ?_
  simp only[z2,dx,pull]at aj7
  refine A1 11<|fT O aD O aj7 (j:=0) O (fun _=>(sQ (sQ sR))) (Hp.iu cY aj7 (i:=1) (l:=[_]) O gd) O O bV O O (size:=8) (bytes:=64) O O O az (gR _) Ci Ch<|fun aFe aN0 aj8=> ?_
  simp only[z2,dx,pull]at aj8
  refine AQ 12 O (aj8.sub (sQ (sQ sR))) (run_assign bA) ?_
  refine AD<|au<|aE JL<|V (ax O O J)<|aI rfl<|aa<|have aqr:=Hp.swap aj8 (i:=3) xX;?_
  simp only[z2,dx,pull]at aqr
  refine⟨(k+1,st.take ((st.length:Int)-(l.getD k.toNat bG).n).toNat++[e1],aFe),aW,(((wT.u4.u4.u4.u4.u4.u1.u1.u1).t Kh O)).u4.u4.u4.u4.u4,(Hp.conv (aqr.sub (sQ (sQ (sQ sR)))) HQ),rfl,(aK I aM),J,J,?_,?_⟩
  ·(rw[he3];exact Bb h0 ‹k<_› hst ‹¬(List.getD l k.toNat bG).op=1› ‹¬(List.getD l k.toNat bG).op=2› O wX)
  (have hq:=(fQ hr h0 ‹k<_› Eh ‹¬(List.getD l k.toNat bG).op=1› ‹¬(List.getD l k.toNat bG).op=2›);rw[hq.2.2,dZ,er,ez];congr 1<;>omega)
 refine a7 (id:=0) rfl<|SR<|aE zf<|V (ah (gS.sl (i:=0) O) bV fh O O RP)<|V (gy (gS.sl (i:=0) O) bI O O O RP)<|bg gS (i:=1) O (cR O zg O (gS.blk (i:=1) O))<|fun aN1 aj9=> ?_
 simp only[z2,dx,pull]at aj9
 refine va (v:=B true) rfl<|aa<|aj<|Ep O zg O aj9 (i:=1) O bI O jI ⟨?_,aj9.below⟩
 (rw[MU hr hk ‹¬k<_› hst];rfl)
theorem lM(b:Nat)(r:Rl)(d s:Int)(vw vj:Value)(a:BitVec 64)(w:World)(hb:w.heap[b]?=some (.cells (lG r d s vw vj).toArray 212 (0,0)))(hW:Sl w vw 1 (ow r (pts r).toNat).length ((ow r (pts r).toNat).map U)):Calls Tryz.prog 174 #[.pointer (some ⟨b,0,none⟩),U a] w (Pure (I (Es r a)) w):=by
 have hp:=dA r
 have hpp:pts r=max 0 (min r.n 64):=rfl
 have hwl:=Ag (r:=r) (k:=(pts r).toNat)
 refine eH func174 rfl rfl fun hH=>SR<|va (v:=I 0) rfl<|aa<|ai<|SR<|aE (v:=Pn _ _) rfl<|V (af O)<|V (fA ny 68 O jB O)<|V (aG dh O O (hH.eP hb Eu))<|V (aC (hW.hp hH) O dh O)<|aE (v:=I 0) rfl<|aa<|aA<|bt (G:=Int) (fun k s' w'=>(Fr (rg 4 3 (rg 12 10 [])) _ s')/\(Hp w w' _)/\(s' 12=I k)/\(0<=k)/\(k<=pts r)/\(∀j:Int,0<=j->j<k->bQ r j≠a)) (fun k=>(pts r-k).toNat) (0) ⟨Fr.refl _ _,hH,rfl,J,J,fun j a b=>absurd b J⟩<| ?_
 rintro k sg1 w1 ⟨uM,je,acu,h0,hk,hf⟩
 obtain⟨Av,ayr,ays⟩:=uM.w3 1 10 11
 refine SR<|V (aN acu ays)<|aa<|ai<|aF O (fun h3=> ?_) (fun h3=> ?_)
 .refine an<|ai<|aA<|SR<|aE acu<|V (ah (hW.hp je) dh cP ayr acu J)<|V (aG dM O O (sL (hW.hp je) J))<|aI rfl<|aU rfl<|aa<|SR<|mU rfl<|aE Av<|V (jO O O)<|aa<|aF O (fun h5=> ?_) (fun h5=> ?_)
  .refine SR<|mI rfl<|aI rfl<|aa<|aj<|oI O ?_ je
   exact(ar8 h0 J aQ hf).symm
  refine an<|au<|V (ax acu O J)<|mI rfl<|aa<| ?_
  refine⟨k+1,aW,uM.u4.u4.u1.u1.u1,je,(aK I aM),J,J,?_⟩
  exact fun j a b=>if e:j=k then e▸‹¬bQ r k=_›else hf j a J
 refine a7 (id:=0) rfl<|SR<|va (v:=I (-1)) rfl<|aa<|aj<|oI O ?_ je
 exact(aw2 (k:=k) J hf).symm
set_option maxHeartbeats 1000000 in
theorem FM(W0:World)(b:Nat)(r:Rl)(L:List bu)(w:World)(hT:o3 W0)(hH:Hp W0 w (.blk b (.cells (lG r 0 1 (.slice none 0 0) (.slice none 0 0)).toArray 212 (0,0))::L)):Calls Tryz.prog 173 #[.pointer (some ⟨b,0,none⟩)] w (jW fun u w'=>u= .tuple #[]/\∃(v1 v2:Value) (rs:List SM) (Z:List bu),IP (Kz KN Z) r v1 v2 rs/\Hp W0 w' (.blk b (.cells (lG r 0 1 (v1) (v2)).toArray 212 (0,0))::(Z++L))):=by
 have hp:=dA r
 have hpp:pts r=max 0 (min r.n 64):=rfl
 have hwl:=Ag (r:=r) (k:=(pts r).toNat)
 refine en func173 rfl rfl<|have hN:=(hH.eR 100 1).eR 35 1;SR<|aE (v:=Pn _ _) rfl<|V (af O)<|V (fA ny 0 O iW O)<|V (fA bS 0 O aO O)<|V (aG bx O O (hN.cell (i:=2) O aw3))<|V (vz O O)<|V (Gb O O)<|aI rfl<|aa<|ai<|SR<|mI rfl<|aE (v:=I 0) rfl<|aa<|aA<|bt (G:=Int×Value) (fun⟨k,v1⟩ s' w'=>(Fr (3::(rg 17 19 [])) _ s')/\(Hp W0 w' (.row v1 35 1 (ow r (k).toNat).length ((ow r (k).toNat).map U)::_:: .blk b (.cells (lG r 0 1 (v1) (.slice none 0 0)).toArray 212 (0,0))::_))/\(s' 17=I k)/\(0<=k)/\(k<=pts r)) (fun⟨k,v1⟩=>(pts r-k).toNat) ((0,.slice none 0 0)) ⟨Fr.refl _ _,hN,rfl,J,J⟩<| ?_
 rintro⟨k,v1⟩ sg1 w1 ⟨uM,je,aka,h0,hk⟩
 obtain⟨mz,ajH,ayt⟩:=uM.w3 0 2 16
 have hwk:=Ag (r:=r) (k:=k.toNat)
 refine SR<|V (aN aka ayt)<|aa<|ai<|aF O (fun h3=> ?_) (fun h3=> ?_)
 .refine an<|Fq (G:=(Value)) je (3::(rg 19 16 [])) (fun(L:List bu) (v3:(Value))=>((L).set 2 (.blk b (.cells (lG r 0 1 (v3) (.slice none 0 0)).toArray 212 (0,0)))).set 0 (.row v3 35 1 (ow r ((k+1)).toNat).length ((ow r ((k+1)).toNat).map U))) (fun(v3:(Value)) s'=>True) ?_ ?_
  .refine aA<|SR<|aE aka<|aI rfl<|aa<|gD aP je (sQ (sP (sQ sR)))<|fun w4 bY=>have Pa:=bY.sub (sQ (sP (sQ sR)));AQ 0 O Pa (run_move mz)<|AQ 1 O Pa (run_move mz)<|AQ 2 O Pa (af O)<|AQ 3 O Pa (fA ny 68 O jB O)<|AQ 5 O Pa (run_move mz)<|AQ 6 O Pa (af O)<|AQ 7 O Pa (fA ny 0 O iW O)<|AQ 9 O Pa (mV (I _) O)<|gp 4 8 aP ?_ ?_
   .refine cf O aD O bY (sQ (sP (sQ sR))) (aG dh O O (bY.cell (i:=2) O Eu))<|A1 8<|cf O aD O bY (sQ (sP (sQ sR))) (IQ bS O O O (bY.blk (i:=2) O))<|A1 10<|ct O aD O bY (sQ (sP (sQ sR))) (oR _ _ _ (hT.hp bY)) (aL HP O O)<|fun EB df=>A1 11<|cH O aD O df (sQ (sP (sQ sR))) (f:=fun b=> .slice (some ⟨b,0,none⟩) 1 1) (cB dh O O (sz:=1) (vs:=[U _]) O O az az O O)<|fun b14 y8 bX=> ?_
    (try simp only[lf]at bX)
    refine A1 12<|fT O aD O bX (j:=1) O (fun _=>(sQ (sQ (sP (sQ sR))))) (bX.dR (i:=0) (n:=1) (sz:=1) O O az) O O dh O O (size:=1) (bytes:=8) O O O az gX J iz<|fun v17 Tf cI=> ?_
    simp only[z2,dx,pull]at cI
    refine AQ 13 O (cI.sub (sQ (sQ (sP (sQ sR))))) (af O)<|AQ 14 O (cI.sub (sQ (sQ (sP (sQ sR))))) (fA ny 68 O jB O)<|A1 15<|ed O aD cI (j:=3) O (sQ (sQ (sP (sQ sR)))) (bL O O (v:=v17) O (aZ (cI.get (i:=1) O)).1 (aZ (cI.get (i:=1) O)).2 (cI.blk (i:=3) O) Lz)<|fun ZZ fI=> ?_
    simp only[z2,dx,pull]at fI
    rw[GD]at fI
    refine AD ?_
    refine⟨((Fr.refl _ _)).u4.u4.u4.u4.u1,v17,(Hp.conv (fI.sub (sQ sR)) RQ),trivial⟩
   refine cf O aD O bY (sQ (sP (sQ sR))) (IQ bS O O O (bY.blk (i:=2) O))<|gp 4 10 aP ?_ ?_
   .refine cf O aD O bY (sQ (sP (sQ sR))) (aG dh O O (bY.cell (i:=2) O Eu))<|A1 10<|ct O aD O bY (sQ (sP (sQ sR))) (oR _ _ _ (hT.hp bY)) (aL HP O O)<|fun Wv dK=>A1 11<|cH O aD O dK (sQ (sP (sQ sR))) (f:=fun b=> .slice (some ⟨b,0,none⟩) 1 1) (cB dh O O (sz:=1) (vs:=[U _]) O O az az O O)<|fun b30 w28 gj=> ?_
    (try simp only[lf]at gj)
    refine A1 12<|fT O aD O gj (j:=1) O (fun _=>(sQ (sQ (sP (sQ sR))))) (gj.dR (i:=0) (n:=1) (sz:=1) O O az) O O dh O O (size:=1) (bytes:=8) O O O az gX J iz<|fun v33 w31 iC=> ?_
    simp only[z2,dx,pull]at iC
    refine AQ 13 O (iC.sub (sQ (sQ (sP (sQ sR))))) (af O)<|AQ 14 O (iC.sub (sQ (sQ (sP (sQ sR))))) (fA ny 68 O jB O)<|A1 15<|ed O aD iC (j:=3) O (sQ (sQ (sP (sQ sR)))) (bL O O (v:=v33) O (aZ (iC.get (i:=1) O)).1 (aZ (iC.get (i:=1) O)).2 (iC.blk (i:=3) O) Lz)<|fun w36 uy=> ?_
    simp only[z2,dx,pull]at uy
    rw[GD]at uy
    refine AD ?_
    refine⟨((Fr.refl _ _)).u4.u4.u4.u4.u1,v33,(Hp.conv (uy.sub (sQ sR)) RQ),trivial⟩
   refine ct O aD O bY (sQ (sP (sQ sR))) (oR _ _ _ (hT.hp bY)) (aL HP O O)<|fun w38 kD=>gp 4 11 aP ?_ ?_
   .refine cf O aD O kD (sQ (sP (sQ sR))) (aG dh O O (kD.cell (i:=2) O Eu))<|A1 11<|cH O aD O kD (sQ (sP (sQ sR))) (f:=fun b=> .slice (some ⟨b,0,none⟩) 1 1) (cB dh O O (sz:=1) (vs:=[U _]) O O az az O O)<|fun b44 w42 mj=> ?_
    (try simp only[lf]at mj)
    refine A1 12<|fT O aD O mj (j:=1) O (fun _=>(sQ (sQ (sP (sQ sR))))) (mj.dR (i:=0) (n:=1) (sz:=1) O O az) O O dh O O (size:=1) (bytes:=8) O O O az gX J iz<|fun v47 w45 oa=> ?_
    simp only[z2,dx,pull]at oa
    refine AQ 13 O (oa.sub (sQ (sQ (sP (sQ sR))))) (af O)<|AQ 14 O (oa.sub (sQ (sQ (sP (sQ sR))))) (fA ny 68 O jB O)<|A1 15<|ed O aD oa (j:=3) O (sQ (sQ (sP (sQ sR)))) (bL O O (v:=v47) O (aZ (oa.get (i:=1) O)).1 (aZ (oa.get (i:=1) O)).2 (oa.blk (i:=3) O) Lz)<|fun w50 rY=> ?_
    simp only[z2,dx,pull]at rY
    rw[GD]at rY
    refine AD ?_
    refine⟨((Fr.refl _ _)).u4.u4.u4.u4.u1,v47,(Hp.conv (rY.sub (sQ sR)) RQ),trivial⟩
   refine cH O aD O kD (sQ (sP (sQ sR))) (f:=fun b=> .slice (some ⟨b,0,none⟩) 1 1) (cB dh O O (sz:=1) (vs:=[U _]) O O az az O O)<|fun b54 w52 jA=> ?_
   (try simp only[lf]at jA)
   refine A1 4<|cf O aD O jA (sQ (sQ (sP (sQ sR)))) (aG dh O O (jA.cell (i:=3) O Eu))<|A1 12<|fT O aD O jA (j:=1) O (fun _=>(sQ (sQ (sP (sQ sR))))) (jA.dR (i:=0) (n:=1) (sz:=1) O O az) O O dh O O (size:=1) (bytes:=8) O O O az gX J iz<|fun v59 w57 oF=> ?_
   simp only[z2,dx,pull]at oF
   refine AQ 13 O (oF.sub (sQ (sQ (sP (sQ sR))))) (af O)<|AQ 14 O (oF.sub (sQ (sQ (sP (sQ sR))))) (fA ny 68 O jB O)<|A1 15<|ed O aD oF (j:=3) O (sQ (sQ (sP (sQ sR)))) (bL O O (v:=v59) O (aZ (oF.get (i:=1) O)).1 (aZ (oF.get (i:=1) O)).2 (oF.blk (i:=3) O) Lz)<|fun w62 oV=> ?_
   simp only[z2,dx,pull]at oV
   rw[GD]at oV
   refine AD ?_
   refine⟨((Fr.refl _ _)).u4.u4.u4.u4.u1,v59,(Hp.conv (oV.sub (sQ sR)) RQ),trivial⟩
  rintro v3 aN3 w64 ayv wR-
  simp only[z2,dx,pull]at wR
  have atQ:=ayv.t1 17 aka
  refine au<|V (ax atQ O J)<|mI rfl<|aa<| ?_
  refine⟨(k+1,v3),aW,(((uM.u O).t ayv O)).u1.u1,(Hp.conv wR aM),(aK I aM),J,J⟩
 refine a7 (id:=0) rfl<|SR<|aE ajH<|aE (v:=I 0) rfl<|aa<|aA<|have Ju:k.toNat=(pts r).toNat:=J;?_
 rw[Ju]at je
 refine bt (G:=Int×Value×(List SM)×(List bu)) (fun⟨i,v2,rs,Z1⟩ s' w'=>(Fr (rg 4 5 (rg 37 76 [])) _ s')/\(Hp W0 w' (_:: .row v2 100 1 rs.length (rs.map SM.v):: .blk b (.cells (lG r 0 1 (v1) (v2)).toArray 212 (0,0))::Z1))/\(s' 37=I i)/\(0<=i)/\(i<=pts r)/\(rs.map SM.l=Fx r (pts r).toNat i.toNat)/\(∃Zr,Z1=Zr++L/\∀x∈rs,pB (Kz KN Zr) x.v 1 x.l.length (x.l.map U))/\(rs.length=i.toNat)) (fun⟨i,v2,rs,Z1⟩=>(pts r-i).toNat) ((0,.slice none 0 0,[],L)) ⟨Fr.refl _ _,je,rfl,J,J,rfl,⟨[],rfl,fun x hx=>by cases hx⟩,rfl⟩ ?_
 rintro⟨i,v2,rs,Z1⟩ aN4 w65 ⟨atS,wP,aav,i0,hi,T7,hZ,hln⟩
 have atT:=atS.w1 36
 obtain⟨ayw,aqs⟩:=atS.t2 0 mz 2 ajH
 obtain⟨Zr,rfl,hE⟩:=hZ
 refine SR<|V (aN aav atT)<|aa<|ai<|aF O (fun h67=> ?_) (fun h67=> ?_)
 .refine an<|ai<|aA<|SR<|aE aav<|aI rfl<|aa<|SR<|aE aqs<|Yx O wP (f:=fun b=>(.slice (some ⟨b,0,none⟩) (pts r).toNat (pts r).toNat)) (PY (cl:=fun x:BitVec 64=>[U x]) (sz:=1) (z0:=0#64) (n:=(pts r).toNat) (fun _=>rfl) az dh O O aP O (aK I (show _=(((pts r).toNat:Nat):Int)from by omega)) (aK I (show _=(((pts r).toNat:Nat):Int)from by omega)) (by show 8*_<=_;omega) iz)<|fun b68 w69 wA=> ?_
  rw[mk_zero (r:=r) (i:=i)]at wA
  have aaw:=wA.sE (pts r).toNat 1 (by rw[gF,Co,lU]) iz
  refine V (run_assign bA) ?_
  refine aa<|ai<|SR<|aE aqs<|aE (v:=I 0) rfl<|aa<|aA<|bt (G:=Int) (fun j s' w'=>(Fr (rg 6 3 (rg 43 59 [])) _ s')/\(Hp W0 w' (.row (.slice (some ⟨b68,0,none⟩) (pts r).toNat (pts r).toNat) 35 1 (pts r).toNat ((Ah r i (pts r).toNat j.toNat).map U)::_))/\(s' 43=I j)/\(0<=j)/\(j<=pts r)) (fun j=>(pts r-j).toNat) (0) ⟨Fr.refl _ _,aaw,rfl,J,J⟩<| ?_
  rintro j aN5 w72 ⟨akb,Ja,Ty,j0,hj⟩
  obtain⟨aqt,akc,atV⟩:=akb.w3 4 5 42
  obtain⟨EL,atW⟩:=akb.t2 0 ayw 37 aav
  refine SR<|V (aN Ty atV)<|aa<|ai<|aF O (fun h74=> ?_) (fun h74=> ?_)
  .refine an<|ai<|aA<|SR<|aE Ty<|aI rfl<|aa<|ai<|gD aP Ja (sQ sR)<|fun w75 oG=>have qQ:=oG.sub (sQ sR);AQ 0 O qQ (run_move akc)<|AQ 1 O qQ (mV (I _) O)<|AQ 2 O qQ (run_move EL)<|AQ 3 O qQ (af O)<|AQ 4 O qQ (fA ny 68 O jB O)<|AT 5 O qQ (fun w hS=>aG dh O O (hS.cell (i:=2) O Eu))<|AQ 6 O qQ (run_move aqt)<|AT 7 O qQ (fun w hS=>ah (hS.sl (i:=0) O) dh cP O O J)<|AT 8 O qQ (fun w hS=>aG dM O O (sL (hS.sl (i:=0) O) J))<|AQ 9 O qQ (run_move EL)<|AQ 10 O qQ (af O)<|AQ 11 O qQ (fA ny 68 O jB O)<|AT 12 O qQ (fun w hS=>aG dh O O (hS.cell (i:=2) O Eu))<|AQ 13 O qQ (mV (I _) O)<|AT 14 O qQ (fun w hS=>ah (hS.sl (i:=0) O) dh cP O O J)<|AT 15 O qQ (fun w hS=>aG dM O O (sL (hS.sl (i:=0) O) J))<|AQ 16 O qQ (iH O O)<|A1 17<|cf O aD O oG (sQ sR) (ah (oG.sl (i:=0) O) dh cP O O J)<|A1 18<|arZ (u:=U _) O aD oG (i:=0) O (fun _=>(sQ sR)) J O O O O O J<|fun w81 oT=> ?_
   simp only[z2,dx,pull]at oT
   rw[CG afO,GC,lU]at oT
   refine AD<|ai<|ec aP oT<|fun w83 lj=>have r6:=lj;AQ 0 O r6 (run_move EL)<|AQ 1 O r6 (af O)<|AQ 2 O r6 (fA ny 0 O iW O)<|AT 3 O r6 (fun w hS=>IQ bS O O O (hS.blk (i:=3) O))<|AQ 4 O r6 (run_move EL)<|AQ 5 O r6 (run_move EL)<|AQ 6 O r6 (af O)<|AQ 7 O r6 (fA ny 68 O jB O)<|AT 8 O r6 (fun w hS=>aG dh O O (hS.cell (i:=3) O Eu))<|AQ 9 O r6 (run_move aqt)<|AT 10 O r6 (fun w hS=>ah (hS.sl (i:=1) O) dh cP O O J)<|AT 11 O r6 (fun w hS=>aG dM O O (sL (hS.sl (i:=1) O) J))<|AQ 13 O r6 (run_move EL)<|AQ 14 O r6 (run_move EL)<|AQ 15 O r6 (af O)<|AQ 16 O r6 (fA ny 68 O jB O)<|AT 17 O r6 (fun w hS=>aG dh O O (hS.cell (i:=3) O Eu))<|AQ 18 O r6 (mV (I _) O)<|AT 19 O r6 (fun w hS=>ah (hS.sl (i:=1) O) dh cP O O J)<|AT 20 O r6 (fun w hS=>aG dM O O (sL (hS.sl (i:=1) O) J))<|A1 12<|ct O aD O lj sR (lM _ _ _ _ _ _ _ _ (lj.blk (i:=3) O) (lj.sl (i:=1) O)) (aL call174 O O)<|fun w85 uA=>A1 21<|ct O aD O uA sR (lM _ _ _ _ _ _ _ _ (uA.blk (i:=3) O) (uA.sl (i:=1) O)) (aL call174 O O)<|fun w87 ze=>A1 22<|ct O aD O ze sR (AF _ _ _ _ (hT.hp ze)) (bz call168 O O O)<|fun w89 oH=>have Dg:=oH;?_
   refine AQ 23 O Dg (run_move bA) ?_
   refine AQ 24 O Dg (bk O (v:=I _) O)<|AQ 25 O Dg (bk O (v:=B _) O)<|AQ 26 O Dg (aV (I _) O)<|AQ 27 O Dg (aV (B _) O)<|AD<|SR<|mB rfl<|aa<|bW O (fun h92=> ?_) (fun h92=> ?_)
   .refine au<|aE akc<|mI rfl<|aE EL<|V (af O)<|V (fA ny 68 O jB O)<|V (aG dh O O (oH.cell (i:=3) O Eu))<|mI rfl<|V (ah (oH.sl (i:=1) O) dh cP O O afD)<|V (aG dM O O (sL (oH.sl (i:=1) O) afD))<|V (ah (oH.sl (i:=0) O) dh cP O O J)<|Aa (u:=U _) oH (i:=0) O J O O O O O J<|fun w93 uB=> ?_
    simp only[z2,dx,pull]at uB
    rw[CG afO,GC,lU]at uB
    refine aa<|au<|V (ax Ty O J)<|mI rfl<|aa<| ?_
    refine⟨j+1,aW,akb.u4.u4.u4.u4.u4.u4.u4.u4.u4.u4.u4.u4.u4.u4.u4.u1.u1,(Hp.conv uB (by rw[ad1 J (adY ‹_=true›).symm];done)),(aK I aM),J,J⟩
   refine an<|au<|V (ax Ty O J)<|mI rfl<|aa<| ?_
   refine⟨j+1,aW,akb.u4.u4.u4.u4.u4.u4.u4.u4.u4.u4.u4.u4.u4,(Hp.conv oH (by rw[Vv J (ah5 ‹_=false›).symm];done)),(aK I aM),J,J⟩
  refine a7 (id:=4) rfl<|au<|aE EL<|aE EL<|V (af O)<|V (fA ny 69 O sizeOf210 O)<|V (aG Lo O O (Ja.cell (i:=3) O apq))<|aE akc<|tQ 1 1 Ja (yL (v:=(.slice (some ⟨b68,0,none⟩) (pts r).toNat (pts r).toNat)) O Lo O O O O)<|fun b97 w95 pX=> ?_
  (try simp only[lf]at pX)
  refine gf O pX (i:=3) O (pX.dR (i:=0) (n:=1) (sz:=1) O O az) O O Lo O O (size:=1) (bytes:=24) O O O az gX J iz<|fun v98 w99 qH=> ?_
  simp only[z2,dx,pull]at qH
  refine V (af O)<|V (fA ny 69 O sizeOf210 O)<|bg qH (i:=4) O (bL O O (v:=v98) O (aZ (qH.get (i:=3) O)).1 (aZ (qH.get (i:=3) O)).2 (qH.blk (i:=4) O) Lz)<|fun atM rM=> ?_
  simp only[z2,dx,pull]at rM
  rw[ah7]at rM
  refine aa<|au<| ?_
  rw[show j.toNat=(pts r).toNat by omega]at rM
  obtain⟨aap,ajY,ajZ,-⟩:=(rM.pj [1]).TY (KN)
  have nj:Hp _ atM (_::_::_::_::(aap++(Zr++L))):=ajY.Iz (L:=[_,_,_,_]) (L':=(Zr++L))
  refine V (ax atW O J)<|mI rfl<|aa<| ?_
  refine⟨(i+1,v98,rs++[SM.mk (.slice (some ⟨b68,0,none⟩) (pts r).toNat (pts r).toNat) (Ah r i (pts r).toNat (pts r).toNat)],(aap++(Zr++L))),aW,(((atS.u4.u4).t akb O)).u4.u4.u4.u1,(Hp.conv (nj.sub (sQ sR)) (by simp only[gU,dZ,lR,Ca,ez];done)),(aK I aM),J,J,?_,?_,?_⟩
  .rw[gU,T7,Zk i0];rfl
  .exact⟨aap++Zr,(dG _ _ _).symm,aia hE ajZ⟩
  rw[dZ,ez];omega
 refine a7 (id:=2) O ?_
 obtain⟨aod,ayx,ayy,-⟩:=wP.TY (KN)
 have QV:Hp _ w65 (_::_::(aod++(Zr++L))):=ayx.Iz (L:=[_,_]) (L':=(Zr++L))
 obtain⟨aoe,ayz,ayA,-⟩:=QV.TY (KN)
 have xC:Hp _ w65 (_::(aoe++(aod++(Zr++L)))):=ayz.Iz (L:=[_]) (L':=(aod++(Zr++L)))
 have ei:i=pts r:=J
 rw[show i.toNat=(pts r).toNat by omega]at T7
 have hTV:IP (Kz KN (aoe++(aod++Zr))) r v1 v2 rs:=⟨ayy.mono (Le.zz (fun x hx=>(bH _ (dL _ hx)))),ayA.mono (Le.zz (fun x hx=>(dL _ hx))),fun x hx=>(hE x hx).mono (Le.zz (fun x hx=>(bH _ (bH _ hx)))),T7⟩
 exact rf O ⟨rfl,v1,v2,rs,_,hTV,by simpa only[dG]using xC⟩
section
theorem Om(w:World):(callFunc 259 #[]).run Tryz.prog w= .ok (.value (.tuple #[])) w:=run_call_mark0 func259 aP aP aP .disable aP w
theorem QW(w:World):(callFunc 261 #[]).run Tryz.prog w= .ok (.value (.tuple #[])) w:=run_call_mark0 func261 aP aP aP .enable aP w
theorem aax(a:Addr)(w:World):(callFunc 262 #[.pointer (some a)]).run Tryz.prog w= .ok (.value (.tuple #[])) w:=run_call_marked func262 aP aP aP .acquire aP a w
theorem akd(a:Addr)(w:World):(callFunc 264 #[.pointer (some a)]).run Tryz.prog w= .ok (.value (.tuple #[])) w:=run_call_marked func264 aP aP aP .releaseMerge aP a w
theorem ake(a:Addr)(x:Value)(u:FrameMode)(w:World)(hc:w.cell? a=some x)(hz:w.frozen? a=false):
  CallsD Tryz.prog 237 #[.pointer (some a),.bool true] u w fun e u' w'=>u'=u/\(e= .returned (.tuple #[])/\w'=w.drew.setCell a (.int .u32 1)):=by
 have hc':w.drew.cell? a=some x:=by go_simp
 have hz':w.drew.frozen? a=false:=by go_simp
 have hst:=run_call_store (P:=Tryz.prog) func255 aP aP aP aP (k:= .u32) (y:=1) hc' hz'
 go_enter_d func237,ntmps237
 go_wp2
 go_region_calls
 all_goals(go_end0;exact⟨rfl,rfl⟩)
theorem aeO(a:Addr)(u:FrameMode)(w:World)(hc:w.cell? a=some (.int .i32 1))(hz:w.frozen? a=false):
  CallsD Tryz.prog 236 #[.pointer (some a)] u w fun e u' w'=>u'=u/\(e= .returned (.tuple #[])/\w'=w.setCell a (.int .i32 0)):=by
 have hd:=Om
 have he:=QW
 have hr:=akd
 have axK:=run_call_add (P:=Tryz.prog) func265 aP aP aP .i32 aP (y:= -1) (s:=0) hc hz (by simp[go_sem];rfl)
 have hcv:=run_convert_to_unsafe (P:=Tryz.prog) (src:=273) (dst:=277) underlying273 underlying277 aP hc
 go_enter_d func236,ntmps236
 go_wp2
 go_end0
 go_wp2
 go_end0
 exact⟨rfl,rfl⟩
theorem aof(a:Addr)(w:World)(hc:w.cell? a=some (.int .i32 0))(hz:w.frozen? a=false):
  Calls Tryz.prog 235 #[.pointer (some a)] w fun e w'=>e= .returned (.tuple #[])/\w'=w.setCell a (.int .i32 1):=by
 have hd:=Om
 have he:=QW
 have ha:=aax
 have aN8:=run_call_cas_hit (P:=Tryz.prog) func260 aP aP aP .i32 aP (y:=1) hc hz
 have hc':(w.setCell a (.int .i32 1)).cell? a=some (.int .i32 1):=World.cell?_setCell_same w a _ hc
 have hcv:=run_convert_to_unsafe (P:=Tryz.prog) (src:=273) (dst:=277) underlying273 underlying277 aP hc'
 go_enter func235,ntmps235
 go_wp2
 refine bodyPost_ret (results_none O _ _ _) O ?_
 go_wp2
 go_end0
 exact⟨rfl,rfl⟩
theorem aog{q:Value->World->Prop}{e:Ending}{w:World}(h:jW q e w):∃v,e= .returned v/\q v w:=by
 cases e<;>first|exact⟨_,rfl,h⟩|exact h.elim
set_option maxRecDepth 100000 in
set_option maxHeartbeats 1600000 in
theorem aoh(W0 w:World)(b:Nat)(r:Rl)(L:List bu)(hT:o3 W0)(hH:Hp W0 w (.blk b (.cells (lG r 0 0 (.slice none 0 0) (.slice none 0 0)).toArray 212 (0,0))::L)):
  Calls Tryz.prog 207 #[.pointer (some ⟨b,65,none⟩),.func (.func 173) #[.pointer (some ⟨b,0,none⟩)] #[]] w fun e w'=>e= .returned (.tuple #[])/\∃(v1 v2:Value) (rs:List SM) (Z:List bu),IP (Kz KN Z) r v1 v2 rs/\Hp W0 w' (.blk b (.cells (lG r 1 0 (v1) (v2)).toArray 212 (0,0))::(Z++L)):=by
 have G9:w.cell? ⟨b,65+1,none⟩=some (.int .i32 0):=hH.cell (i:=0) O apo
 have f66:w.frozen? ⟨b,65+1,none⟩=false:=hH.fz (i:=0) O
 have je:=hH.setCell (i:=0) (b:=b) (o:=66) (v:= .int .i32 1) O
 simp only[jg,Vw]at je
 have hl:=Ye (P:=Tryz.prog) func234 aP aP aP .u32 aP (w:=w.setCell ⟨b,65+1,none⟩ (.int .i32 1)) (a:=⟨b,65,none⟩) (x:=0) (je.cell (i:=0) O abz)
 have ayB:∀(x:Bool) (w:World),(Op.unary .not (.bool x)).run Tryz.prog w= .ok (.bool (!x)) w:=fun _ _=>rfl
 go_enter_defers func207,ntmps207
 go_wp2_with (go_at_call 235;refine(aof ⟨b,65+1,none⟩ _ G9 f66).mono ?_;rintro e w' ⟨rfl,rfl⟩)
 go_wp2_with (first|(go_at_call 173;refine(FM W0 b r L _ hT je).mono ?_;intro e w' hr;obtain⟨v,rfl,rfl,v1,v2,rs,Z,hV,bp⟩:=aog hr)|(go_at_call 206;go_in))
 refine leaves_cons (f:=237) (args:=#[.pointer (some ⟨b,65,none⟩),.bool true]) aJ (by simp[go_sem])<|(ake ⟨b,65,none⟩ (.int .u32 0) .returning _ (bp.cell (i:=0) O abz) (bp.fz (i:=0) O)).mono<| ?_
 rintro e u' w'' ⟨rfl,rfl,rfl⟩
 have tY:=bp.drew.setCell (i:=0) (b:=b) (o:=65) (v:= .int .u32 1) O
 simp only[jg,ah8]at tY
 refine leaves_cons (f:=236) (args:=#[.pointer (some ⟨b,66,none⟩)]) (by simp[settle]) (by simp[go_sem])<|(aeO ⟨b,66,none⟩ _ _ (tY.cell (i:=0) O apo) (tY.fz (i:=0) O)).mono<| ?_
 rintro e u' w'' ⟨rfl,rfl,rfl⟩
 have iw:=tY.setCell (i:=0) (b:=b) (o:=66) (v:= .int .i32 0) O
 simp only[jg,Vw]at iw
 simp[Leaves,settle,results,results207]
 exact⟨v1,v2,rs,Z,hV,iw⟩
set_option maxRecDepth 100000 in
set_option maxHeartbeats 1600000 in
theorem akf(W0 w:World)(b:Nat)(r:Rl)(L:List bu)(hT:o3 W0)(hH:Hp W0 w (.blk b (.cells (lG r 0 0 (.slice none 0 0) (.slice none 0 0)).toArray 212 (0,0))::L)):
  Calls Tryz.prog 172 #[.pointer (some ⟨b,65,none⟩),.func (.func 173) #[.pointer (some ⟨b,0,none⟩)] #[]] w fun e w'=>e= .returned (.tuple #[])/\∃(v1 v2:Value) (rs:List SM) (Z:List bu),IP (Kz KN Z) r v1 v2 rs/\Hp W0 w' (.blk b (.cells (lG r 1 0 (v1) (v2)).toArray 212 (0,0))::(Z++L)):=by
 have hl:=Ye (P:=Tryz.prog) func234 aP aP aP .u32 aP (hH.cell (i:=0) O abz)
 have ayB:∀(x:Bool) (w:World),(Op.unary .not (.bool x)).run Tryz.prog w= .ok (.bool (!x)) w:=fun _ _=>rfl
 go_enter func172,ntmps172
 go_wp2_with (first|(go_at_call 207;refine(aoh W0 _ b r L hT hH).mono ?_;rintro e w' ⟨rfl,hq⟩)|(go_at_call 206;go_in))
 go_end0
 exact⟨rfl,hq⟩
theorem aoi(w:World)(b:Nat)(fv:Value)(h0:w.cell? ⟨b,65,none⟩=some (.int .u32 1)):
  Calls Tryz.prog 172 #[.pointer (some ⟨b,65,none⟩),fv] w fun e w'=>e= .returned (.tuple #[])/\w'=w:=by
 have hl:=Ye (P:=Tryz.prog) func234 aP aP aP .u32 aP h0
 have ayB:∀(x:Bool) (w:World),(Op.unary .not (.bool x)).run Tryz.prog w= .ok (.bool (!x)) w:=fun _ _=>rfl
 go_enter func172,ntmps172
 go_wp2
 go_end0
 exact⟨rfl,rfl⟩
theorem atX(W0 w:World)(b:Nat)(r:Rl)(Z L:List bu)(hT:o3 W0)(hZ:TbZ 212 r b Z)(hH:Hp W0 w (Z++L)):
  Calls Tryz.prog 172 #[.pointer (some ⟨b,65,none⟩),.func (.func 173) #[.pointer (some ⟨b,0,none⟩)] #[]] w (jW fun u w'=>u= .tuple #[]/\∃(v1 v2:Value) (rs:List SM) (Z:List bu),IP (Kz KN Z) r v1 v2 rs/\Hp W0 w' (.blk b (.cells (lG r 1 0 (v1) (v2)).toArray 212 (0,0))::(Z++L))):=by
 rcases hZ with rfl|⟨v1,v2,rs,Zr,rfl,hV⟩
 .exact(akf W0 w b r L hT hH).mono fun e w' ⟨he,hq⟩=>by subst he;exact⟨rfl,hq⟩
 exact(aoi w b _ (hH.cell (i:=0) O abz)).mono fun e w' ⟨he,hw⟩=>by subst he hw;exact⟨rfl,v1,v2,rs,Zr,hV,hH⟩
end
theorem Ea(W0:World)(b:Nat)(r:Rl)(Z L:List bu)(a c:BitVec 64)(w:World)(hT:o3 W0)(hZ:TbZ 212 r b Z)(hH:Hp W0 w (Z++L)):Calls Tryz.prog 142 #[.pointer (some ⟨b,0,none⟩),U a,U c] w (jW fun u w'=>u=U (js r a c)/\∃Z',TbZ 212 r b Z'/\Hp W0 w' (Z'++L)):=by
 refine en func142 rfl rfl<|SR<|va (v:=U 0#64) rfl<|aa<|SR<|aE (v:=Pn _ _) rfl<|V (af O)<|V (fA ny 65 O sizeOf209 O)<|aE (v:=Pn _ _) rfl<|V (aib (v:=Pn _ _) O)<|cw O (atX W0 _ b r Z L hT hZ hH) (aL call172 O O)<| ?_
 rintro _ w1 ⟨rfl,v1,v2,rs,Zr,hV,bp⟩
 have ha:=apr r a
 have hc:=apr r c
 have hln:=hV.len
 have hp:=dA r
 refine aa<|SR<|aE (v:=Pn _ _) rfl<|mU rfl<|aH O bp (lM _ _ _ _ _ _ _ _ (bp.blk (i:=0) O) ((hV.words).mono (bp.kz KN.le (fun x hx=>(mT (dL _ hx))))).sl) (aL call174 O O)<|fun w3 iw=>aE (v:=Pn _ _) rfl<|mU rfl<|aH O iw (lM _ _ _ _ _ _ _ _ (iw.blk (i:=0) O) ((hV.words).mono (iw.kz KN.le (fun x hx=>(mT (dL _ hx))))).sl) (aL call174 O O)<|fun w5 jN=>aI rfl<|aI rfl<|aa<|ai<|SR<|mI rfl<|V (aN O O)<|mB rfl<|bM 23 O (fun h8=> ?_) (fun h8=> ?_)
 .refine aE (v:=B true) rfl<|aa<|cA rfl<|SR<|mU rfl<|mU rfl<|V (iH O O)<|aU rfl<|aa<|aj<|jy O (v:=U (js r a c)) (jV O (aK U (by exact Qh J))) ⟨rfl,_,.inr ⟨v1,v2,rs,Zr,rfl,hV⟩,jN⟩
 refine mI rfl<|V (aN O O)<|mB rfl<|aa<|aF O (fun h10=> ?_) (fun h10=> ?_)
 .refine SR<|mU rfl<|mU rfl<|V (iH O O)<|aU rfl<|aa<|aj<|jy O (v:=U (js r a c)) (jV O (aK U (by exact Qh J))) ⟨rfl,_,.inr ⟨v1,v2,rs,Zr,rfl,hV⟩,jN⟩
 refine an<|SR<|have hrw:=(hV.row (i:=Es r a) J).1;have hrl:(rs.getD (Es r a).toNat ru0).l.length=(pts r).toNat:=(by rw[hrw,Co]);aE (v:=Pn _ _) rfl<|V (af O)<|V (fA ny 69 O sizeOf210 O)<|V (aG Lo O O (jN.cell (i:=0) O apq))<|mI rfl<|V (ah ((hV.ah9).mono (jN.kz KN.le (fun x hx=>(mT (dL _ hx))))).sl Lo jB O O J)<|V (aG dh O O (((hV.ah9).mono (jN.kz KN.le (fun x hx=>(mT (dL _ hx))))).sl.cell _ _ (asa J)))<|mI rfl<|V (ah (((hV.row J).2).mono (jN.kz KN.le (fun x hx=>(mT (dL _ hx))))).sl dh cP O O J)<|V (aG dM O O ((((hV.row J).2).mono (jN.kz KN.le (fun x hx=>(mT (dL _ hx))))).sl.atU J J))<|aU rfl<|aa<|aj<|jy O (v:=U (js r a c)) (jV O (aK U (by rw[hrw,am0 J];exact ah6 J))) ⟨rfl,_,.inr ⟨v1,v2,rs,Zr,rfl,hV⟩,jN⟩
theorem Jd(W0:World)(B:Nat)(tb:J2)(tl:List (Nat×Rl))(Z R:List bu)(a c:El)(w:World)(hT:o3 W0)(htl:∀i,i<8->∀p,tb i=some p->p∈tl)(hB:Kz (Kw W0) R B (.cells (Vx tb).toArray 199 (0,0)))(hZ:wM 212 tl Z)(hH:Hp W0 w (Z++R)):Calls Tryz.prog 141 #[.agg (iM a),.agg (iM c),.pointer (some ⟨B,0,none⟩)] w (jW fun u w'=>u= .agg (iM (pu tb a c))/\∃Z',wM 212 tl Z'/\Hp W0 w' (Z'++R)):=by
 refine en func141 rfl rfl<|SR<|gM hH (v:= .agg _) rfl<|fun b3 w1 bp=>gM bp (v:= .agg _) rfl<|fun b6 w4 bY=>lJ bY (aS e8)<|fun b9 w7 eX=>aa<|ai<|SR<|V (cF (cs:=Vx tb) Yf O O O (bj (eX.kz (Le.refl _) (fun x hx=>(mT (mT (mT (bH _ hx))))) _ _ hB)))<|aE (v:=I 0) rfl<|aa<|aA<|bt (G:=Int×El×(List bu)) (fun⟨k,e1,Z1⟩ s' w'=>(Fr (6::7::(rg 9 25 [])) _ s')/\(Hp W0 w' (_::_:: .blk b3 (.cells (iM e1) 37 (0,0))::Z1))/\(s' 9=I k)/\(0<=k)/\(k<=8)/\(e1=m7 (pu tb a c) a k)/\(∃Zt,Z1=Zt++R/\wM 212 tl Zt)) (fun⟨k,e1,Z1⟩=>(8-k).toNat) ((0,a,(Z++R))) ⟨Fr.refl _ _,eX,rfl,J,J,(vJ _ _).symm,⟨_,rfl,hZ⟩⟩<| ?_
 rintro⟨k,e1,Z1⟩ Wx EB ⟨nT,cg,Oa,h0,hk,hr,hS⟩
 obtain⟨pW,QL,N7,y9⟩:=nT.w4 3 4 5 8
 obtain⟨Zt,rfl,hZt⟩:=hS
 refine SR<|V (aN Oa O)<|aa<|ai<|aF O (fun h12=> ?_) (fun h12=> ?_)
 .refine an<|ai<|aA<|SR<|aE Oa<|V (LO Yf isAgg198 sizeOf198 y9 Oa J (asd _ J))<|aI rfl<| ?_
  refine V (run_assign bA) ?_
  refine aa<|ai<|SR<| ?_
  refine V (run_move bA) ?_
  refine V (Qi underlying198 O O)<|aa<|bW O (fun F4=> ?_) (fun F4=> ?_)
  .refine ai<|gD aP cg (sP (sP (sQ (sA sR))))<|fun Tf cI=>have tW:=cI.sub (sP (sP (sQ (sA sR))));AQ 0 O tW (mV (I _) O)<| ?_
   refine AQ 1 O tW (run_move bA) ?_
   refine AQ 2 O tW (mV (I _) O)<|AQ 3 O tW (a6 bI cP pW O J)<|AQ 5 O tW (mV (I _) O)<|AQ 6 O tW (a6 bI cP QL O J)<|tV 7 O tW dM 1 O O (jJ _ J)<|A1 4<|cf O aD O cI (sP (sP (sQ (sA sR)))) (aG dM O O (cI.cell (i:=2) O (jJ _ J)))<|A1 8<| ?_
   obtain⟨⟨bi,ri⟩,hi⟩:=Option.isSome_iff_exists.1 ‹(tb k.toNat).isSome=true›
   obtain⟨z27,Y22,aFl,aFm,ayC⟩:=hZt.pick (htl _ J _ hi)
   refine yc O aD O (Ea W0 bi ri z27 (Y22++([_,_,_]++R)) _ _ _ hT aFl (Hp.aw4 (A:=[_,_,_]) cI aFm)) (bz call142 (aK aic hi) O O) (fun u w' ⟨_,z',hz',h⟩=>let⟨Z',_,q2⟩:=ayC z' hz';Hp.sub (L:=_::_::_::(Z'++R)) (Hp.aps (A:=[_,_,_]) h q2) (sP (sP (sQ (sA sR))))) ?_
   rintro _ Wv ⟨rfl,z34,aFn,rK⟩
   obtain⟨ayD,aFo,aFp⟩:=ayC z34 aFn
   have ke:Hp _ Wv (_::_::_::(ayD++R)):=Hp.aps (A:=[_,_,_]) rK aFp
   refine AQ 9 O (ke.sub (sP (sP (sQ (sA sR))))) (a6 bI cP pW O J)<|A1 10<|ed O aD ke (j:=2) O (sP (sP (sQ (sA sR)))) (bL O O (v:=U _) O O O (ke.blk (i:=2) O) xY)<|fun w37 uz=> ?_
   rw[n5]at uz
   refine AD<|a7 (id:=1) rfl<|au<|V (ax Oa O J)<|mI rfl<|aa<| ?_
   refine⟨(k+1,_,(ayD++R)),aW,nT.u4.u4.u4.u4.u1.u1.u1,uz,(aK I aM),J,J,?_,?_⟩
   .exact ase hr h0 hi
   exact⟨_,rfl,aFo⟩
  refine an<|gD aP cg (sP (sP (sQ sR)))<|fun w39 lE=>have wB:=lE.sub (sP (sP (sQ sR)));AQ 0 O wB (mV (I _) O)<|AQ 1 O wB (a6 bI cP pW O J)<|AQ 3 O wB (mV (I _) O)<|AQ 4 O wB (a6 bI cP QL O J)<|tV 5 O wB dM 1 O O (jJ _ J)<|A1 2<|cf O aD O lE (sP (sP (sQ sR))) (aG dM O O (lE.cell (i:=2) O (jJ _ J)))<|AQ 6 O wB (iH O O)<|AQ 7 O wB (a6 bI cP pW O J)<|A1 8<|ed O aD lE (j:=2) O (sP (sP (sQ sR))) (bL O O (v:=U _) O O O (lE.blk (i:=2) O) xY)<|fun w45 oa=> ?_
  rw[n5]at oa
  refine AD<|au<|V (ax Oa O J)<|mI rfl<|aa<| ?_
  refine⟨(k+1,_,(Zt++R)),aW,nT.u4.u4.u4.u4.u1,oa,(aK I aM),J,J,?_,?_⟩
  .exact aw5 hr h0 ‹(tb k.toNat).isSome=false›
  exact⟨_,rfl,hZt⟩
 refine a7 (id:=0) rfl<|SR<|V (cM bI O O pW (cg.blk (i:=2) O))<|bg cg (i:=0) O (cR O N7 O (cg.blk (i:=0) O))<|fun w47 kC=>aa<|aj<|rz O N7 kC (i:=0) O bI O jI ⟨aK Value.agg (l6 LB),Zt,hZt,kC.sub (sQ (sQ (sQ sR)))⟩
theorem On(s:kP)(w:World)(hs:k7 (Kw w) s):Calls Tryz.prog 98 #[.agg (qJ s)] w (jW fun u w'=>∃(B:Nat) (tb:J2) (tl:List (Nat×Rl)) (Zt:List bu),u= .func (.func 141) #[] #[.pointer (some ⟨B,0,none⟩)]/\aie s.sh tb/\(∀i,i<8->∀p,tb i=some p->p∈tl)/\wM 212 tl Zt/\Hp w w' (Zt++[.blk B (.cells (Vx tb).toArray 199 (0,0))])):=by
 have BY:=hs.aY.small
 unfold maxLen at BY
 refine eH func98 rfl rfl fun hH=>SR<|gM hH (v:= .agg _) rfl<|fun b3 w1 bp=>va (v:= .nilFunc) rfl<|aa<|SR<|lJ bp (aS Tryz.zeroValue199)<|fun b6 w4 bY=>aa<|ai<|SR<|V (fA dm 1 O jC O)<|lV dr bY 1 O O rfl<|V (aC (hs.aY.sl.hp bY) O dr O)<|aE (v:=I 0) rfl<|aa<|aA<|bt (G:=Int×(List (Nat×Rl))×J2×(List bu)) (fun⟨k,tl,tb,Z⟩ s' w'=>(Fr (4::5::(rg 9 19 [])) _ s')/\(Hp w w' (.blk b6 (.cells ((Vx tb).toArray) 199 (0,0))::_::Z))/\(s' 9=I k)/\(0<=k)/\(k<=s.aY.length)/\(IS s.sh k tb)/\(∀i,i<8->∀p,tb i=some p->p∈tl)/\(wM 212 tl Z)) (fun⟨k,tl,tb,Z⟩=>(s.aY.length-k).toNat) ((0,[],tb0,[])) ⟨Fr.refl _ _,bY,rfl,J,J,IS.start _,(fun i _ p hp=>(by cases hp)),rfl⟩<| ?_
 rintro⟨k,tl,tb,Z⟩ sg7 w7 ⟨D7,eC,Pf,h0,hk,hTo,htl,hZ⟩
 obtain⟨WA,aFq,atY⟩:=D7.w3 3 7 8
 refine SR<|V (aN Pf atY)<|aa<|ai<|aF O (fun h9=> ?_) (fun h9=> ?_)
 .refine an<|ai<|aA<|SR<|aE Pf<|V (ah (hs.aY.sl.hp eC) dr qb aFq Pf J)<|V (dY (dv:=iB) fy (hs.aY.sl.hp eC) dy O O O J)<|lJ eC (aS tR)<|fun b12 EB df=>aI rfl<|bg df (i:=0) O (sI (hs.at J J) O O O (df.blk (i:=0) O))<|fun C0 cG=>aa<|SR<|mI rfl<|V (aN O O)<|mB rfl<|bM 16 O (fun yj=> ?_) (fun yj=> ?_)
  .refine V (fA dy 0 O aO O)<|lI bx cG 0 O O rfl<|V (bU O O)<|mB rfl<|aa<|aF O (fun qk=> ?_) (fun qk=> ?_)
   .refine au<|mI rfl<|V (fA dy 2 O iW O)<|V (iT bS O O O (cG.blk (i:=0) O))<|V (dJ (vs:=[(0,.agg (dS _))]) O (aeu _))<|gM cG (v:= .agg _) rfl<|fun b21 Tj cT=>V (a6 Yf sizeOf198 WA O J)<|bg cT (i:=2) O (bL O O (v:=Pn _ _) O O O (cT.blk (i:=2) O) (by rw[vb,am2];omega))<|fun QJ eM=> ?_
    rw[aid tb (s.aY.getD k.toNat iB).rel]at eM
    have gY:Hp _ QJ (_::_::_::([bu.blk b21 (.cells (lG (s.aY.getD k.toNat iB).rel 0 0 (.slice none 0 0) (.slice none 0 0)).toArray 212 (0,0))]++Z)):=Hp.Iz (Z:=[bu.blk b21 (.cells (lG (s.aY.getD k.toNat iB).rel 0 0 (.slice none 0 0) (.slice none 0 0)).toArray 212 (0,0))]) (L:=[_,_,_]) (L':=Z) eM
    refine aa<|au<|V (ax Pf O J)<|mI rfl<|aa<| ?_
    refine⟨(k+1,((b21,(s.aY.getD k.toNat iB).rel)::tl),Vy tb k.toNat (b21,(s.aY.getD k.toNat iB).rel),([bu.blk b21 (.cells (lG (s.aY.getD k.toNat iB).rel 0 0 (.slice none 0 0) (.slice none 0 0)).toArray 212 (0,0))]++Z)),aW,D7.u4.u4.u4.u4.u4.u1,(Hp.conv (gY.sub (sQ sR)) aM),(aK I aM),J,J,?_,?_,?_⟩
    .exact hTo.put h0 (by rw[po];omega) (by rw[iF];assumption) (by rw[iF];rfl)
    .exact am4 htl
    exact wM.cons hZ
   refine an<|au<|V (ax Pf O J)<|mI rfl<|aa<| ?_
   refine⟨(k+1,tl,tb,Z),aW,D7.u4.u4.u4.u1.u1.u1,(Hp.conv (cG.sub (sQ sR)) aM),(aK I aM),J,J,?_,?_,?_⟩
   .exact hTo.skip h0 afz
   .exact htl
   exact hZ
  refine aE (v:=B false) rfl<|aa<|cQ rfl<|an<|au<|V (ax Pf O J)<|mI rfl<|aa<| ?_
  refine⟨(k+1,tl,tb,Z),aW,D7.u4.u4.u4.u1.u1.u1,(Hp.conv (cG.sub (sQ sR)) aM),(aK I aM),J,J,?_,?_,?_⟩
  .exact hTo.skip h0 afz
  .exact htl
  exact hZ
 refine a7 (id:=0) rfl<|SR<|V (Cu WA)<|va (v:= .func _ _ _) rfl<|aa<|aj<|jy rfl (v:= .func (.func 141) #[] #[.pointer (some ⟨b6,0,none⟩)]) rfl ⟨b6,tb,tl,Z,rfl,hTo.all (by rw[po];omega),htl,hZ,(eC.sub (sP (sQ sR))).perm (tZ (l₁:=[_]))⟩
theorem mr(W0:World)(m off:Nat)(C:Array Value)(te:TypeId)(x:Int)(L:List bu)(hx: -9000000000000000000<=x/\x<=9000000000000000000)(hc:C[off]?=some (I x))(w:World)(hH:Hp W0 w (.blk m (.cells C te (0,0))::L)):Calls Tryz.prog 61 #[.pointer (some ⟨m,off,none⟩),I 1] w (jW fun u w'=>u=I (x+1)/\Hp W0 w' (.blk m (.cells (C.setIfInBounds off (I (x+1))) te (0,0))::L)):=by
 refine en func61 rfl rfl<|SR<|va (v:=I 0) rfl<|aa<|SR<|aE (v:=Pn _ _) rfl<|V (af O)<|V (fA underlying133 0 O sizeOf2 O)<|mI rfl<|V (Zl (run_call_add (P:=Tryz.prog) func106 aP aP aP .i64 aP (hH.cell (i:=0) O hc) (hH.fz (i:=0) O) (am6 J)) O O)<|have bp:=hH.setCell (i:=0) (b:=m) (o:=off) (v:=I (x+1)) rfl;?_
 simp only[jg]at bp
 refine aI rfl<|aa<|aj<|jy O (v:=I (x+1)) O ⟨rfl,bp⟩
theorem oJ(m:Nat)(c:Cn)(w:World)(hb:w.heap[m]?=some (.cells #[B true,I c.e,I c.l,I c.j] 135 (0,0))):Calls Tryz.prog 60 #[.pointer (some ⟨m,0,none⟩)] w (Pure (B true) w):=by
 refine eH func60 rfl rfl fun hH=>SR<|va (v:=B false) rfl<|aa<|SR<|aE (v:=Pn _ _) rfl<|V (Qi (o:=some (_,Rl.none)) E3 O O)<|mB rfl<|cC O rfl<|aE (v:=Pn _ _) rfl<|V (af O)<|V (fA Rv 0 O oh O)<|V (aG uk O O (hH.eP hb (v:=B _) O))<|mB rfl<|aB rfl<|aa<|aj<|oB O ?_ hH
 rfl
theorem AV(m:Nat)(w:World):Calls Tryz.prog 63 #[.pointer (some ⟨m,0,none⟩)] w (Pure (.pointer (some ⟨m,1,none⟩)) w):=by
 refine eH func63 rfl rfl fun hH=>SR<|va (v:= .pointer none) rfl<|aa<|SR<|aE (v:=Pn _ _) rfl<|V (af O)<|V (fA Rv 1 O sizeOf133 O)<|va (v:=Pn _ _) rfl<|aa<|aj<|Gc O ?_ hH.below
 rfl
theorem AW(m:Nat)(w:World):Calls Tryz.prog 65 #[.pointer (some ⟨m,0,none⟩)] w (Pure (.pointer (some ⟨m,2,none⟩)) w):=by
 refine eH func65 rfl rfl fun hH=>SR<|va (v:= .pointer none) rfl<|aa<|SR<|aE (v:=Pn _ _) rfl<|V (af O)<|V (fA Rv 2 O sizeOf133 O)<|va (v:=Pn _ _) rfl<|aa<|aj<|Gc O ?_ hH.below
 rfl
theorem AX(m:Nat)(w:World):Calls Tryz.prog 67 #[.pointer (some ⟨m,0,none⟩)] w (Pure (.pointer (some ⟨m,3,none⟩)) w):=by
 refine eH func67 rfl rfl fun hH=>SR<|va (v:= .pointer none) rfl<|aa<|SR<|aE (v:=Pn _ _) rfl<|V (af O)<|V (fA Rv 3 O sizeOf133 O)<|va (v:=Pn _ _) rfl<|aa<|aj<|Gc O ?_ hH.below
 rfl
theorem akg(W0:World)(b2 m:Nat)(c:Cn)(L:List bu)(hc:c.ok)(w:World)(hB:Kz (Kw W0) L b2 (.cells #[pt m] 72 (0,0)))(hH:Hp W0 w (.blk m (.cells #[B true,I c.e,I c.l,I c.j] 135 (0,0))::L)):Calls Tryz.prog 59 #[.func (.func 63) #[] #[],.pointer (some ⟨b2,0,none⟩)] w (jW fun u w'=>u= .tuple #[]/\Hp W0 w' (sN TX m (Kd.e.up c)::L)):=by
 unfold Cn.ok at hc
 refine en func59 rfl rfl<|SR<|V (aG E3 rfl rfl (wc (hH.kz (Le.refl _) (fun x hx=>(mT hx)) _ _ hB) (v:=Pn _ _) O))<|aH O hH (oJ _ _ _ (hH.blk (i:=0) O)) (ay call60 O)<|fun w1 bp=>aa<|cA rfl<|au<|aE (v:= .func _ _ _) rfl<|V (aG E3 O O (wc (bp.kz (Le.refl _) (fun x hx=>(mT hx)) _ _ hB) (v:=Pn _ _) O))<|aH O bp (AV _ _) (lB call63 (cs:=[]) O O)<|fun w4 bY=>cw O (mr W0 m 1 _ _ c.e L J O _ bY) (aL call61 O O)<| ?_
 rintro _ w6 ⟨rfl,eC⟩
 refine aa<|rf O ⟨rfl,eC⟩
theorem akh(W0:World)(b2 m:Nat)(c:Cn)(L:List bu)(hc:c.ok)(w:World)(hB:Kz (Kw W0) L b2 (.cells #[pt m] 72 (0,0)))(hH:Hp W0 w (.blk m (.cells #[B true,I c.e,I c.l,I c.j] 135 (0,0))::L)):Calls Tryz.prog 59 #[.func (.func 65) #[] #[],.pointer (some ⟨b2,0,none⟩)] w (jW fun u w'=>u= .tuple #[]/\Hp W0 w' (sN TX m (Kd.l.up c)::L)):=by
 unfold Cn.ok at hc
 refine en func59 rfl rfl<|SR<|V (aG E3 rfl rfl (wc (hH.kz (Le.refl _) (fun x hx=>(mT hx)) _ _ hB) (v:=Pn _ _) O))<|aH O hH (oJ _ _ _ (hH.blk (i:=0) O)) (ay call60 O)<|fun w1 bp=>aa<|cA rfl<|au<|aE (v:= .func _ _ _) rfl<|V (aG E3 O O (wc (bp.kz (Le.refl _) (fun x hx=>(mT hx)) _ _ hB) (v:=Pn _ _) O))<|aH O bp (AW _ _) (lB call65 (cs:=[]) O O)<|fun w4 bY=>cw O (mr W0 m 2 _ _ c.l L J O _ bY) (aL call61 O O)<| ?_
 rintro _ w6 ⟨rfl,eC⟩
 refine aa<|rf O ⟨rfl,eC⟩
theorem aki(W0:World)(b2 m:Nat)(c:Cn)(L:List bu)(hc:c.ok)(w:World)(hB:Kz (Kw W0) L b2 (.cells #[pt m] 72 (0,0)))(hH:Hp W0 w (.blk m (.cells #[B true,I c.e,I c.l,I c.j] 135 (0,0))::L)):Calls Tryz.prog 59 #[.func (.func 67) #[] #[],.pointer (some ⟨b2,0,none⟩)] w (jW fun u w'=>u= .tuple #[]/\Hp W0 w' (sN TX m (Kd.j.up c)::L)):=by
 unfold Cn.ok at hc
 refine en func59 rfl rfl<|SR<|V (aG E3 rfl rfl (wc (hH.kz (Le.refl _) (fun x hx=>(mT hx)) _ _ hB) (v:=Pn _ _) O))<|aH O hH (oJ _ _ _ (hH.blk (i:=0) O)) (ay call60 O)<|fun w1 bp=>aa<|cA rfl<|au<|aE (v:= .func _ _ _) rfl<|V (aG E3 O O (wc (bp.kz (Le.refl _) (fun x hx=>(mT hx)) _ _ hB) (v:=Pn _ _) O))<|aH O bp (AX _ _) (lB call67 (cs:=[]) O O)<|fun w4 bY=>cw O (mr W0 m 3 _ _ c.j L J O _ bY) (aL call61 O O)<| ?_
 rintro _ w6 ⟨rfl,eC⟩
 refine aa<|rf O ⟨rfl,eC⟩
theorem Dh(W0:World)(b5 b3 b2 m:Nat)(c:Cn)(fe:FuncId)(ae:List Value)(x1 x2:Value)(v u:Value)(ee:El)(bb:Bool)(Y R:List bu)(Q:List bu->Prop)(hc:c.ok)(w:World)(hfe:∀args w,(callFunc fe args).run Tryz.prog w= .ok (.enter fe args) w)(h5:Kz (Kw W0) R b5 (.cells #[jL 59 #[pt b2]] 139 (0,0)))(h2:Kz (Kw W0) R b2 (.cells #[pt m] 72 (0,0)))(h3:Kz (Kw W0) R b3 (.cells #[jL fe ae.toArray,x1,x2] 117 (0,0)))(hin:∀(w1:World) (A:List bu),Hp W0 w1 ((sN TX m (Kd.e.up c)::Y)++(A++R))->Calls Tryz.prog fe (v::u::ae).toArray w1 (jW fun x w'=>x= .tuple #[.agg (iM ee),B bb]/\∃Z',Q Z'/\Hp W0 w' (Z'++(A++R))))(hH:Hp W0 w ((sN TX m c::Y)++R)):Calls Tryz.prog 62 #[v,u,.pointer (some ⟨b5,0,none⟩),.pointer (some ⟨b3,0,none⟩)] w (jW fun x w'=>x= .tuple #[.agg (iM ee),B bb]/\∃Z',Q Z'/\Hp W0 w' (Z'++R)):=by
 refine en func62 rfl rfl<|SR<|lJ hH (aS e8)<|fun b3 w1 bp=>va (v:=B false) rfl<|aa<|SR<|V (aG Yg O O (wc (bp.kz (Le.refl _) (fun x hx=>(mT (mT (bH _ hx)))) _ _ h5) (v:= .func _ _ _) O))<|have hF4:=Hp.sM (A:=[_]) (Zf:=[_]) (R:=(Y++R)) bp;cw O (akg W0 b2 m c _ hc _ (Le.zz (fun x hx=>bH _ (bH _ hx)) _ _ h2) hF4) (lB call59 (cs:=[pt b2]) O O)<| ?_
 rintro _ w5 ⟨rfl,h6⟩
 have eC:Hp _ w5 (_::_::(Y++R)):=Hp.o7 (A:=[_]) (Zf:=[_]) h6
 refine aa<|ai<|SR<|V (fA qW 0 O sizeOf114 O)<|V (aG Rw O O (wc (eC.kz (Le.refl _) (fun x hx=>(mT (mT (bH _ hx)))) _ _ h3) (v:= .func _ _ _) O))<|V (Vz Rw O O)<|aa<|cQ rfl<|an<|SR<|V (fA qW 0 O sizeOf114 O)<|V (aG Rw O O (wc (eC.kz (Le.refl _) (fun x hx=>(mT (mT (bH _ hx)))) _ _ h3) (v:= .func _ _ _) O))<| ?_
 refine V (run_move bA) ?_
 refine V (run_move bA) ?_
 have hF8:=Hp.sM (A:=[_]) (Zf:=_::Y) (R:=R) eC
 refine cw O (hin _ _ hF8) (iZ hfe (cs:=ae) O O O) ?_
 rintro _ w9 ⟨rfl,Z',hq,h10⟩
 have df:Hp _ w9 (_::(Z'++R)):=Hp.o7 (A:=[_]) h10
 refine V (bk O (v:= .agg _) O)<|V (bk O (v:=B _) O)<|bg df (i:=0) O (cR O O O (df.blk (i:=0) O))<|fun C0 cG=>aB rfl<|aa<|aj<|Ep O O O cG (i:=0) O bI O jI ⟨rfl,Z',hq,cG.sub (sQ sR)⟩
theorem Di(W0:World)(b5 b3 b2 m:Nat)(c:Cn)(fe:FuncId)(ae:List Value)(x1 x2:Value)(a b:El)(bb:Bool)(Y R:List bu)(Q:List bu->Prop)(hc:c.ok)(w:World)(hfe:∀args w,(callFunc fe args).run Tryz.prog w= .ok (.enter fe args) w)(h5:Kz (Kw W0) R b5 (.cells #[jL 59 #[pt b2]] 139 (0,0)))(h2:Kz (Kw W0) R b2 (.cells #[pt m] 72 (0,0)))(h3:Kz (Kw W0) R b3 (.cells #[x1,jL fe ae.toArray,x2] 117 (0,0)))(hin:∀(w1:World) (A:List bu),Hp W0 w1 ((sN TX m (Kd.l.up c)::Y)++(A++R))->Calls Tryz.prog fe (.agg (iM a):: .agg (iM b)::ae).toArray w1 (jW fun x w'=>x=B bb/\∃Z',Q Z'/\Hp W0 w' (Z'++(A++R))))(hH:Hp W0 w ((sN TX m c::Y)++R)):Calls Tryz.prog 64 #[.agg (iM a),.agg (iM b),.pointer (some ⟨b5,0,none⟩),.pointer (some ⟨b3,0,none⟩)] w (jW fun x w'=>x=B bb/\∃Z',Q Z'/\Hp W0 w' (Z'++R)):=by
 refine en func64 rfl rfl<|SR<|gM hH (v:= .agg _) rfl<|fun b3 w1 bp=>gM bp (v:= .agg _) rfl<|fun b6 w4 bY=>va (v:=B false) rfl<|aa<|SR<|V (aG Yg O O (wc (bY.kz (Le.refl _) (fun x hx=>(mT (mT (mT (bH _ hx))))) _ _ h5) (v:= .func _ _ _) O))<|have hF7:=Hp.sM (A:=[_,_]) (Zf:=[_]) (R:=(Y++R)) bY;cw O (akh W0 b2 m c _ hc _ (Le.zz (fun x hx=>bH _ (bH _ hx)) _ _ h2) hF7) (lB call59 (cs:=[pt b2]) O O)<| ?_
 rintro _ w8 ⟨rfl,h9⟩
 have cg:Hp _ w8 (_::_::_::(Y++R)):=Hp.o7 (A:=[_,_]) (Zf:=[_]) h9
 refine aa<|SR<|V (fA qW 1 O sizeOf65 O)<|V (aG Lt O O (wc (cg.kz (Le.refl _) (fun x hx=>(mT (mT (mT (bH _ hx))))) _ _ h3) (v:= .func _ _ _) O))<|V (VA Lt O O)<|mB rfl<|cC O rfl<|V (fA qW 1 O sizeOf65 O)<|V (aG Lt O O (wc (cg.kz (Le.refl _) (fun x hx=>(mT (mT (mT (bH _ hx))))) _ _ h3) (v:= .func _ _ _) O))<|V (cM bI O O O (cg.blk (i:=1) O))<|V (cM bI O O O (cg.blk (i:=0) O))<|have aFr:=Hp.sM (A:=[_,_]) (Zf:=_::Y) (R:=R) cg;cw O (hin _ _ aFr) (iZ hfe (cs:=ae) O O O)<| ?_
 rintro _ y8 ⟨rfl,Z',hq,Th⟩
 have cG:Hp _ y8 (_::_::(Z'++R)):=Hp.o7 (A:=[_,_]) Th
 refine mB rfl<|aB rfl<|aa<|aj<|jy O (v:=B bb) O ⟨rfl,Z',hq,cG.sub (sQ (sQ sR))⟩
theorem Dj(W0:World)(b5 b3 b2 m:Nat)(c:Cn)(fe:FuncId)(ae:List Value)(x1 x2:Value)(a b:El)(ee:El)(Y R:List bu)(Q:List bu->Prop)(hc:c.ok)(w:World)(hfe:∀args w,(callFunc fe args).run Tryz.prog w= .ok (.enter fe args) w)(h5:Kz (Kw W0) R b5 (.cells #[jL 59 #[pt b2]] 139 (0,0)))(h2:Kz (Kw W0) R b2 (.cells #[pt m] 72 (0,0)))(h3:Kz (Kw W0) R b3 (.cells #[x1,x2,jL fe ae.toArray] 117 (0,0)))(hin:∀(w1:World) (A:List bu),Hp W0 w1 ((sN TX m (Kd.j.up c)::Y)++(A++R))->Calls Tryz.prog fe (.agg (iM a):: .agg (iM b)::ae).toArray w1 (jW fun x w'=>x= .agg (iM ee)/\∃Z',Q Z'/\Hp W0 w' (Z'++(A++R))))(hH:Hp W0 w ((sN TX m c::Y)++R)):Calls Tryz.prog 66 #[.agg (iM a),.agg (iM b),.pointer (some ⟨b5,0,none⟩),.pointer (some ⟨b3,0,none⟩)] w (jW fun x w'=>x= .agg (iM ee)/\∃Z',Q Z'/\Hp W0 w' (Z'++R)):=by
 refine en func66 rfl rfl<|SR<|gM hH (v:= .agg _) rfl<|fun b3 w1 bp=>gM bp (v:= .agg _) rfl<|fun b6 w4 bY=>lJ bY (aS e8)<|fun b9 w7 eX=>aa<|SR<|V (aG Yg O O (wc (eX.kz (Le.refl _) (fun x hx=>(mT (mT (mT (mT (bH _ hx)))))) _ _ h5) (v:= .func _ _ _) O))<|have aFs:=Hp.sM (A:=[_,_,_]) (Zf:=[_]) (R:=(Y++R)) eX;cw O (aki W0 b2 m c _ hc _ (Le.zz (fun x hx=>bH _ (bH _ hx)) _ _ h2) aFs) (lB call59 (cs:=[pt b2]) O O)<| ?_
 rintro _ I2 ⟨rfl,h12⟩
 have bX:Hp _ I2 (_::_::_::_::(Y++R)):=Hp.o7 (A:=[_,_,_]) (Zf:=[_]) h12
 refine aa<|ai<|SR<|V (fA qW 2 O sizeOf115 O)<|V (aG Lp O O (wc (bX.kz (Le.refl _) (fun x hx=>(mT (mT (mT (mT (bH _ hx)))))) _ _ h3) (v:= .func _ _ _) O))<|V (Vz Lp O O)<|aa<|cQ rfl<|an<|SR<|V (fA qW 2 O sizeOf115 O)<|V (aG Lp O O (wc (bX.kz (Le.refl _) (fun x hx=>(mT (mT (mT (mT (bH _ hx)))))) _ _ h3) (v:= .func _ _ _) O))<|V (cM bI O O O (bX.blk (i:=2) O))<|V (cM bI O O O (bX.blk (i:=1) O))<|have aFt:=Hp.sM (A:=[_,_,_]) (Zf:=_::Y) (R:=R) bX;cw O (hin _ _ aFt) (iZ hfe (cs:=ae) O O O)<| ?_
 rintro _ Tf ⟨rfl,Z',hq,yj⟩
 have ep:Hp _ Tf (_::_::_::(Z'++R)):=Hp.o7 (A:=[_,_,_]) yj
 refine bg ep (i:=0) O (cR O O O (ep.blk (i:=0) O))<|fun K0 iD=>aa<|aj<|rz O O iD (i:=0) O bI O jI ⟨rfl,Z',hq,iD.sub (sQ (sQ (sQ sR)))⟩
theorem Tz(Bk:Nat)(s:kP)(v:Value)(l:List dU)(u:Value)(vs:List El)(hl:l.length<=1000)(w:World)(hs:Sl w v 10 l.length (l.flatMap j9))(ht:Sl w u 8 vs.length (vs.flatMap pH))(hsh:k7 (Kw w) s)(hb:w.heap[Bk]?=some (.cells (qJ s) 56 (0,0)))(hT:o3 w):Calls Tryz.prog 95 #[v,u,.pointer (some ⟨Bk,0,none⟩)] w (Pure (.tuple #[.agg (iM (ey s.sh l vs).1),B (ey s.sh l vs).2]) w):=by
 refine eH func95 rfl rfl fun hH=>SR<|lJ hH (aS e8)<|fun b3 w1 bp=>va (v:=B false) rfl<|aa<|SR<|V (cF (cs:=[B _,_]) dm O O O (bj (bp.ext hb)))<| ?_
 refine V (run_move bA) ?_
 refine V (run_move bA) ?_
 refine aH O bp (WQ _ _ _ _ _ J _ (hs.hp bp) (ht.hp bp) (hsh.mono bp.kw) (hT.hp bp)) (bz call96 O O O)<|fun w4 bY=>V (bk O (v:= .agg _) O)<|V (bk O (v:=B _) O)<|bg bY (i:=0) O (cR O O O (bY.blk (i:=0) O))<|fun w7 eX=>aB rfl<|aa<|aj<|Ep O O O eX (i:=0) O bI O jI ⟨?_,eX.below⟩
 rfl
theorem Oo(K:Vu)(s:kP)(hfn:s.aY.length<=1000)(hnn:∀f∈s.aY,f.names.length<=1000)(w:World)(hK:Le K (Kw w))(hs:k7 K s):Calls Tryz.prog 52 #[.agg (qJ s)] w (jW fun u w'=>∃(f1 f2 f3:FuncId) (a1 a2 a3:Array Value) (p:kP) (tb:J2) (tl:List (Nat×Rl)) (Zt Z:List bu),u= .agg #[jL f1 a1,jL f2 a2,jL f3 a3]/\BA TX (Kz K Z) (.base p tb) (jL f1 a1) (jL f2 a2) (jL f3 a3)/\p.sh=s.sh/\aie p.sh tb/\(∀i,i<8->∀q,tb i=some q->q∈tl)/\wM 212 tl Zt/\Hp w w' (Zt++Z)):=by
 refine eH func52 rfl rfl fun hH=>SR<|gM hH (v:= .agg _) rfl<|fun b3 w1 bp=>lJ bp (aS Wi)<|fun b6 w4 bY=>aa<|SR<|V (cF (cs:=[B _,_]) dm O O O (bj (bY.blk (i:=1) O)))<|tQ 1 1 bY (ME Ru O O O (l:=[s]) O az az O)<|fun b9 w7 eX=>IA O eX (Bq K (.slice (some ⟨b9,0,none⟩) 1 1) [s] (show 1<=1000 by decide) (by simpa using hfn) (by simpa using hnn) _ (hK.trans eX.kw) (Hp.iu MC eX (i:=0) (l:=[s]) O (show 1<=maxLen by decide)) ⟨fun x hx=>by rw[gG.1 hx];exact hs⟩) (ay call51 O)<|fun v12 C0 Z15 cG aFu=>have ep:Hp _ C0 (_::_::_::Z15):=cG.amt (L:=[_,_,_]);?_
 obtain⟨p18,rfl,ayE,atZ⟩:=aFu
 refine lJ ep (aS Tryz.zeroValue56)<|fun b23 NL cD=>bg cD (i:=0) O (DI atZ O O O (cD.blk (i:=0) O) O)<|fun w24 n9=>aa<|SR<|V (fA dm 0 O oh O)<|V (aG uk O O (n9.cell (i:=3) O (v:=B _) O))<|V (fA dm 0 O oh O)<|bg (c':=#[B s.tuple,p18.fv]) n9 (i:=0) O (bL (off:=0+0) O O (v:=B s.tuple) O O O (n9.blk (i:=0) O) aJ)<|fun w27 iJ=>have Xn:k7 _ ⟨s.tuple,p18.fv,p18.aY⟩:=⟨atZ.aY,atZ.each⟩;aa<|SR<| ?_
 refine V (Cu bA) ?_
 refine V (cF (cs:=[B _,_]) dm O O O (bj (iJ.blk (i:=0) O)))<|cw O (On ⟨s.tuple,p18.fv,p18.aY⟩ _ (Xn.mono (iJ.kz hK (fun x hx=>(mT (mT (mT (mT hx)))))))) (ay call98 O)<| ?_
 rintro _ w33 ⟨ayF,ayG,aFv,akk,rfl,ayH,ayI,ayJ,h37⟩
 have uz:Hp _ w33 (_::_::_::_::((akk++[_])++Z15)):=Hp.o7 (A:=[_,_,_,_]) (Zf:=akk++[_]) (R:=Z15) (iJ.Gm h37)
 refine V (dJ (vs:=[(0,jL _ _),(1,jL _ _),(2,jL _ _)]) O (aev _ _ _ _ _ _))<|bg uz (i:=2) O (dO O O O (by simp[Value.oneCell',pt,jL]) (uz.blk (i:=2) O) O)<|fun w39 lE=>aa<|aj<|have jS:Hp _ w39 (_::_::_::([bu.blk b23 (.cells ([B s.tuple,p18.fv]).toArray 56 (0,0))]++((akk++[_])++Z15))):=Hp.Iz (Z:=[bu.blk b23 (.cells ([B s.tuple,p18.fv]).toArray 56 (0,0))]) (L:=[_,_,_]) (L':=((akk++[_])++Z15)) lE;rz O O jS (i:=1) O qW O O ⟨_,_,_,_,_,_,⟨s.tuple,p18.fv,p18.aY⟩,ayG,aFv,akk,([bu.blk b23 (.cells ([B s.tuple,p18.fv]).toArray 56 (0,0))]++([bu.blk ayF (.cells (Vx ayG).toArray 199 (0,0))]++Z15)),rfl,⟨b23,ayF,rfl,rfl,rfl,.inr aJ,Xn.mono (Le.zz fun x hx=>q5),.inr aJ⟩,?_,ayH,ayI,ayJ,?_⟩
 .have hq:=aK Sh.aY ayE;simp only[A8,uF,List.flatMap_nil,mY]at hq
  show(⟨s.tuple,p18.aY.map qw.fc⟩:Sh)=s.sh;rw[show p18.aY.map qw.fc=s.sh.aY from hq];rfl
 exact(jS.sub (sQ (sQ (sQ sR)))).perm (by rw[dG];exact wV _ _ _)
section
theorem ayK{K:Vu}{d:Wr}{e l j:Value}(h:BA TX K d e l j):asf Tryz.prog e:=by
 cases d with
 |base p tb=>obtain⟨B1,B2,rfl,rfl,rfl,-⟩:=h;exact⟨_,_,rfl,call95⟩
 |wrap m d=>obtain⟨b2,b3,b5,e',l',j',rfl,rfl,rfl,-⟩:=h;exact⟨_,_,rfl,call62⟩
theorem akl(W0:World)(ids:List Nat)(tl:List (Nat×Rl))(hT:o3 W0)(v:Value)(il:List dU)(u:Value)(vs:List El)(hil:il.length<=1000)(d:Wr):∀(n:Nat) (f:Ct) (Z R:List bu) (e l j:Value) (w:World),BA TX (Kz (Kw W0) R) d e l j->d.Fg ids tl->kR (BE fr) ids f tl Z->Fy n f->n+d.dep<=1000000000000->(∀Z' w',Hp W0 w' (Z'++R)->Sl w' v 10 il.length (il.flatMap j9))->(∀Z' w',Hp W0 w' (Z'++R)->Sl w' u 8 vs.length (vs.flatMap pH))->Hp W0 w (Z++R)->
  Ai Tryz.prog e [v,u] w (jW fun x w'=>x= .tuple #[.agg (iM (ey d.sh.sh il vs).1),B (ey d.sh.sh il vs).2]/\∃Z',kR (BE fr) ids (d.tick .e f) tl Z'/\Hp W0 w' (Z'++R)):=by
 induction d with
 |base p tb=>
  intro n f Z R e l j w hO hi hZ hf hn hs ht hH
  obtain⟨B1,B2,rfl,rfl,rfl,h4,h5,h6⟩:=hO
  have hk:=hH.kz (Le.refl _) (Z:=R) fun x hx=>bH _ hx
  refine⟨_,[pt B1],rfl,call95,?_⟩
  exact(Tz B1 p v il u vs hil w (hs Z w hH) (ht Z w hH) (h5.mono hk) (hk _ _ h4) (hT.hp hH)).mono fun x w' hx=>jW.mono (fun y w2 hy=>⟨hy.1,Z,hZ,hH.call hy.2⟩) hx
 |wrap m d ih=>
  intro n f Z R e l j w hO hi hZ hf hn hs ht hH
  obtain⟨b2,b3,b5,e',l',j',rfl,rfl,rfl,h5,h2,h3,hd⟩:=hO
  obtain⟨fe,ce,he,hfe⟩:=ayK hd
  subst he
  obtain⟨Y,hp,hq⟩:=hZ.pick hi.1 hH
  obtain⟨Z1,hz1,hp1⟩:=hq (Kd.e.up (f m))
  have hn':n+(d.dep+1)<=1000000000000:=hn
  refine⟨_,[pt b5,pt b3],rfl,call62,?_⟩
  refine Dh W0 b5 b3 b2 m (f m) fe ce _ _ v u (ey d.sh.sh il vs).1 (ey d.sh.sh il vs).2 Y R (fun Z'=>kR (BE fr) ids (d.tick .e (jR .e m f)) tl Z') (hf.ok J m) w hfe h5 h2 h3 (fun w1 A h=> ?_) (hH.perm (hp.append_right R))
  exact(ih (n+1) (jR .e m f) Z1 (A++R) _ _ _ w1 (hd.mono (Le.zz fun x hx=>bH _ hx)) hi.2 hz1 (hf.tick _ m) J (fun Z' w' h=>hs (Z'++A) w' (by rw[dG];exact h)) (fun Z' w' h=>ht (Z'++A) w' (by rw[dG];exact h)) (h.perm (hp1.append_right _))).get
theorem ayM{K:Vu}{d:Wr}{e l j:Value}(h:BA TX K d e l j):asf Tryz.prog l:=by
 cases d with
 |base p tb=>obtain⟨B1,B2,rfl,rfl,rfl,-⟩:=h;exact⟨_,_,rfl,call97⟩
 |wrap m d=>obtain⟨b2,b3,b5,e',l',j',rfl,rfl,rfl,-⟩:=h;exact⟨_,_,rfl,call64⟩
theorem akm(W0:World)(ids:List Nat)(tl:List (Nat×Rl))(hT:o3 W0)(a b:El)(d:Wr):∀(n:Nat) (f:Ct) (Z R:List bu) (e l j:Value) (w:World),BA TX (Kz (Kw W0) R) d e l j->d.Fg ids tl->kR (BE fr) ids f tl Z->Fy n f->n+d.dep<=1000000000000->Hp W0 w (Z++R)->
  Ai Tryz.prog l [.agg (iM a),.agg (iM b)] w (jW fun x w'=>x=B (cS a b)/\∃Z',kR (BE fr) ids (d.tick .l f) tl Z'/\Hp W0 w' (Z'++R)):=by
 induction d with
 |base p tb=>
  intro n f Z R e l j w hO hi hZ hf hn hH
  obtain⟨B1,B2,rfl,rfl,rfl,h4,h5,h6⟩:=hO
  have hk:=hH.kz (Le.refl _) (Z:=R) fun x hx=>bH _ hx
  refine⟨_,[],rfl,call97,?_⟩
  exact(WE a b w).mono fun x w' hx=>jW.mono (fun y w2 hy=>⟨hy.1,Z,hZ,hH.call hy.2⟩) hx
 |wrap m d ih=>
  intro n f Z R e l j w hO hi hZ hf hn hH
  obtain⟨b2,b3,b5,e',l',j',rfl,rfl,rfl,h5,h2,h3,hd⟩:=hO
  obtain⟨fe,ce,he,hfe⟩:=ayM hd
  subst he
  obtain⟨Y,hp,hq⟩:=hZ.pick hi.1 hH
  obtain⟨Z1,hz1,hp1⟩:=hq (Kd.l.up (f m))
  have hn':n+(d.dep+1)<=1000000000000:=hn
  refine⟨_,[pt b5,pt b3],rfl,call64,?_⟩
  refine Di W0 b5 b3 b2 m (f m) fe ce _ _ a b (cS a b) Y R (fun Z'=>kR (BE fr) ids (d.tick .l (jR .l m f)) tl Z') (hf.ok J m) w hfe h5 h2 h3 (fun w1 A h=> ?_) (hH.perm (hp.append_right R))
  exact(ih (n+1) (jR .l m f) Z1 (A++R) _ _ _ w1 (hd.mono (Le.zz fun x hx=>bH _ hx)) hi.2 hz1 (hf.tick _ m) J (h.perm (hp1.append_right _))).get
theorem ayN{K:Vu}{d:Wr}{e l j:Value}(h:BA TX K d e l j):asf Tryz.prog j:=by
 cases d with
 |base p tb=>obtain⟨B1,B2,rfl,rfl,rfl,-⟩:=h;exact⟨_,_,rfl,call141⟩
 |wrap m d=>obtain⟨b2,b3,b5,e',l',j',rfl,rfl,rfl,-⟩:=h;exact⟨_,_,rfl,call66⟩
theorem akn(W0:World)(ids:List Nat)(tl:List (Nat×Rl))(hT:o3 W0)(a b:El)(d:Wr):∀(n:Nat) (f:Ct) (Z R:List bu) (e l j:Value) (w:World),BA TX (Kz (Kw W0) R) d e l j->d.Fg ids tl->kR (BE fr) ids f tl Z->Fy n f->n+d.dep<=1000000000000->Hp W0 w (Z++R)->
  Ai Tryz.prog j [.agg (iM a),.agg (iM b)] w (jW fun x w'=>x= .agg (iM (pu d.tb a b))/\∃Z',kR (BE fr) ids (d.tick .j f) tl Z'/\Hp W0 w' (Z'++R)):=by
 induction d with
 |base p tb=>
  intro n f Z R e l j w hO hi hZ hf hn hH
  obtain⟨B1,B2,rfl,rfl,rfl,h4,h5,h6⟩:=hO
  have hk:=hH.kz (Le.refl _) (Z:=R) fun x hx=>bH _ hx
  refine⟨_,[pt B2],rfl,call141,?_⟩
  obtain⟨Zt,hzt,rfl⟩:=hZ
  refine(Jd W0 B2 tb tl Zt ((ids.map (fun m=>sN TX m (f m))++fr)++R) a b w hT hi.2 (Le.zz (fun x hx=>bH _ hx) _ _ h6) hzt (hH.perm (by rw[dG];exact wV _ _ _))).mono fun x w' hx=>jW.mono (fun y w2 hy=>⟨hy.1,?_⟩) hx
  obtain⟨-,Z',hz',h'⟩:=hy
  exact⟨_,⟨Z',hz',rfl⟩,h'.perm (by rw[dG (_++_) Z' R];exact wV _ _ _)⟩
 |wrap m d ih=>
  intro n f Z R e l j w hO hi hZ hf hn hH
  obtain⟨b2,b3,b5,e',l',j',rfl,rfl,rfl,h5,h2,h3,hd⟩:=hO
  obtain⟨fe,ce,he,hfe⟩:=ayN hd
  subst he
  obtain⟨Y,hp,hq⟩:=hZ.pick hi.1 hH
  obtain⟨Z1,hz1,hp1⟩:=hq (Kd.j.up (f m))
  have hn':n+(d.dep+1)<=1000000000000:=hn
  refine⟨_,[pt b5,pt b3],rfl,call66,?_⟩
  refine Dj W0 b5 b3 b2 m (f m) fe ce _ _ a b (pu d.tb a b) Y R (fun Z'=>kR (BE fr) ids (d.tick .j (jR .j m f)) tl Z') (hf.ok J m) w hfe h5 h2 h3 (fun w1 A h=> ?_) (hH.perm (hp.append_right R))
  exact(ih (n+1) (jR .j m f) Z1 (A++R) _ _ _ w1 (hd.mono (Le.zz fun x hx=>bH _ hx)) hi.2 hz1 (hf.tick _ m) J (h.perm (hp1.append_right _))).get
end
end
section
open Go Go.RowKit Go.Proofs.YtlhjdflgjbkpmaaGreatDoor.E Go.Proofs.YtlhjdflgjbkpmaaGreatDoor.M
set_option maxRecDepth 100000
open Go.Proofs.Tryz
abbrev FX:FTy:=(⟨(⟨134,243,193,3,35,8⟩:UT),111,35,1,3⟩:FTy)
theorem xE{nA nB nC nD nE nF nG nH nI nJ nK nL:Value}(F:Nat)(vW vU vT:Value)(cnt:Int)(W:List (BitVec 64))(w:World)(hb:w.heap[F]?=some (.cells #[nA,nB,nC,nD,nE,nF,nG,nH,vW,vU,vT,I cnt,nI,nJ,nK,nL] 111 (0,0)))(hW:Sl w vW 1 W.length (W.map U)):Calls Tryz.prog 133 #[.pointer (some ⟨F,8,none⟩)] w (Pure (I W.length) w):=by
 refine eH func133 rfl rfl fun hH=>SR<|va (v:=I 0) rfl<|aa<|ai<|SR<|aE (v:=Pn _ _) rfl<|V (kU lT O O)<|aa<|cQ rfl<|an<|SR<|aE (v:=Pn _ _) rfl<|V (af O)<|V (fA mA 0 O jB O)<|V (aG dh O O (hH.eP hb O))<|V (aC (hW.hp hH) O dh O)<|aI rfl<|aa<|aj<|oI O ?_ hH
 rfl
theorem zj{nA nB nC nD nE nF nG nH nI nJ nK nL:Value}(F:Nat)(vW vU vT:Value)(cnt:Int)(W:List (BitVec 64))(i:Int)(w:World)(hb:w.heap[F]?=some (.cells #[nA,nB,nC,nD,nE,nF,nG,nH,vW,vU,vT,I cnt,nI,nJ,nK,nL] 111 (0,0)))(hW:Sl w vW 1 W.length (W.map U)):Calls Tryz.prog 218 #[.pointer (some ⟨F,8,none⟩),I i] w (Pure (B (decide (0<=i/\i<W.length))) w):=by
 refine eH func218 rfl rfl fun hH=>SR<|va (v:=B false) rfl<|aa<|SR<|mI rfl<|V (dF O O)<|mB rfl<|bM 7 O (fun h2=> ?_) (fun h2=> ?_)
 .refine mI rfl<|aE (v:=Pn _ _) rfl<|aH O hH (xE _ _ _ _ _ _ _ (hH.ext hb) (hW.hp hH)) (ay call133 O)<|fun w3 iw=>V (aN O O)<|mB rfl<|aB rfl<|aa<|aj<|oB O ?_ iw
  (simp;omega)
 refine aE (v:=B false) rfl<|aB rfl<|aa<|aj<|oB O ?_ hH
 (rw[gZ J];done)
theorem Hg{nA nB nC nD nE nF nG nH nI nJ nK nL:Value}(F:Nat)(vW vU vT:Value)(cnt:Int)(W:List (BitVec 64))(i:Int)(hi:0<=i/\i<W.length)(w:World)(hb:w.heap[F]?=some (.cells #[nA,nB,nC,nD,nE,nF,nG,nH,vW,vU,vT,I cnt,nI,nJ,nK,nL] 111 (0,0)))(hW:Sl w vW 1 W.length (W.map U)):Calls Tryz.prog 190 #[.pointer (some ⟨F,8,none⟩),I i] w (Pure (U (W.getD i.toNat 0)) w):=by
 refine eH func190 rfl rfl fun hH=>SR<|va (v:=U 0#64) rfl<|aa<|ai<|SR<|aE (v:=Pn _ _) rfl<|mI rfl<|aH O hH (zj _ _ _ _ _ _ _ _ (hH.ext hb) (hW.hp hH)) (aL call218 O O)<|fun w1 bp=>V (vx O)<|aa<|aF O (fun h6=> ?_) (fun h6=> ?_)
 .refine SR<|va (v:=U 0#64) rfl<|aa<|aj<|oU O ?_ bp
  omega
 refine an<|SR<|aE (v:=Pn _ _) rfl<|V (af O)<|V (fA mA 0 O jB O)<|V (aG dh O O (bp.eP hb O))<|mI rfl<|V (ah (hW.hp bp) dh cP O O J)<|V (aG dM O O (Sl.atU (hW.hp bp) J J))<|aU rfl<|aa<|aj<|oU O ?_ bp
 rfl
theorem mS{nA nB nC nD nE nF nG nH nI nJ nK nL:Value}(F:Nat)(vW vU vT:Value)(cnt:Int)(W:List (BitVec 64))(us:List Value)(w:World)(hb:w.heap[F]?=some (.cells #[nA,nB,nC,nD,nE,nF,nG,nH,vW,vU,vT,I cnt,nI,nJ,nK,nL] 111 (0,0)))(hW:Sl w vW 1 W.length (W.map U))(hU:Sl w vU 1 us.length us):Calls Tryz.prog 90 #[.pointer (some ⟨F,8,none⟩)] w (Pure (I us.length) w):=by
 refine eH func90 rfl rfl fun hH=>SR<|va (v:=I 0) rfl<|aa<|ai<|SR<|aE (v:=Pn _ _) rfl<|V (kU lT O O)<|aa<|cQ rfl<|an<|SR<|aE (v:=Pn _ _) rfl<|V (af O)<|V (fA mA 1 O kg O)<|V (aG hG O O (hH.eP hb O))<|V (aC (hU.hp hH) O hG O)<|aI rfl<|aa<|aj<|oI O ?_ hH
 rfl
theorem dz{nA nB nC nD nE nF nG nH nI nJ nK nL:Value}(F:Nat)(vW vU vT:Value)(cnt:Int)(W:List (BitVec 64))(i k:Int)(hi:0<=i/\i<1000000/\0<=k/\k<4/\4*i+k<W.length)(w:World)(hb:w.heap[F]?=some (.cells #[nA,nB,nC,nD,nE,nF,nG,nH,vW,vU,vT,I cnt,nI,nJ,nK,nL] 111 (0,0)))(hW:Sl w vW 1 W.length (W.map U)):Calls Tryz.prog 159 #[.pointer (some ⟨F,8,none⟩),I i,I k] w (Pure (I (W.getD (4*i+k).toNat 0).toInt) w):=by
 refine eH func159 rfl rfl fun hH=>SR<|va (v:=I 0) rfl<|aa<|SR<|aE (v:=Pn _ _) rfl<|V (af O)<|V (fA zB 0 O zF O)<|mI rfl<|V (zM O O J)<|mI rfl<|V (ax O O J)<|aH O hH (Hg _ _ _ _ _ _ _ J _ (hH.ext hb) (hW.hp hH)) (aL call190 O O)<|fun w1 bp=>V (Yw dM bx O)<|aI rfl<|aa<|aj<|oI O ?_ bp
 rfl
theorem lN{nA nB nC nD nE nF nG nH nI nJ nK nL:Value}(F:Nat)(vW vU vT:Value)(cnt:Int)(nd:List qA)(hn:nd.length<=1000000)(w:World)(hb:w.heap[F]?=some (.cells #[nA,nB,nC,nD,nE,nF,nG,nH,vW,vU,vT,I cnt,nI,nJ,nK,nL] 111 (0,0)))(hW:Sl w vW 1 (bE nd).length ((bE nd).map U)):Calls Tryz.prog 89 #[.pointer (some ⟨F,8,none⟩)] w (Pure (I nd.length) w):=by
 have hwl:=iG nd
 refine eH func89 rfl rfl fun hH=>SR<|va (v:=I 0) rfl<|aa<|ai<|SR<|aE (v:=Pn _ _) rfl<|V (kU Lq O O)<|aa<|cQ rfl<|an<|SR<|aE (v:=Pn _ _) rfl<|V (af O)<|V (fA ix 0 O vh O)<|V (fA zB 0 O zF O)<|aH O hH (xE _ _ _ _ _ _ _ (hH.ext hb) (hW.hp hH)) (ay call133 O)<|fun w1 bp=>V (alT O O J J)<|aI rfl<|aa<|aj<|oI O ?_ bp
 omega
theorem mW{nA nB nC nD nE nF nG nH nI nJ nK nL:Value}(F:Nat)(vW vU vT:Value)(cnt:Int)(nd:List qA)(i:Int)(hn:nd.length<=1000000)(w:World)(hb:w.heap[F]?=some (.cells #[nA,nB,nC,nD,nE,nF,nG,nH,vW,vU,vT,I cnt,nI,nJ,nK,nL] 111 (0,0)))(hW:Sl w vW 1 (bE nd).length ((bE nd).map U)):Calls Tryz.prog 158 #[.pointer (some ⟨F,8,none⟩),I i] w (Pure (B (decide (0<=i/\i<nd.length))) w):=by
 refine eH func158 rfl rfl fun hH=>SR<|va (v:=B false) rfl<|aa<|SR<|mI rfl<|V (dF O O)<|mB rfl<|bM 7 O (fun h2=> ?_) (fun h2=> ?_)
 .refine mI rfl<|aE (v:=Pn _ _) rfl<|aH O hH (lN _ _ _ _ _ _ lz _ (hH.ext hb) (hW.hp hH)) (ay call89 O)<|fun w3 iw=>V (aN O O)<|mB rfl<|aB rfl<|aa<|aj<|oB O ?_ iw
  (simp;omega)
 refine aE (v:=B false) rfl<|aB rfl<|aa<|aj<|oB O ?_ hH
 (rw[gZ J];done)
theorem BS{nA nB nC nD nE nF nG nH nI nJ nK nL:Value}(F:Nat)(vW vU vT:Value)(cnt:Int)(W:List (BitVec 64))(w:World)(hb:w.heap[F]?=some (.cells #[nA,nB,nC,nD,nE,nF,nG,nH,vW,vU,vT,I cnt,nI,nJ,nK,nL] 111 (0,0)))(hW:Sl w vW 1 W.length (W.map U)):Calls Tryz.prog 123 #[.pointer (some ⟨F,8,none⟩)] w (Pure (I cnt) w):=by
 refine eH func123 rfl rfl fun hH=>SR<|va (v:=I 0) rfl<|aa<|ai<|SR<|aE (v:=Pn _ _) rfl<|V (kU Lq O O)<|aa<|cQ rfl<|an<|SR<|aE (v:=Pn _ _) rfl<|V (af O)<|V (fA ix 3 O aO O)<|V (aG bx O O (hH.eP hb (v:=I _) O))<|aI rfl<|aa<|aj<|oI O ?_ hH
 rfl
theorem Dk{nA nB nC nD nE nF nG nH nI nJ nK nL:Value}(F:Nat)(vW vU vT:Value)(cnt:Int)(W:List (BitVec 64))(ts:List Int)(w:World)(hb:w.heap[F]?=some (.cells #[nA,nB,nC,nD,nE,nF,nG,nH,vW,vU,vT,I cnt,nI,nJ,nK,nL] 111 (0,0)))(hW:Sl w vW 1 W.length (W.map U))(hT:Sl w vT 1 ts.length (ts.map I)):Calls Tryz.prog 46 #[.pointer (some ⟨F,8,none⟩)] w (Pure (I ts.length) w):=by
 refine eH func46 rfl rfl fun hH=>SR<|va (v:=I 0) rfl<|aa<|ai<|SR<|aE (v:=Pn _ _) rfl<|V (kU Lq O O)<|aa<|cQ rfl<|an<|SR<|aE (v:=Pn _ _) rfl<|V (af O)<|V (fA ix 2 O dH O)<|V (aG bD O O (hH.eP hb O))<|V (aC (hT.hp hH) O bD O)<|aI rfl<|aa<|aj<|oI O ?_ hH
 rfl
theorem oK{nA nB nC nD nE nF nG nH nI nJ nK nL:Value}(F:Nat)(vW vU vT:Value)(cnt:Int)(nd:List qA)(cl:List Nat)(i:Int)(hn:nd.length<=1000000)(hf:Fo nd cl)(hi:0<=i/\i<nd.length)(w:World)(hb:w.heap[F]?=some (.cells #[nA,nB,nC,nD,nE,nF,nG,nH,vW,vU,vT,I cnt,nI,nJ,nK,nL] 111 (0,0)))(hW:Sl w vW 1 (bE nd).length ((bE nd).map U)):Calls Tryz.prog 160 #[.pointer (some ⟨F,8,none⟩),I i] w (Pure (I (o6 nd cl i.toNat)) w):=by
 have hwl:=iG nd
 refine eH func160 rfl rfl fun hH=>SR<|va (v:=I 0) rfl<|aa<|ai<|aA<|bt (G:=Nat) (fun c s' w'=>(Fr (1::(rg 5 12 [])) _ s')/\(Hp w w' _)/\(s' 1=I (c:Int))/\(c<nd.length)/\(cm cl c=cm cl i.toNat)) (fun c=>nd.length-kL nd c) (i.toNat) ⟨Fr.refl _ _,hH,(aK I (show i=((i.toNat:Nat):Int)by omega)),J,rfl⟩<| ?_
 rintro c sg1 w1 ⟨uM,je,Av,hc,ov⟩
 have mz:=uM.w1 0
 have hcu:=amW hf hn hc
 refine ai<|SR<|aE mz<|V (af O)<|V (fA ix 0 O vh O)<|aE Av<|aH O je (dz _ _ _ _ _ _ _ _ J _ (je.ext hb) (hW.hp je)) (bz uv O O (show _=I 0 from O))<|fun w2 tY=>aE Av<|V (kG O O)<|aa<|aF O (fun h5=> ?_) (fun h5=> ?_)
 .refine an<|aA<|au<|aE mz<|V (af O)<|V (fA ix 0 O vh O)<|aE Av<|aH O tY (dz _ _ _ _ _ _ _ _ J _ (tY.ext hb) (hW.hp tY)) (bz uv O O (show _=I 0 from O))<|fun w6 eC=>aI rfl<|aa<| ?_
  refine⟨sK nd c,?_,uM.u4.u4.u4.u1,eC,(aK I hcu),?_,?_⟩
  .have hne:sK nd c≠c:=fun e=>‹_≠(c:Int)› (hcu.trans (by rw[e]));exact(SG hf hc O).2.2 hne
  .exact(SG hf hc ov).1
  exact(SG hf hc ov).2.1
 refine a7 (id:=0) rfl<|SR<|aE Av<|aI rfl<|aa<|aj<|oI O ?_ tY
 exact aK (fun x:Nat=>(x:Int)) (ahX hf J hc J ov)
theorem Dl{nA nB nC nD nE nF nG nH nI nJ nK nL:Value}(F:Nat)(vW vU vT:Value)(cnt:Int)(nd:List qA)(cl:List Nat)(i:Int)(hn:nd.length<=1000000)(hf:Fo nd cl)(w:World)(hb:w.heap[F]?=some (.cells #[nA,nB,nC,nD,nE,nF,nG,nH,vW,vU,vT,I cnt,nI,nJ,nK,nL] 111 (0,0)))(hW:Sl w vW 1 (bE nd).length ((bE nd).map U)):Calls Tryz.prog 128 #[.pointer (some ⟨F,8,none⟩),I i] w (Pure (I (fN cl i)) w):=by
 have hwl:=iG nd
 refine eH func128 rfl rfl fun hH=>SR<|va (v:=I 0) rfl<|aa<|ai<|SR<|aE (v:=Pn _ _) rfl<|mI rfl<|aH O hH (mW _ _ _ _ _ _ _ lz _ (hH.ext hb) (hW.hp hH)) (aL call158 O O)<|fun w1 bp=>V (vx O)<|aa<|aF O (fun h6=> ?_) (fun h6=> ?_)
 .refine SR<|va (v:=I (-1)) rfl<|aa<|aj<|oI O ?_ bp
  exact adV hf J
 refine an<|ai<|ec aP bp<|fun w7 eX=>have zh8:=eX;AQ 0 O zh8 (mV (Pn _ _) O)<|AQ 1 O zh8 (af O)<|AQ 2 O zh8 (fA ix 0 O vh O)<|AQ 3 O zh8 (mV (Pn _ _) O)<|AQ 4 O zh8 (mV (I _) O)<|A1 5<|ct O aD O eX sR (oK _ _ _ _ _ nd cl _ lz lz J _ (eX.ext hb) (hW.hp eX)) (aL call160 O O)<|fun w9 cg=>A1 6<|ct O aD O cg sR (dz _ _ _ _ _ _ _ _ (by have:=(pF hf (i:=i.toNat) J).1;omega) _ (cg.ext hb) (hW.hp cg)) (bz uv O O (show _=I 3 from O))<|fun I2 cN=>AQ 7 O cN (aV (I _) O)<|AD<|aj<|oI O ?_ cN
 exact adW hf hn J
theorem Eb{nA nB nC nD nE nF nG nH nI nJ nK nL:Value}(W0:World)(F:Nat)(vW vU vT:Value)(cnt:Int)(cW:Option (Nat×Array Value))(W:List (BitVec 64))(L:List bu)(b1 b2:Nat)(n:Int)(hn:0<=n/\n<=W.length)(w:World)(h1:bu.blk b1 (.cells #[.pointer (some ⟨F,8,none⟩)] 193 (0,0))∈L)(h2:bu.blk b2 (.cells #[I n] 3 (0,0))∈L)(zo:cO cW vW (W.map U))(hH:Hp W0 w (.blk F (.cells #[nA,nB,nC,nD,nE,nF,nG,nH,vW,vU,vT,I (cnt),nI,nJ,nK,nL] 111 (0,0))::cE cW vW 35 (W.map U)::L)):Calls Tryz.prog 134 #[.pointer (some ⟨b1,0,none⟩),.pointer (some ⟨b2,0,none⟩)] w (jW fun u w'=>u= .tuple #[]/\∃v' c',cO c' v' ((W.take n.toNat).map U)/\Hp W0 w' (.blk F (.cells #[nA,nB,nC,nD,nE,nF,nG,nH,v',vU,vT,I (cnt),nI,nJ,nK,nL] 111 (0,0))::cE c' v' 35 ((W.take n.toNat).map U)::L)):=by
 refine en func134 rfl rfl<|gD aP hH (sQ (sQ sR))<|fun w1 bp=>have kS:=bp.sub (sQ (sQ sR));AT 0 O kS (fun w hS=>aG lT O O (hS.pq h1 (v:=Pn _ _) O))<|AT 1 O kS (fun w hS=>aG lT O O (hS.pq h1 (v:=Pn _ _) O))<|AQ 2 O kS (af O)<|AQ 3 O kS (fA mA 0 O jB O)<|AT 5 O kS (fun w hS=>aG bx O O (hS.pq h2 (v:=I _) O))<|AT 6 O kS (fun w hS=>aG bx O O (hS.pq h2 (v:=I _) O))<|A1 4<|cf O aD O bp (sQ (sQ sR)) (aG dh O O (bp.cell (i:=0) O O))<|A1 7<|cf O aD O bp (sQ (sQ sR)) (vX (bp.yQ (i:=1) O zo) dh cP O O O J)<|AQ 8 O kS (af O)<|AQ 9 O kS (fA mA 0 O jB O)<|A1 10<|have hs1:=((bp.yQ (i:=1) O zo)).tF (n:=(n).toNat) J;?_
 obtain⟨c9,ayP,df⟩:=bp.ar4 (i:=1) O zo (m:=(n).toNat) Ys
 simp only[jg,kW,<-B8]at df ayP
 refine ed O aD df (j:=0) O (sQ (sQ sR)) (bL O O (v:=(tF vW (n).toNat)) O (iq hs1).2 (iq hs1).1 (df.blk (i:=0) O) aJ)<|fun y8 bX=>AD<|rf O ⟨rfl,(tF vW (n).toNat),c9,ayP,bX⟩
theorem Ec{nA nB nC nD nE nF nG nH nI nJ nK nL:Value}(W0:World)(F:Nat)(vW vU vT:Value)(cnt:Int)(cW:Option (Nat×Array Value))(W:List (BitVec 64))(L:List bu)(b1 b2 b3:Nat)(i:Int)(b:BitVec 64)(hi:0<=i/\i<W.length)(w:World)(h1:bu.blk b1 (.cells #[U b] 35 (0,0))∈L)(h2:bu.blk b2 (.cells #[.pointer (some ⟨F,8,none⟩)] 193 (0,0))∈L)(h3:bu.blk b3 (.cells #[I i] 3 (0,0))∈L)(zo:cO cW vW (W.map U))(hH:Hp W0 w (.blk F (.cells #[nA,nB,nC,nD,nE,nF,nG,nH,vW,vU,vT,I (cnt),nI,nJ,nK,nL] 111 (0,0))::cE cW vW 35 (W.map U)::L)):Calls Tryz.prog 243 #[.pointer (some ⟨b1,0,none⟩),.pointer (some ⟨b2,0,none⟩),.pointer (some ⟨b3,0,none⟩)] w (jW fun u w'=>u= .tuple #[]/\∃v' c',cO c' v' ((W.set i.toNat b).map U)/\Hp W0 w' (.blk F (.cells #[nA,nB,nC,nD,nE,nF,nG,nH,v',vU,vT,I (cnt),nI,nJ,nK,nL] 111 (0,0))::cE c' v' 35 ((W.set i.toNat b).map U)::L)):=by
 refine en func243 rfl rfl<|gD aP hH (sP (sQ sR))<|fun w1 bp=>have kS:=bp.sub (sP (sQ sR));AT 0 O kS (fun w hS=>aG lT O O (hS.pq (mT h2) (v:=Pn _ _) O))<|AQ 1 O kS (af O)<|AQ 2 O kS (fA mA 0 O jB O)<|tV 3 O kS dh 0 O O rfl<|AT 4 O kS (fun w hS=>aG bx O O (hS.pq (mT h3) (v:=I _) O))<|AT 5 O kS (fun w hS=>aG dM O O (hS.pq (mT h1) (v:=U _) O))<|A1 6<|cf O aD O bp (sP (sQ sR)) (ah (bp.yQ (i:=1) O zo) dh cP O O J)<|A1 7<|ah3 (u:=U _) O aD bp (i:=1) O zo (fun _ _=>(sP (sQ sR))) Ys O O O O rfl<|fun c7 w9 hk8 cg=> ?_
 simp only[jg,kW,GC]at cg hk8
 refine AD<|rf O ⟨rfl,vW,c7,hk8,cg⟩
theorem rP{nA nB nC nD nE nF nG nH nI nJ nK nL:Value}(W0:World)(F:Nat)(vW vU vT:Value)(cnt:Int)(cW cU:Option (Nat×Array Value))(W:List (BitVec 64))(ul:List (Value×jQ))(L:List bu)(b:BitVec 64)(hwl:W.length<=4000000)(OQ:ul.length<=4000000)(w:World)(zo:cO cW vW (W.map U))(JO:cO cU vU (ul.map Prod.fst))(hH:Hp W0 w (.blk F (.cells #[nA,nB,nC,nD,nE,nF,nG,nH,vW,vU,vT,I (cnt),nI,nJ,nK,nL] 111 (0,0))::cE cW vW 35 (W.map U)::cE cU vU 1 (ul.map Prod.fst)::L)):Calls Tryz.prog 91 #[.pointer (some ⟨F,8,none⟩),U b] w (jW fun u w'=>u=I W.length/\∃(v':Value) (c':Option (Nat×Array Value)) (v2:Value) (c2:Option (Nat×Array Value)) (zk:List (Value×jQ)) (Lb:List bu),cO c' v' ((W++[b]).map U)/\cO c2 v2 (zk.map Prod.fst)/\zk.map Prod.snd=ul.map Prod.snd++[jQ.add W.length]/\zk.take ul.length=ul/\zk.length<=ul.length+1/\(∀x∈zk.drop ul.length,pL (⟨134,243,193,3,35,8⟩:UT) F Lb x)/\Hp W0 w' (.blk F (.cells #[nA,nB,nC,nD,nE,nF,nG,nH,v',v2,vT,I (cnt),nI,nJ,nK,nL] 111 (0,0))::cE c' v' 35 ((W++[b]).map U)::cE c2 v2 1 (zk.map Prod.fst)::(Lb++L))):=by
 refine en func91 rfl rfl<|SR<|gM hH (v:=Pn _ _) rfl<|fun b3 w1 bp=>va (v:=I 0) rfl<|aa<|ai<|SR<|lP lT bp 0 O O rfl<|V (kU lT O O)<|aa<|cQ rfl<|an<|SR<|lP lT bp 0 O O rfl<|V (af O)<|V (fA mA 0 O jB O)<|lV dh bp 1 O O rfl<|V (aC (bp.yQ (i:=2) O zo) O dh O)<|lJ bp (aS Tryz.zeroValue3)<|fun b6 w4 bY=>bg bY (i:=0) O (bL O O (v:=I _) O O O (bY.blk (i:=0) O) az)<|fun w7 eX=>aa<|ai<|gD aP eX (sP (sP (sQ (sQ sR))))<|fun w9 cg=>have AB:=cg.sub (sP (sP (sQ (sQ sR))));tP 0 O AB lT 1 O O rfl<|tP 1 O AB lT 1 O O rfl<|AQ 2 O AB (af O)<|AQ 3 O AB (fA mA 0 O jB O)<|AQ 5 O AB (mV (U _) O)<|gp 4 6 aP ?_ ?_
 .refine cf O aD O cg (sP (sP (sQ (sQ sR)))) (aG dh O O (cg.cell (i:=2) O O))<|A1 6<|cH O aD O cg (sP (sP (sQ (sQ sR)))) (f:=fun b=> .slice (some ⟨b,0,none⟩) 1 1) (cB dh O O (sz:=1) (vs:=[U _]) O O az az O O)<|fun b15 C0 cG=> ?_
  (try simp only[lf]at cG)
  refine A1 7<|CH (y0:=U b) O aD O cG (i:=4) O zo (fun _ _=>(sQ (sP (sP (sQ (sQ sR)))))) (cG.dR (i:=0) (n:=1) (sz:=1) O O az) O O dh O O O (bytes:=8) O O O ph ph<|fun v18 Tj cT=> ?_
  rw[Qg]at cT
  refine AQ 8 O (cT.sub (sQ (sP (sP (sQ (sQ sR)))))) (af O)<|AQ 9 O (cT.sub (sQ (sP (sP (sQ (sQ sR)))))) (fA mA 0 O jB O)<|A1 10<|ed O aD cT (j:=3) O (sQ (sP (sP (sQ (sQ sR))))) (bL O O (v:=v18) O (iq (cT.yQ (i:=4) O trivial)).2 (iq (cT.yQ (i:=4) O trivial)).1 (cT.blk (i:=3) O) aJ)<|fun w23 gY=>AD<|ai<|gD aP gY (sP (sP (sP (sQ (sP (sQ sR))))))<|fun w25 jf=>have Kb:=jf.sub (sP (sP (sP (sQ (sP (sQ sR))))));tP 0 O Kb lT 2 O O rfl<|tP 1 O Kb lT 2 O O rfl<|AQ 2 O Kb (af O)<|AQ 3 O Kb (fA mA 1 O kg O)<| ?_
  refine AQ 5 O Kb (s5 bA bA) ?_
  refine gp 4 6 aP ?_ ?_
  .refine cf O aD O jf (sP (sP (sP (sQ (sP (sQ sR)))))) (aG hG O O (jf.cell (i:=3) O O))<|A1 6<|cH O aD O jf (sP (sP (sP (sQ (sP (sQ sR)))))) (f:=fun b=> .slice (some ⟨b,0,none⟩) 1 1) (cB hG O O (sz:=1) (vs:=[.func _ _ _]) O O az az O O)<|fun b31 w29 iV=> ?_
   (try simp only[lf]at iV)
   refine A1 7<|CH (y0:= .func (.func 134) #[] #[.pointer (some ⟨b3,0,none⟩),.pointer (some ⟨b6,0,none⟩)]) rfl aD rfl iV (i:=6) O JO (fun _ _=>(sQ (sP (sP (sP (sQ (sP (sQ sR)))))))) (iV.dR (i:=0) (n:=1) (sz:=1) O O az) O O hG O O O (bytes:=8) O O O ph ph<|fun v34 w35 j4=> ?_
   rw[u6 (jQ.add W.length)]at j4
   refine AQ 8 O (j4.sub (sQ (sP (sP (sP (sQ (sP (sQ sR)))))))) (af O)<|AQ 9 O (j4.sub (sQ (sP (sP (sP (sQ (sP (sQ sR)))))))) (fA mA 1 O kg O)<|A1 10<|ed O aD j4 (j:=4) O (sQ (sP (sP (sP (sQ (sP (sQ sR))))))) (bL O O (v:=v34) O (iq (j4.Bz (i:=6) O trivial)).2 (iq (j4.Bz (i:=6) O trivial)).1 (j4.blk (i:=4) O) aJ)<|fun w39 lE=>AD<|SR<|lI bx lE 2 O O rfl<|aI rfl<|aa<|aj<|jy O (v:=I W.length) O ⟨rfl,v18,none,v34,none,(ul++[(.func (.func 134) #[] #[.pointer (some ⟨b3,0,none⟩),.pointer (some ⟨b6,0,none⟩)],jQ.add W.length)]),[bu.blk b3 (.cells #[.pointer (some ⟨F,8,none⟩)] 193 (0,0)),bu.blk b6 (.cells #[I W.length] 3 (0,0))],trivial,trivial,aJ,aJ,aJ,?_,(lE.pj [4,4,4,3,2]).sub (sP (sP (sP (sP (sP (sQ (sQ sR)))))))⟩
   intro x hx;rw[E0,gG]at hx;subst hx;exact⟨_,_,rfl,aJ,aJ⟩
  refine cH O aD O jf (sP (sP (sP (sQ (sP (sQ sR)))))) (f:=fun b=> .slice (some ⟨b,0,none⟩) 1 1) (cB hG O O (sz:=1) (vs:=[.func _ _ _]) O O az az O O)<|fun b43 w41 qN=> ?_
  (try simp only[lf]at qN)
  refine A1 4<|cf O aD O qN (sQ (sP (sP (sP (sQ (sP (sQ sR))))))) (aG hG O O (qN.cell (i:=4) O O))<|A1 7<|CH (y0:= .func (.func 134) #[] #[.pointer (some ⟨b3,0,none⟩),.pointer (some ⟨b6,0,none⟩)]) rfl aD rfl qN (i:=6) O JO (fun _ _=>(sQ (sP (sP (sP (sQ (sP (sQ sR)))))))) (qN.dR (i:=0) (n:=1) (sz:=1) O O az) O O hG O O O (bytes:=8) O O O ph ph<|fun v48 w49 eL=> ?_
  rw[u6 (jQ.add W.length)]at eL
  refine AQ 8 O (eL.sub (sQ (sP (sP (sP (sQ (sP (sQ sR)))))))) (af O)<|AQ 9 O (eL.sub (sQ (sP (sP (sP (sQ (sP (sQ sR)))))))) (fA mA 1 O kg O)<|A1 10<|ed O aD eL (j:=4) O (sQ (sP (sP (sP (sQ (sP (sQ sR))))))) (bL O O (v:=v48) O (iq (eL.Bz (i:=6) O trivial)).2 (iq (eL.Bz (i:=6) O trivial)).1 (eL.blk (i:=4) O) aJ)<|fun w53 gQ=>AD<|SR<|lI bx gQ 2 O O rfl<|aI rfl<|aa<|aj<|jy O (v:=I W.length) O ⟨rfl,v18,none,v48,none,(ul++[(.func (.func 134) #[] #[.pointer (some ⟨b3,0,none⟩),.pointer (some ⟨b6,0,none⟩)],jQ.add W.length)]),[bu.blk b3 (.cells #[.pointer (some ⟨F,8,none⟩)] 193 (0,0)),bu.blk b6 (.cells #[I W.length] 3 (0,0))],trivial,trivial,aJ,aJ,aJ,?_,(gQ.pj [4,4,4,3,2]).sub (sP (sP (sP (sP (sP (sQ (sQ sR)))))))⟩
  intro x hx;rw[E0,gG]at hx;subst hx;exact⟨_,_,rfl,aJ,aJ⟩
 refine cH O aD O cg (sP (sP (sQ (sQ sR)))) (f:=fun b=> .slice (some ⟨b,0,none⟩) 1 1) (cB dh O O (sz:=1) (vs:=[U _]) O O az az O O)<|fun b57 w55 ni=> ?_
 (try simp only[lf]at ni)
 refine A1 4<|cf O aD O ni (sQ (sP (sP (sQ (sQ sR))))) (aG dh O O (ni.cell (i:=3) O O))<|A1 7<|CH (y0:=U b) O aD O ni (i:=4) O zo (fun _ _=>(sQ (sP (sP (sQ (sQ sR)))))) (ni.dR (i:=0) (n:=1) (sz:=1) O O az) O O dh O O O (bytes:=8) O O O ph ph<|fun v62 w63 wR=> ?_
 rw[Qg]at wR
 refine AQ 8 O (wR.sub (sQ (sP (sP (sQ (sQ sR)))))) (af O)<|AQ 9 O (wR.sub (sQ (sP (sP (sQ (sQ sR)))))) (fA mA 0 O jB O)<|A1 10<|ed O aD wR (j:=3) O (sQ (sP (sP (sQ (sQ sR))))) (bL O O (v:=v62) O (iq (wR.yQ (i:=4) O trivial)).2 (iq (wR.yQ (i:=4) O trivial)).1 (wR.blk (i:=3) O) aJ)<|fun w67 kE=>AD<|ai<|gD aP kE (sP (sP (sP (sQ (sP (sQ sR))))))<|fun w69 wA=>have Oq:=wA.sub (sP (sP (sP (sQ (sP (sQ sR))))));tP 0 O Oq lT 2 O O rfl<|tP 1 O Oq lT 2 O O rfl<|AQ 2 O Oq (af O)<|AQ 3 O Oq (fA mA 1 O kg O)<| ?_
 refine AQ 5 O Oq (s5 bA bA) ?_
 refine gp 4 6 aP ?_ ?_
 .refine cf O aD O wA (sP (sP (sP (sQ (sP (sQ sR)))))) (aG hG O O (wA.cell (i:=3) O O))<|A1 6<|cH O aD O wA (sP (sP (sP (sQ (sP (sQ sR)))))) (f:=fun b=> .slice (some ⟨b,0,none⟩) 1 1) (cB hG O O (sz:=1) (vs:=[.func _ _ _]) O O az az O O)<|fun b75 w73 wS=> ?_
  (try simp only[lf]at wS)
  refine A1 7<|CH (y0:= .func (.func 134) #[] #[.pointer (some ⟨b3,0,none⟩),.pointer (some ⟨b6,0,none⟩)]) rfl aD rfl wS (i:=6) O JO (fun _ _=>(sQ (sP (sP (sP (sQ (sP (sQ sR)))))))) (wS.dR (i:=0) (n:=1) (sz:=1) O O az) O O hG O O O (bytes:=8) O O O ph ph<|fun v78 w79 pA=> ?_
  rw[u6 (jQ.add W.length)]at pA
  refine AQ 8 O (pA.sub (sQ (sP (sP (sP (sQ (sP (sQ sR)))))))) (af O)<|AQ 9 O (pA.sub (sQ (sP (sP (sP (sQ (sP (sQ sR)))))))) (fA mA 1 O kg O)<|A1 10<|ed O aD pA (j:=4) O (sQ (sP (sP (sP (sQ (sP (sQ sR))))))) (bL O O (v:=v78) O (iq (pA.Bz (i:=6) O trivial)).2 (iq (pA.Bz (i:=6) O trivial)).1 (pA.blk (i:=4) O) aJ)<|fun w83 lj=>AD<|SR<|lI bx lj 2 O O rfl<|aI rfl<|aa<|aj<|jy O (v:=I W.length) O ⟨rfl,v62,none,v78,none,(ul++[(.func (.func 134) #[] #[.pointer (some ⟨b3,0,none⟩),.pointer (some ⟨b6,0,none⟩)],jQ.add W.length)]),[bu.blk b3 (.cells #[.pointer (some ⟨F,8,none⟩)] 193 (0,0)),bu.blk b6 (.cells #[I W.length] 3 (0,0))],trivial,trivial,aJ,aJ,aJ,?_,(lj.pj [4,4,4,3,2]).sub (sP (sP (sP (sP (sP (sQ (sQ sR)))))))⟩
  intro x hx;rw[E0,gG]at hx;subst hx;exact⟨_,_,rfl,aJ,aJ⟩
 refine cH O aD O wA (sP (sP (sP (sQ (sP (sQ sR)))))) (f:=fun b=> .slice (some ⟨b,0,none⟩) 1 1) (cB hG O O (sz:=1) (vs:=[.func _ _ _]) O O az az O O)<|fun b87 w85 uA=> ?_
 (try simp only[lf]at uA)
 refine A1 4<|cf O aD O uA (sQ (sP (sP (sP (sQ (sP (sQ sR))))))) (aG hG O O (uA.cell (i:=4) O O))<|A1 7<|CH (y0:= .func (.func 134) #[] #[.pointer (some ⟨b3,0,none⟩),.pointer (some ⟨b6,0,none⟩)]) rfl aD rfl uA (i:=6) O JO (fun _ _=>(sQ (sP (sP (sP (sQ (sP (sQ sR)))))))) (uA.dR (i:=0) (n:=1) (sz:=1) O O az) O O hG O O O (bytes:=8) O O O ph ph<|fun v92 w93 uB=> ?_
 rw[u6 (jQ.add W.length)]at uB
 refine AQ 8 O (uB.sub (sQ (sP (sP (sP (sQ (sP (sQ sR)))))))) (af O)<|AQ 9 O (uB.sub (sQ (sP (sP (sP (sQ (sP (sQ sR)))))))) (fA mA 1 O kg O)<|A1 10<|ed O aD uB (j:=4) O (sQ (sP (sP (sP (sQ (sP (sQ sR))))))) (bL O O (v:=v92) O (iq (uB.Bz (i:=6) O trivial)).2 (iq (uB.Bz (i:=6) O trivial)).1 (uB.blk (i:=4) O) aJ)<|fun w97 Oc=>AD<|SR<|lI bx Oc 2 O O rfl<|aI rfl<|aa<|aj<|jy O (v:=I W.length) O ⟨rfl,v62,none,v92,none,(ul++[(.func (.func 134) #[] #[.pointer (some ⟨b3,0,none⟩),.pointer (some ⟨b6,0,none⟩)],jQ.add W.length)]),[bu.blk b3 (.cells #[.pointer (some ⟨F,8,none⟩)] 193 (0,0)),bu.blk b6 (.cells #[I W.length] 3 (0,0))],trivial,trivial,aJ,aJ,aJ,?_,(Oc.pj [4,4,4,3,2]).sub (sP (sP (sP (sP (sP (sQ (sQ sR)))))))⟩
 intro x hx;rw[E0,gG]at hx;subst hx;exact⟨_,_,rfl,aJ,aJ⟩
theorem Hh{nA nB nC nD nE nF nG nH nI nJ nK nL:Value}(W0:World)(F:Nat)(vW vU vT:Value)(cnt:Int)(cW cU:Option (Nat×Array Value))(W:List (BitVec 64))(ul:List (Value×jQ))(L:List bu)(i:Int)(b:BitVec 64)(hwl:W.length<=4000000)(OQ:ul.length<=4000000)(hi:0<=i/\i<W.length)(w:World)(zo:cO cW vW (W.map U))(JO:cO cU vU (ul.map Prod.fst))(hH:Hp W0 w (.blk F (.cells #[nA,nB,nC,nD,nE,nF,nG,nH,vW,vU,vT,I (cnt),nI,nJ,nK,nL] 111 (0,0))::cE cW vW 35 (W.map U)::cE cU vU 1 (ul.map Prod.fst)::L)):Calls Tryz.prog 217 #[.pointer (some ⟨F,8,none⟩),I i,U b] w (jW fun u w'=>u=B true/\∃(v':Value) (c':Option (Nat×Array Value)) (v2:Value) (c2:Option (Nat×Array Value)) (zk:List (Value×jQ)) (Lb:List bu),cO c' v' ((W.set i.toNat b).map U)/\cO c2 v2 (zk.map Prod.fst)/\zk.map Prod.snd=IK W (ul.map Prod.snd) i.toNat b/\zk.take ul.length=ul/\zk.length<=ul.length+1/\(∀x∈zk.drop ul.length,pL (⟨134,243,193,3,35,8⟩:UT) F Lb x)/\Hp W0 w' (.blk F (.cells #[nA,nB,nC,nD,nE,nF,nG,nH,v',v2,vT,I (cnt),nI,nJ,nK,nL] 111 (0,0))::cE c' v' 35 ((W.set i.toNat b).map U)::cE c2 v2 1 (zk.map Prod.fst)::(Lb++L))):=by
 refine en func217 rfl rfl<|SR<|gM hH (v:=Pn _ _) rfl<|fun b3 w1 bp=>gM bp (v:=I _) rfl<|fun b6 w4 bY=>va (v:=B false) rfl<|aa<|ai<|SR<|lP lT bY 1 O O rfl<|lI bx bY 0 O O rfl<|aH O bY (zj _ _ _ _ _ _ _ _ (bY.blk (i:=2) O) (bY.yQ (i:=3) O zo)) (aL call218 O O)<|fun w7 eX=>V (bJ (bT (hi)))<|aa<|cQ rfl<|an<|ai<|ec aP eX<|fun I2 cN=>have aay:=cN;tP 0 O aay lT 1 O O rfl<|AQ 1 O aay (af O)<|AQ 2 O aay (fA mA 0 O jB O)<|tV 3 O aay dh 2 O O rfl<|tI 4 O aay bx 0 O O rfl<|AT 5 O aay (fun w hS=>ah (hS.yQ (i:=3) O zo) dh cP O O J)<|AT 6 O aay (fun w hS=>aG dM O O (Sl.atU (hS.yQ (i:=3) O zo) J J))<|A1 7<|cH O aD O cN sR (f:=fun b=> .pointer (some ⟨b,0,none⟩)) (aS Tryz.zeroValue35)<|fun b15 C0 cG=>A1 8<|ed O aD cG (j:=0) O (sQ sR) (bL O O (v:=U _) O O O (cG.blk (i:=0) O) az)<|fun I4 ep=>AD<|ai<|SR<|V (aG dM O O (ep.cell (i:=0) O (v:=U _) O))<|mU rfl<|V (vp O O)<|aa<|aF O (fun NT=> ?_) (fun NT=> ?_)
 .refine ai<|gD aP ep (sP (sP (sP (sP (sQ sR)))))<|fun ZZ fI=>have oD:=fI.sub (sP (sP (sP (sP (sQ sR)))));tP 0 O oD lT 2 O O rfl<|AQ 1 O oD (af O)<|AQ 2 O oD (fA mA 0 O jB O)<|tV 3 O oD dh 3 O O rfl<|tI 4 O oD bx 1 O O rfl<|AQ 5 O oD (mV (U _) O)<|A1 6<|cf O aD O fI (sP (sP (sP (sP (sQ sR))))) (ah (fI.yQ (i:=4) O zo) dh cP O O J)<|A1 7<|ah3 (u:=U _) O aD fI (i:=4) O zo (fun _ _=>(sP (sP (sP (sP (sQ sR)))))) Ys O O O O rfl<|fun c26 w28 at1 gj=> ?_
  simp only[jg,kW,GC]at gj at1
  refine AD<|gD aP gj (sP (sP (sP (sQ (sP (sQ sR))))))<|fun w30 gT=>have AM:=gT.sub (sP (sP (sP (sQ (sP (sQ sR))))));tP 0 O AM lT 2 O O rfl<|tP 1 O AM lT 2 O O rfl<|AQ 2 O AM (af O)<|AQ 3 O AM (fA mA 1 O kg O)<| ?_
  refine AQ 5 O AM (LS bA bA bA) ?_
  refine gp 4 6 aP ?_ ?_
  .refine cf O aD O gT (sP (sP (sP (sQ (sP (sQ sR)))))) (aG hG O O (gT.cell (i:=3) O O))<|A1 6<|cH O aD O gT (sP (sP (sP (sQ (sP (sQ sR)))))) (f:=fun b=> .slice (some ⟨b,0,none⟩) 1 1) (cB hG O O (sz:=1) (vs:=[.func _ _ _]) O O az az O O)<|fun b36 w34 uX=> ?_
   (try simp only[lf]at uX)
   refine A1 7<|CH (y0:= .func (.func 243) #[] #[.pointer (some ⟨b15,0,none⟩),.pointer (some ⟨b3,0,none⟩),.pointer (some ⟨b6,0,none⟩)]) rfl aD rfl uX (i:=6) O JO (fun _ _=>(sQ (sP (sP (sP (sQ (sP (sQ sR)))))))) (uX.dR (i:=0) (n:=1) (sz:=1) O O az) O O hG O O O (bytes:=8) O O O ph ph<|fun v39 w40 jS=> ?_
   rw[u6 (jQ.set i.toNat (W.getD i.toNat 0))]at jS
   refine AQ 8 O (jS.sub (sQ (sP (sP (sP (sQ (sP (sQ sR)))))))) (af O)<|AQ 9 O (jS.sub (sQ (sP (sP (sP (sQ (sP (sQ sR)))))))) (fA mA 1 O kg O)<|A1 10<|ed O aD jS (j:=4) O (sQ (sP (sP (sP (sQ (sP (sQ sR))))))) (bL O O (v:=v39) O (iq (jS.Bz (i:=6) O trivial)).2 (iq (jS.Bz (i:=6) O trivial)).1 (jS.blk (i:=4) O) aJ)<|fun w44 rZ=>AD<|SR<|va (v:=B true) rfl<|aa<|aj<|jy O (v:=B true) O ⟨rfl,vW,c26,v39,none,(ul++[(.func (.func 243) #[] #[.pointer (some ⟨b15,0,none⟩),.pointer (some ⟨b3,0,none⟩),.pointer (some ⟨b6,0,none⟩)],jQ.set i.toNat (W.getD i.toNat 0))]),[bu.blk b15 (.cells #[U (W.getD i.toNat 0)] 35 (0,0)),bu.blk b3 (.cells #[.pointer (some ⟨F,8,none⟩)] 193 (0,0)),bu.blk b6 (.cells #[I i] 3 (0,0))],at1,trivial,?_,aJ,aJ,?_,(rZ.pj [4,4,4,1,2,1]).sub (sP (sP (sP (sP (sP (sP (sQ sR)))))))⟩
   ·(rw[IK,aT ‹_≠b›];simp;done)
   (intro x hx;rw[E0,gG]at hx;subst hx;exact⟨_,_,_,rfl,aJ,aJ,by simp[gk hi.1]⟩)
  refine cH O aD O gT (sP (sP (sP (sQ (sP (sQ sR)))))) (f:=fun b=> .slice (some ⟨b,0,none⟩) 1 1) (cB hG O O (sz:=1) (vs:=[.func _ _ _]) O O az az O O)<|fun b48 w46 oS=> ?_
  (try simp only[lf]at oS)
  refine A1 4<|cf O aD O oS (sQ (sP (sP (sP (sQ (sP (sQ sR))))))) (aG hG O O (oS.cell (i:=4) O O))<|A1 7<|CH (y0:= .func (.func 243) #[] #[.pointer (some ⟨b15,0,none⟩),.pointer (some ⟨b3,0,none⟩),.pointer (some ⟨b6,0,none⟩)]) rfl aD rfl oS (i:=6) O JO (fun _ _=>(sQ (sP (sP (sP (sQ (sP (sQ sR)))))))) (oS.dR (i:=0) (n:=1) (sz:=1) O O az) O O hG O O O (bytes:=8) O O O ph ph<|fun v53 w54 jz=> ?_
  rw[u6 (jQ.set i.toNat (W.getD i.toNat 0))]at jz
  refine AQ 8 O (jz.sub (sQ (sP (sP (sP (sQ (sP (sQ sR)))))))) (af O)<|AQ 9 O (jz.sub (sQ (sP (sP (sP (sQ (sP (sQ sR)))))))) (fA mA 1 O kg O)<|A1 10<|ed O aD jz (j:=4) O (sQ (sP (sP (sP (sQ (sP (sQ sR))))))) (bL O O (v:=v53) O (iq (jz.Bz (i:=6) O trivial)).2 (iq (jz.Bz (i:=6) O trivial)).1 (jz.blk (i:=4) O) aJ)<|fun w58 BR=>AD<|SR<|va (v:=B true) rfl<|aa<|aj<|jy O (v:=B true) O ⟨rfl,vW,c26,v53,none,(ul++[(.func (.func 243) #[] #[.pointer (some ⟨b15,0,none⟩),.pointer (some ⟨b3,0,none⟩),.pointer (some ⟨b6,0,none⟩)],jQ.set i.toNat (W.getD i.toNat 0))]),[bu.blk b15 (.cells #[U (W.getD i.toNat 0)] 35 (0,0)),bu.blk b3 (.cells #[.pointer (some ⟨F,8,none⟩)] 193 (0,0)),bu.blk b6 (.cells #[I i] 3 (0,0))],at1,trivial,?_,aJ,aJ,?_,(BR.pj [4,4,4,1,2,1]).sub (sP (sP (sP (sP (sP (sP (sQ sR)))))))⟩
  ·(rw[IK,aT ‹_≠b›];simp;done)
  (intro x hx;rw[E0,gG]at hx;subst hx;exact⟨_,_,_,rfl,aJ,aJ,by simp[gk hi.1]⟩)
 refine an<|SR<|va (v:=B true) rfl<|aa<|aj<| ?_
 rw[M4 (Rc.1 ‹¬_≠b›)]
 refine jy O (v:=B true) O ⟨rfl,vW,cW,vU,cU,ul,[],zo,JO,?_,aJ,aJ,?_,(ep.pj [3,3,3]).sub (sP (sP (sP (sQ (sQ (sQ sR))))))⟩
 ·(rw[IK,aX (Rc.1 ‹¬_≠b›)])
 (intro x hx;simp at hx)
theorem kF{nA nB nC nD nE nF nG nH nI nJ nK nL:Value}(W0:World)(F:Nat)(vW vU vT:Value)(cnt:Int)(cW cU:Option (Nat×Array Value))(W:List (BitVec 64))(ul:List (Value×jQ))(L:List bu)(i k to:Int)(hwl:W.length<=4000000)(OQ:ul.length<=4000000)(hi:0<=i/\i<1000000/\0<=k/\k<4/\4*i+k<W.length)(w:World)(zo:cO cW vW (W.map U))(JO:cO cU vU (ul.map Prod.fst))(hH:Hp W0 w (.blk F (.cells #[nA,nB,nC,nD,nE,nF,nG,nH,vW,vU,vT,I (cnt),nI,nJ,nK,nL] 111 (0,0))::cE cW vW 35 (W.map U)::cE cU vU 1 (ul.map Prod.fst)::L)):Calls Tryz.prog 189 #[.pointer (some ⟨F,8,none⟩),I i,I k,I to] w (jW fun u w'=>u= .tuple #[]/\∃(v':Value) (c':Option (Nat×Array Value)) (v2:Value) (c2:Option (Nat×Array Value)) (zk:List (Value×jQ)) (Lb:List bu),cO c' v' ((W.set (4*i+k).toNat (BitVec.ofInt 64 to)).map U)/\cO c2 v2 (zk.map Prod.fst)/\zk.map Prod.snd=IK W (ul.map Prod.snd) (4*i+k).toNat (BitVec.ofInt 64 to)/\zk.take ul.length=ul/\zk.length<=ul.length+1/\(∀x∈zk.drop ul.length,pL (⟨134,243,193,3,35,8⟩:UT) F Lb x)/\Hp W0 w' (.blk F (.cells #[nA,nB,nC,nD,nE,nF,nG,nH,v',v2,vT,I (cnt),nI,nJ,nK,nL] 111 (0,0))::cE c' v' 35 ((W.set (4*i+k).toNat (BitVec.ofInt 64 to)).map U)::cE c2 v2 1 (zk.map Prod.fst)::(Lb++L))):=by
 refine en func189 rfl rfl<|au<|aE (v:=Pn _ _) rfl<|V (af O)<|V (fA zB 0 O zF O)<|mI rfl<|V (zM O O J)<|mI rfl<|V (ax O O J)<|mI rfl<|V (kq bx dM O)<|cw O (Hh _ _ _ _ _ _ _ _ _ _ _ _ _ J J J _ zo JO hH) (bz call217 O O O)<| ?_
 rintro _ w3 ⟨rfl,v6,c7,u8,e9,aFx,aFy,aFz,aFA,aFB,at2,at3,aFC,h4⟩
 refine aa<|rf O ⟨rfl,v6,c7,u8,e9,aFx,aFy,aFz,aFA,aFB,at2,at3,aFC,h4⟩
theorem ako{nA nB nC nD nE nF nG nH nI nJ nK nL:Value}{W0 w:World}{F:Nat}{vW vU vT:Value}{cnt:Int}{cW:Option (Nat×Array Value)}{W:List (BitVec 64)}{L:List bu}(x:Value×jQ)(hx:pL (⟨134,243,193,3,35,8⟩:UT) F L x)(hok:match x.2 with| .add n=>n<=W.length| .set i _=>i<W.length)(zo:cO cW vW (W.map U))(hH:Hp W0 w (.blk F (.cells #[nA,nB,nC,nD,nE,nF,nG,nH,vW,vU,vT,I (cnt),nI,nJ,nK,nL] 111 (0,0))::cE cW vW 35 (W.map U)::L)):
  ∃(f:FuncId) (cs:List Value),x.1= .func (.func f) #[] cs.toArray/\(∀args w,(callFunc f args).run Tryz.prog w= .ok (.enter f args) w)/\Calls Tryz.prog f cs.toArray w (jW fun u w'=>u= .tuple #[]/\∃v' c',cO c' v' ((SF W x.2).map U)/\Hp W0 w' (.blk F (.cells #[nA,nB,nC,nD,nE,nF,nG,nH,v',vU,vT,I (cnt),nI,nJ,nK,nL] 111 (0,0))::cE c' v' 35 ((SF W x.2).map U)::L)):=by
 obtain⟨v,u⟩:=x
 cases u with
 |add n=>
  obtain⟨b1,b2,h0,h1,h2⟩:=hx
  have hc:=Eb W0 F vW vU vT cnt cW W L b1 b2 n ⟨J,by exact Int.ofNat_le.2 hok⟩ w h1 h2 zo hH
  rw[eA]at hc
  exact⟨_,[_,_],h0,call134,hc⟩
 |set i b=>
  obtain⟨b1,b2,b3,h0,h1,h2,h3⟩:=hx
  have hc:=Ec W0 F vW vU vT cnt cW W L b1 b2 b3 i b ⟨J,by exact Int.ofNat_lt.2 hok⟩ w h1 h2 h3 zo hH
  rw[eA]at hc
  exact⟨_,[_,_,_],h0,call243,hc⟩
theorem FN{nA nB nC nD nE nF nG nH nI nJ nK nL:Value}(W0:World)(F:Nat)(vW vU vT:Value)(cnt:Int)(cW cU:Option (Nat×Array Value))(W:List (BitVec 64))(ul:List (Value×jQ))(L:List bu)(m:Int)(hwl:W.length<=4000000)(OQ:ul.length<=4000000)(hm:0<=m/\m<=ul.length)(w:World)(hI:∀x∈ul,pL (⟨134,243,193,3,35,8⟩:UT) F L x)(hok:M0 W.length (ul.map Prod.snd))(zo:cO cW vW (W.map U))(JO:cO cU vU (ul.map Prod.fst))(hH:Hp W0 w (.blk F (.cells #[nA,nB,nC,nD,nE,nF,nG,nH,vW,vU,vT,I (cnt),nI,nJ,nK,nL] 111 (0,0))::cE cW vW 35 (W.map U)::cE cU vU 1 (ul.map Prod.fst)::L)):Calls Tryz.prog 92 #[.pointer (some ⟨F,8,none⟩),I m] w (jW fun u w'=>u=B true/\∃(v':Value) (c':Option (Nat×Array Value)) (v2:Value) (c2:Option (Nat×Array Value)),cO c' v' ((jH W (ul.map Prod.snd) m.toNat).map U)/\cO c2 v2 ((ul.take m.toNat).map Prod.fst)/\Hp W0 w' (.blk F (.cells #[nA,nB,nC,nD,nE,nF,nG,nH,v',v2,vT,I (cnt),nI,nJ,nK,nL] 111 (0,0))::cE c' v' 35 ((jH W (ul.map Prod.snd) m.toNat).map U)::cE c2 v2 1 ((ul.take m.toNat).map Prod.fst)::L)):=by
 have hlm:(ul.map Prod.fst).length=ul.length:=gF ..
 refine en func92 rfl rfl<|SR<|va (v:=B false) rfl<|aa<|ai<|SR<|aE (v:=Pn _ _) rfl<|V (kU lT O O)<|mB rfl<|cC O rfl<|mI rfl<|aE (v:=Pn _ _) rfl<|V (af O)<|V (fA mA 1 O kg O)<|lV hG hH 0 O O rfl<|V (aC (hH.Bz (i:=2) O JO) O hG O)<|V (dN O O)<|mB rfl<|aa<|aF O (fun h2=> ?_) (fun h2=> ?_)
 .refine SR<|va (v:=B false) rfl<|aa<|aj<| ?_
  exfalso;omega
 refine an<|ai<|SR<|aE (v:=Pn _ _) rfl<|V (af O)<|V (fA mA 1 O kg O)<|lV hG hH 0 O O rfl<|V (aC (hH.Bz (i:=2) O JO) O hG O)<|V (eO O O J)<|aI rfl<|aa<|aA<|have e0:jH W (ul.map Prod.snd) (ul.length:Int).toNat=W:=(by rw[eA,<-gF (f:=Prod.snd)];exact DO);have e1:ul.take (ul.length:Int).toNat=ul:=aJ;bt (G:=Int×Value×(Option (Nat×Array Value))×Value×(Option (Nat×Array Value))) (fun⟨k,v1,c1,u1,c2⟩ s' w'=>(Fr (5::(rg 23 24 [])) _ s')/\(Hp W0 w' (.blk F (.cells #[nA,nB,nC,nD,nE,nF,nG,nH,v1,u1,vT,I (cnt),nI,nJ,nK,nL] 111 (0,0))::cE c1 v1 35 ((jH W (ul.map Prod.snd) k.toNat).map U)::cE c2 u1 1 ((ul.take k.toNat).map Prod.fst)::_))/\(s' 5=I (k-1))/\(m<=k)/\(k<=ul.length)/\(cO c1 v1 ((jH W (ul.map Prod.snd) k.toNat).map U))/\(cO c2 u1 ((ul.take k.toNat).map Prod.fst))) (fun⟨k,v1,c1,u1,c2⟩=>(k-m).toNat) ((ul.length,vW,cW,vU,cU)) ⟨Fr.refl _ _,(by rw[e0,e1];exact hH),(aK I J),J,J,RZ,(by rw[e1];exact JO)⟩<| ?_
 rintro⟨k,v1,c1,u1,c2⟩ sg3 w3 ⟨fr3,tY,Ki,k0,k1,Ju,CF⟩
 obtain⟨BG,at5⟩:=fr3.w2 0 1
 refine ai<|SR<|aE Ki<|aE at5<|V (Gb O O)<|V (dF O O)<|aa<|aF O (fun h5=> ?_) (fun h5=> ?_)
 .refine an<|ai<|aA<|SR<|aE BG<|V (af O)<|V (fA mA 1 O kg O)<|lV hG tY 0 O O rfl<|aE Ki<|V (ah (tY.Bz (i:=2) O CF) hG sizeOf1 O O (by(simp only[gF,er];omega)))<|V (aG underlying1 O O ((tY.Bz (i:=2) O CF).cell _ _ (amZ J J)))<|have hkl:(k-1).toNat<ul.length:=J;have hL1:Hp W0 w3 (.blk F (.cells #[nA,nB,nC,nD,nE,nF,nG,nH,v1,u1,vT,I (cnt),nI,nJ,nK,nL] 111 (0,0))::cE c1 v1 35 ((jH W (ul.map Prod.snd) k.toNat).map U)::(cE c2 u1 1 ((ul.take k.toNat).map Prod.fst)::L)):=tY;?_
  obtain⟨f6,cs7,hv8,hf9,aFD⟩:=ako (ul[(k-1).toNat]) ((hI _ (r8 hkl)).mono fun e he=>mT he) (ar6 hok (by simpa using hkl) J) Ju hL1
  refine cw O aFD (Mg hf9 ((show _=_ from O).trans ((ah4 J hkl).trans hv8))) ?_
  rintro _ Tf ⟨rfl,v11,c12,aeQ,F4⟩
  rw[ar5 J hkl]at aeQ F4
  refine aa<|au<|aE BG<|aE BG<|V (af O)<|V (fA mA 1 O kg O)<|lV hG F4 0 O O rfl<|aE Ki<|aE Ki<|V (vX (F4.Bz (i:=2) O CF) hG sizeOf1 O O O Yq)<|V (af O)<|V (fA mA 1 O kg O)<|have hs1:=((F4.Bz (i:=2) O CF)).tF (n:=(k-1).toNat) Yq;?_
  obtain⟨c18,aaz,cT⟩:=F4.ar4 (i:=2) O CF (m:=(k-1).toNat) Yq
  simp only[jg,kW,<-B8,B6,show min (k-1).toNat k.toNat=(k-1).toNat by omega]at cT aaz
  refine bg cT (i:=0) O (bL O O (v:=(tF u1 (k-1).toNat)) O (iq hs1).2 (iq hs1).1 (cT.blk (i:=0) O) aJ)<|fun NL cD=>aa<|au<|aE Ki<|V (eO O O J)<|aI rfl<|aa<| ?_
  refine⟨(k-1,v11,c12,(tF u1 (k-1).toNat),c18),aW,fr3.u4.u4.u4.u4.u4.u4.u1,(Hp.conv cD aM),(aK I aM),J,J,?_,?_⟩
  .exact aeQ
  exact aaz
 refine a7 (id:=0) rfl<|SR<|va (v:=B true) rfl<|aa<|aj<|have ek:k=m:=J;?_
 subst ek
 exact jy O (v:=B true) O ⟨rfl,v1,c1,u1,c2,Ju,CF,tY⟩
def Tryz.TA:Go.Shelf.Ren:=⟨fun|189=>161|125=>192|257=>191|128=>228|129=>229|294=>219|295=>220|296=>221|297=>222|298=>223|299=>224|216=>225|300=>226|301=>227|328=>244|329=>245|330=>246|331=>247|332=>248|215=>249|343=>257|n=>n,fun|28=>99|3=>3|46=>59|0=>0|51=>201|53=>35|4=>4|183=>247|182=>246|131=>174|5=>5|9=>9|218=>260|222=>264|228=>270|229=>271|n=>n,fun|n=>n⟩
theorem Tryz.akp:Go.Proofs.Lays.n189 Tryz.prog Tryz.TA:={
 mixed:=aP
 f125:=func192.trans (aK some aP)
 f128:=func228.trans (aK some aP)
 f129:=func229.trans (aK some aP)
 f189:=func161.trans (aK some aP)
 f215:=func249.trans (aK some aP)
 f216:=func225.trans (aK some aP)
 f257:=func191.trans (aK some aP)
 f294:=func219.trans (aK some aP)
 f295:=func220.trans (aK some aP)
 f296:=func221.trans (aK some aP)
 f297:=func222.trans (aK some aP)
 f298:=func223.trans (aK some aP)
 f299:=func224.trans (aK some aP)
 f300:=func226.trans (aK some aP)
 f301:=func227.trans (aK some aP)
 f328:=func244.trans (aK some aP)
 f329:=func245.trans (aK some aP)
 f330:=func246.trans (aK some aP)
 f331:=func247.trans (aK some aP)
 f332:=func248.trans (aK some aP)
 f343:=func257.trans (aK some aP)
 t0:=underlying0
 a0:=isAgg0
 z0:=sizeOf0
 v0:=Tryz.zeroValue0
 t3:=bx
 a3:=isAgg3
 z3:=aO
 v3:=Tryz.zeroValue3
 t4:=uk
 a4:=isAgg4
 z4:=oh
 v4:=Tryz.zeroValue4
 t5:=underlying5
 a5:=isAgg5
 z5:=sizeOf5
 v5:=Tryz.zeroValue5
 t9:=iy
 a9:=isAgg9
 z9:=ko
 v9:=Tryz.zeroValue9
 t28:=bD
 a28:=isAgg99
 z28:=dH
 v28:=Tryz.zeroValue99
 t46:=Cb
 a46:=isAgg59
 z46:=sizeOf59
 v46:=Tryz.zeroValue59
 t51:=underlying201
 a51:=isAgg201
 z51:=sizeOf201
 v51:=Tryz.zeroValue201
 t53:=dM
 a53:=isAgg35
 z53:=cP
 v53:=Tryz.zeroValue35
 t131:=underlying174
 a131:=isAgg174
 z131:=sizeOf174
 v131:=Tryz.zeroValue174
 t182:=underlying246
 a182:=isAgg246
 z182:=sizeOf246
 v182:=Tryz.zeroValue246
 t183:=underlying247
 a183:=isAgg247
 z183:=sizeOf247
 v183:=Tryz.zeroValue247
 t218:=underlying260
 a218:=isAgg260
 z218:=sizeOf260
 v218:=Tryz.zeroValue260
 t222:=underlying264
 a222:=isAgg264
 z222:=sizeOf264
 v222:=Tryz.zeroValue264
 t228:=underlying270
 a228:=isAgg270
 z228:=sizeOf270
 v228:=Tryz.zeroValue270
 t229:=underlying271
 a229:=isAgg271
 z229:=sizeOf271
 v229:=Tryz.zeroValue271}
section
open Go.Sort Go.Shelf
theorem at6(blk cap:Nat)(zs:List Int)(w:World)(hH:Holds (Value.int .i64) w blk 0 zs.toArray)(hblk:blk<w.heap.size)(hsz:zs.length<4611686018427387904):
  Calls Tryz.prog 161 #[.slice (some ⟨blk,0,none⟩) zs.length cap] w fun e w'=>e= .returned (.tuple #[])/\∃n os,w'=grow (putRow (Value.int .i64) (Sort.ahead w n) blk 0 (zs.mergeSort fun x y=>decide (x<=y)).toArray) os:=
 calls_of_every_depth fun D=>AnyS.slices_Sort_int_alone Tryz.akp D blk 0 cap zs w hH hblk hsz
theorem aaA{w0 w:World}{L:List bu}{i:Nat}{v:Value}{e:TypeId}{zs:List Int}(hH:Hp w0 w L)(hi:L[i]?=some (.row v e 1 zs.length (zs.map I)))(hn:0<zs.length)(hs:zs.length<=4000000):
  Calls Tryz.prog 161 #[v] w (jW fun u w'=>u= .tuple #[]/\Hp w0 w' (L.set i (.row v e 1 zs.length ((zs.mergeSort fun x y=>decide (x<=y)).map I)))):=by
 obtain⟨hl,h2⟩:=hH.get hi
 rcases h2 with⟨rfl,q⟩|⟨gb,cap,cur,rfl,hb,hg,hnc,hm,hsz,ht⟩
 .omega
 have hlt:gb<w.heap.size:=(B0.1 hg).1
 have hlen:(zs.mergeSort fun x y=>decide (x<=y)).length=zs.length:=List.length_mergeSort _
 refine Calls.mono (at6 gb cap zs w (holds_of_blockI hg (by rw[lU]at ht;exact ht)) hlt J) fun en w' ⟨he,n,os,hw⟩=> ?_
 subst he
 refine⟨rfl,?_⟩
 subst hw
 have h3:=ownsRow_sortedI (w:=w) (base:=w0.heap.size) (os:=os) (n:=n) (ss:=zs) (ts:=zs.mergeSort fun x y=>decide (x<=y)) hlen hb hg hnc hm hsz
 exact hH.yD hi h3 (grownBy_sortedI _) (.inr (.inl O))
end
theorem BT{nA nB nC nD nE nF nG nH nI nJ nK nL:Value}(F:Nat)(vW vU vT:Value)(cnt:Int)(nd:List qA)(cl:List Nat)(i:Int)(hn:nd.length<=1000000)(hf:Fo nd cl)(w:World)(hb:w.heap[F]?=some (.cells #[nA,nB,nC,nD,nE,nF,nG,nH,vW,vU,vT,I cnt,nI,nJ,nK,nL] 111 (0,0)))(hW:Sl w vW 1 (bE nd).length ((bE nd).map U)):Calls Tryz.prog 129 #[.pointer (some ⟨F,8,none⟩),I i] w (sY 3 1 (bP cl i).length ((bP cl i).map I) w):=by
 have hwl:=iG nd
 refine eH func129 rfl rfl fun hH=>SR<|va (v:= .slice none 0 0) rfl<|have je:=hH.eR 3 1;aa<|Zg<|ai<|SR<|aE (v:=Pn _ _) rfl<|mI rfl<|aH O je (mW _ _ _ _ _ _ _ lz _ (je.ext hb) (hW.hp je)) (aL call158 O O)<|fun w2 tY=>V (vx O)<|aa<|aF O (fun h7=> ?_) (fun h7=> ?_)
 .refine SR<|va (v:= .slice none 0 0) rfl<|have eX:=tY.eR 3 1;aa<|aj<|OX O O eX (i:=0) O ((by rw[Qf hf J];rfl)) ((by rw[Qf hf J];rfl))
 refine an<|SR<|va (v:= .slice none 0 0) rfl<|have iE:=tY.eR 3 1;aa<|SR<|mI rfl<|aI rfl<|aa<|ai<|Zh<|ai<|aA<|have hin:0<=i/\i<nd.length:=J;?_
 obtain⟨t,ht,hmt⟩:=hf.ring i.toNat J
 have htl:(i.toNat::t).length<=nd.length:=Vl ht.2 fun k hk=>((hmt k).1 hk).1
 refine bt (G:=Nat×(List Nat)×(List Nat)×Value) (fun⟨a,o,m,v5⟩ s' w'=>(Fr (5::6::(rg 12 12 [])) _ s')/\(Hp w w' (.row v5 3 1 (o.length) ((o.map Int.ofNat).map I)::_))/\(s' 5=v5)/\(s' 6=I (a:Int))/\(i.toNat::t=o++a::m)/\(a<nd.length)/\(o.length+1<=nd.length)) (fun⟨a,o,m,v5⟩=>m.length) ((i.toNat,[],t,(.slice none 0 0:Value))) ⟨Fr.refl _ _,iE,rfl,(aK I (show i=((i.toNat:Nat):Int)by omega)),rfl,J,(by simp at htl⊢;omega)⟩ ?_
 rintro⟨a,o,m,v5⟩ Wx EB ⟨nT,cg,N7,ww,he,ha,ho⟩
 obtain⟨EH,N5⟩:=nT.w2 0 1
 have hnx:=aby hf hn ha
 have hst:=IL ht he
 refine aA<|SR<|aE N7<|aE ww<|tQ 1 1 cg (cB bD O O (sz:=1) (vs:=[I _]) O O az az O O)<|fun NY I2 cN=> ?_
 (try simp only[lf]at cN)
 refine gf O cN (i:=1) O (cN.dR (i:=0) (n:=1) (sz:=1) O O az) O O bD O O (size:=1) (bytes:=8) O O O az gX J iz<|fun v14 Tf cI=> ?_
 refine V (run_assign bA) ?_
 refine aa<|SR<|aE EH<|V (af O)<|V (fA ix 0 O vh O)<|aE ww<|aH O cI (dz _ _ _ _ _ _ _ _ J _ (cI.ext hb) (hW.hp cI)) (bz uv O O (show _=I 2 from O))<|fun Ti dP=>aI rfl<|aa<|SR<|mI rfl<|aE N5<|V (bU O O)<|aa<|aF O (fun OT=> ?_) (fun OT=> ?_)
 .refine a7 (id:=0) rfl<|SR<| ?_
  refine V (run_move bA) ?_
  have hzl:((o++[a]).map Int.ofNat).length<=4000000:=by rw[gF,dZ,ez];omega
  rw[show(o.map Int.ofNat).map I++[I (a:Int)]=((o++[a]).map Int.ofNat).map I by simp,show o.length+1=((o++[a]).map Int.ofNat).length by simp]at dP
  refine cw O (aaA (zs:=((o++[a]).map Int.ofNat)) (i:=1) (v:=v14) dP O aJ hzl) (ay call161 O) ?_
  rintro _ NL ⟨rfl,cD⟩
  refine aa<|SR<| ?_
  refine V (run_move bA) ?_
  refine V (run_assign bA) ?_
  refine aa<|aj<|OX O O cD (i:=1) O ((by rw[<-M5 hf hin ht hmt he J,List.length_mergeSort])) ((by rw[<-M5 hf hin ht hmt he J]))
 refine an ?_
 refine⟨(tG nd a,o++[a],m.tail,v14),?_,nT.u4.u4.u4.u1.u1,(Hp.conv (dP.sub (sQ sR)) aJ),rfl,(aK I (aby hf hn ha)),?_,?_,?_⟩
 .exact(Af ht hmt he (fun e=>‹¬_=i› J)).2.2.2
 .exact(Af ht hmt he (fun e=>‹¬_=i› J)).1
 .exact(Af ht hmt he (fun e=>‹¬_=i› J)).2.1
 (have:=(Af ht hmt he (fun e=>‹¬_=i› J)).2.2.1;have:=Vl ht.2 (fun k hk=>((hmt k).1 hk).1);omega)
set_option maxHeartbeats 1000000 in
theorem Ed{nA nB nC nD nE nF nG nH nI nJ nK nL:Value}(W0:World)(F:Nat)(vW vU vT:Value)(cnt:Int)(cW cU:Option (Nat×Array Value))(nd:List qA)(ul:List (Value×jQ))(ts:List Int)(L:List bu)(hn:nd.length<=100000)(OQ:ul.length<=1000000)(hts:ts.length<=1000000)(WY: -1000000<=cnt/\cnt<=1000000)(w:World)(zo:cO cW vW ((bE nd).map U))(JO:cO cU vU (ul.map Prod.fst))(hH:Hp W0 w (.blk F (.cells #[nA,nB,nC,nD,nE,nF,nG,nH,vW,vU,vT,I (cnt),nI,nJ,nK,nL] 111 (0,0))::cE cW vW 35 ((bE nd).map U)::cE cU vU 1 (ul.map Prod.fst):: .row vT 3 1 ts.length (ts.map I)::L)):Calls Tryz.prog 47 #[.pointer (some ⟨F,8,none⟩)] w (jW fun u w'=>u=I nd.length/\∃(v1:Value) (c1:Option (Nat×Array Value)) (u1:Value) (c2:Option (Nat×Array Value)) (t1:Value) (mw:List (Value×jQ)) (Lb:List bu),cO c1 v1 ((bE (nd++[rT nd.length])).map U)/\cO c2 u1 (mw.map Prod.fst)/\mw.map Prod.snd=O1 (ul.map Prod.snd) (bE nd).length/\mw.take ul.length=ul/\(∀x∈mw.drop ul.length,pL (⟨134,243,193,3,35,8⟩:UT) F Lb x)/\Hp W0 w' (.blk F (.cells #[nA,nB,nC,nD,nE,nF,nG,nH,v1,u1,t1,I (cnt+1),nI,nJ,nK,nL] 111 (0,0))::cE c1 v1 35 ((bE (nd++[rT nd.length])).map U)::cE c2 u1 1 (mw.map Prod.fst):: .row t1 3 1 (ts++[(ul.length:Int)]).length ((ts++[(ul.length:Int)]).map I)::(Lb++L))):=by
 have hwl:=iG nd
 refine en func47 rfl rfl<|SR<|va (v:=I 0) rfl<|aa<|ai<|SR<|aE (v:=Pn _ _) rfl<|V (kU Lq O O)<|aa<|cQ rfl<|an<|SR<|aE (v:=Pn _ _) rfl<|aH O hH (lN _ _ _ _ _ _ J _ (hH.blk (i:=0) O) (hH.yQ (i:=1) O zo)) (ay call89 O)<|fun w1 bp=>aI rfl<|aa<|ai<|gD aP bp (sQ (sP (sP (sQ sR))))<|fun w3 iw=>have EM:=iw.sub (sQ (sP (sP (sQ sR))));AQ 0 O EM (mV (Pn _ _) O)<|AQ 1 O EM (mV (Pn _ _) O)<|AQ 2 O EM (af O)<|AQ 3 O EM (fA ix 2 O dH O)<|AQ 5 O EM (mV (Pn _ _) O)<|AQ 6 O EM (af O)<|AQ 7 O EM (fA ix 0 O vh O)<|AQ 8 O EM (fA zB 0 O zF O)<|gp 4 9 aP ?_ ?_
 .refine cf O aD O iw (sQ (sP (sP (sQ sR)))) (aG bD O O (iw.cell (i:=0) O O))<|A1 9<|ct O aD O iw (sQ (sP (sP (sQ sR)))) (mS _ _ _ _ _ _ _ _ (iw.blk (i:=0) O) (iw.yQ (i:=1) O zo) (iw.Bz (i:=2) O JO)) (ay call90 O)<|fun w7 eX=>A1 10<|cH O aD O eX (sQ (sP (sP (sQ sR)))) (f:=fun b=> .slice (some ⟨b,0,none⟩) 1 1) (cB bD O O (sz:=1) (vs:=[I _]) O O az az O O)<|fun b11 w9 cg=> ?_
  (try simp only[lf]at cg)
  refine A1 11<|fT O aD O cg (j:=4) O (fun _=>(sQ (sQ (sP (sP (sQ sR)))))) (cg.dR (i:=0) (n:=1) (sz:=1) O O az) O O bD O O (size:=1) (bytes:=8) O O O az gX J iz<|fun v14 y8 bX=>AQ 12 O (bX.sub (sQ (sQ (sP (sP (sQ sR)))))) (af O)<|AQ 13 O (bX.sub (sQ (sQ (sP (sP (sQ sR)))))) (fA ix 2 O dH O)<|A1 14<|ed O aD bX (j:=1) O (sQ (sQ (sP (sP (sQ sR))))) (bL O O (v:=v14) O (aZ (bX.get (i:=4) O)).1 (aZ (bX.get (i:=4) O)).2 (bX.blk (i:=1) O) aJ)<|fun Ti dP=>AD<|ai<|SR<|mI rfl<|mI rfl<|mI rfl<|tQ 4 4 dP (cB bD O O (sz:=1) (vs:=[I _,I 1,I _,I _]) O O az az O O)<|fun b21 Tj cT=> ?_
  (try simp only[lf]at cT)
  refine V (aC (cT.dR (i:=0) (n:=4) (sz:=1) O O az) O bD O)<|aE (v:=I 0) rfl<|aa<|aA<|have e0:((bE nd)++(FY (rT nd.length)).take (0:Int).toNat)=(bE nd):=aJ;bt (G:=Int×Value×(Option (Nat×Array Value))×Value×(Option (Nat×Array Value))×(List (Value×jQ))×(List bu)) (fun⟨k,v1,c1,u1,c2,mw,Z1⟩ s' w'=>(Fr (5::(rg 29 12 [])) _ s')/\(Hp W0 w' (_::_:: .blk F (.cells #[nA,nB,nC,nD,nE,nF,nG,nH,v1,u1,v14,I (cnt),nI,nJ,nK,nL] 111 (0,0))::cE c1 v1 35 (((bE nd)++(FY (rT nd.length)).take k.toNat).map U)::cE c2 u1 1 (mw.map Prod.fst)::_::Z1))/\(s' 29=I k)/\(0<=k)/\(k<=4)/\(cO c1 v1 (((bE nd)++(FY (rT nd.length)).take k.toNat).map U))/\(cO c2 u1 (mw.map Prod.fst))/\(mw.map Prod.snd=ul.map Prod.snd++M6 (bE nd).length k)/\(mw.take ul.length=ul)/\(∃Lb,Z1=Lb++L/\∀x∈mw.drop ul.length,pL (⟨134,243,193,3,35,8⟩:UT) F Lb x)/\(mw.length<=ul.length+k.toNat)) (fun⟨k,v1,c1,u1,c2,mw,Z1⟩=>(4-k).toNat) ((0,vW,cW,vU,cU,ul,L)) ⟨Fr.refl _ _,(by rw[e0];exact cT),rfl,J,J,RZ,JO,(by simp[M6]),(EX ..),⟨[],rfl,aJ⟩,J⟩<| ?_
  rintro⟨k,v1,c1,u1,c2,mw,Z1⟩ ayg QJ ⟨Tu,cD,aaB,h0,h4,Ju,CF,hms,hpt,hzz,aoj⟩
  obtain⟨acv,ayQ,at7,at8⟩:=Tu.w4 0 3 27 28
  refine SR<|V (aN aaB at8)<|aa<|ai<|aF O (fun xu=> ?_) (fun xu=> ?_)
  .refine an<|ai<|aA<|SR<|V (ah (cD.dR (i:=0) (n:=4) (sz:=1) O O az) bD aO at7 aaB J)<|V (aG bx O O ((cD.dR (i:=0) (n:=4) (sz:=1) O O az).cell _ _ (Zi h0 ‹k<_›)))<|aI rfl<|aa<|au<|aE acv<|V (af O)<|V (fA ix 0 O vh O)<|V (fA zB 0 O zF O)<|mI rfl<|V (kq bx dM O)<|cw O (rP _ _ _ _ _ _ _ _ _ _ _ _ Yl J _ Ju CF (cD.pj [2,2,2])) (aL call91 O O)<| ?_
   rintro _ w27 ⟨rfl,v30,c31,u32,e33,at9,ayR,aFF,aFG,aFH,ayS,aFI,ayT,Wt⟩
   have gj:=Hp.mL (A:=[_,_,_]) (R:=[_,_,_]) Wt
   simp only[gA,eN]at gj
   have qN:=gj.pk [3,3]
   refine aa<|au<|V (ax aaB O J)<|mI rfl<|aa<| ?_
   refine⟨(k+1,v30,c31,u32,e33,at9,(ayR++Z1)),aW,Tu.u4.u4.u4.u1,(Hp.conv qN Ym),(aK I aM),J,J,?_,?_,?_,?_,?_,?_⟩
   ·(rw[Kq h0 ‹k<_›,<-dG];exact aFF)
   .exact aFG
   ·(rw[aFH,hms,IN h0,<-dG,dZ,er];congr 3;(have:(FY (rT nd.length)).length=4:=rfl);omega)
   ·(obtain⟨Lb0,rfl,WZ⟩:=hzz;exact(pM hpt ayS WZ ayT).1)
   ·(obtain⟨Lb0,rfl,WZ⟩:=hzz;exact⟨ayR++Lb0,by rw[dG],(pM hpt ayS WZ ayT).2⟩)
   (have:=aFI;omega)
  refine a7 (id:=0) rfl<|SR<|aE acv<|V (af O)<|V (fA ix 3 O aO O)<|lI bx cD 2 O O rfl<|V (ax O O J)<|V (af O)<|V (fA ix 3 O aO O)<|bg cD (i:=2) O (bL O O (v:=I _) O O O (cD.blk (i:=2) O) aJ)<|fun w43 qm=>aa<|SR<|aE ayQ<|aI rfl<|aa<|aj<|have ek:k=4:=J;?_
  subst ek
  obtain⟨Lb0,rfl,WZ⟩:=hzz
  exact jy O (v:=I nd.length) O ⟨rfl,v1,c1,u1,c2,v14,mw,Lb0,Yr,CF,(hms.trans Zj),hpt,WZ,(by rw[qt,show(ts++[(ul.length:Int)]).length=ts.length+1 by simp,show(ts++[(ul.length:Int)]).map I=ts.map I++[I ((ul.map Prod.fst).length:Int)]by simp];exact(qm.pj [2,2,2,2]).sub (sP (sP (sP (sP (sQ (sQ sR)))))))⟩
 refine ct O aD O iw (sQ (sP (sP (sQ sR)))) (mS _ _ _ _ _ _ _ _ (iw.blk (i:=0) O) (iw.yQ (i:=1) O zo) (iw.Bz (i:=2) O JO)) (ay call90 O)<|fun w45 oa=>gp 4 10 aP ?_ ?_
 .refine cf O aD O oa (sQ (sP (sP (sQ sR)))) (aG bD O O (oa.cell (i:=0) O O))<|A1 10<|cH O aD O oa (sQ (sP (sP (sQ sR)))) (f:=fun b=> .slice (some ⟨b,0,none⟩) 1 1) (cB bD O O (sz:=1) (vs:=[I _]) O O az az O O)<|fun b51 w49 eL=> ?_
  (try simp only[lf]at eL)
  refine A1 11<|fT O aD O eL (j:=4) O (fun _=>(sQ (sQ (sP (sP (sQ sR)))))) (eL.dR (i:=0) (n:=1) (sz:=1) O O az) O O bD O O (size:=1) (bytes:=8) O O O az gX J iz<|fun v54 w52 jA=>AQ 12 O (jA.sub (sQ (sQ (sP (sP (sQ sR)))))) (af O)<|AQ 13 O (jA.sub (sQ (sQ (sP (sP (sQ sR)))))) (fA ix 2 O dH O)<|A1 14<|ed O aD jA (j:=1) O (sQ (sQ (sP (sP (sQ sR))))) (bL O O (v:=v54) O (aZ (jA.get (i:=4) O)).1 (aZ (jA.get (i:=4) O)).2 (jA.blk (i:=1) O) aJ)<|fun w57 oF=>AD<|ai<|SR<|mI rfl<|mI rfl<|mI rfl<|tQ 4 4 oF (cB bD O O (sz:=1) (vs:=[I _,I 1,I _,I _]) O O az az O O)<|fun b61 w59 wz=> ?_
  (try simp only[lf]at wz)
  refine V (aC (wz.dR (i:=0) (n:=4) (sz:=1) O O az) O bD O)<|aE (v:=I 0) rfl<|aa<|aA<|have e0:((bE nd)++(FY (rT nd.length)).take (0:Int).toNat)=(bE nd):=aJ;bt (G:=Int×Value×(Option (Nat×Array Value))×Value×(Option (Nat×Array Value))×(List (Value×jQ))×(List bu)) (fun⟨k,v1,c1,u1,c2,mw,Z1⟩ s' w'=>(Fr (5::(rg 29 12 [])) _ s')/\(Hp W0 w' (_::_:: .blk F (.cells #[nA,nB,nC,nD,nE,nF,nG,nH,v1,u1,v54,I (cnt),nI,nJ,nK,nL] 111 (0,0))::cE c1 v1 35 (((bE nd)++(FY (rT nd.length)).take k.toNat).map U)::cE c2 u1 1 (mw.map Prod.fst)::_::Z1))/\(s' 29=I k)/\(0<=k)/\(k<=4)/\(cO c1 v1 (((bE nd)++(FY (rT nd.length)).take k.toNat).map U))/\(cO c2 u1 (mw.map Prod.fst))/\(mw.map Prod.snd=ul.map Prod.snd++M6 (bE nd).length k)/\(mw.take ul.length=ul)/\(∃Lb,Z1=Lb++L/\∀x∈mw.drop ul.length,pL (⟨134,243,193,3,35,8⟩:UT) F Lb x)/\(mw.length<=ul.length+k.toNat)) (fun⟨k,v1,c1,u1,c2,mw,Z1⟩=>(4-k).toNat) ((0,vW,cW,vU,cU,ul,L)) ⟨Fr.refl _ _,(by rw[e0];exact wz),rfl,J,J,RZ,JO,(by simp[M6]),(EX ..),⟨[],rfl,aJ⟩,J⟩<| ?_
  rintro⟨k,v1,c1,u1,c2,mw,Z1⟩ aOp w62 ⟨ayU,r5,aaC,h0,h4,Ju,CF,hms,hpt,hzz,aoj⟩
  obtain⟨aqw,ayV,aua,aub⟩:=ayU.w4 0 3 27 28
  refine SR<|V (aN aaC aub)<|aa<|ai<|aF O (fun h64=> ?_) (fun h64=> ?_)
  .refine an<|ai<|aA<|SR<|V (ah (r5.dR (i:=0) (n:=4) (sz:=1) O O az) bD aO aua aaC J)<|V (aG bx O O ((r5.dR (i:=0) (n:=4) (sz:=1) O O az).cell _ _ (Zi h0 ‹k<_›)))<|aI rfl<|aa<|au<|aE aqw<|V (af O)<|V (fA ix 0 O vh O)<|V (fA zB 0 O zF O)<|mI rfl<|V (kq bx dM O)<|cw O (rP _ _ _ _ _ _ _ _ _ _ _ _ Yl J _ Ju CF (r5.pj [2,2,2])) (aL call91 O O)<| ?_
   rintro _ w67 ⟨rfl,v70,c71,u72,e73,aFJ,aeR,aFK,aFL,aFM,ayW,aFN,ayX,h68⟩
   have Hi:=Hp.mL (A:=[_,_,_]) (R:=[_,_,_]) h68
   simp only[gA,eN]at Hi
   have oT:=Hi.pk [3,3]
   refine aa<|au<|V (ax aaC O J)<|mI rfl<|aa<| ?_
   refine⟨(k+1,v70,c71,u72,e73,aFJ,(aeR++Z1)),aW,ayU.u4.u4.u4.u1,(Hp.conv oT Ym),(aK I aM),J,J,?_,?_,?_,?_,?_,?_⟩
   ·(rw[Kq h0 ‹k<_›,<-dG];exact aFK)
   .exact aFL
   ·(rw[aFM,hms,IN h0,<-dG,dZ,er];congr 3;(have:(FY (rT nd.length)).length=4:=rfl);omega)
   ·(obtain⟨Lb0,rfl,WZ⟩:=hzz;exact(pM hpt ayW WZ ayX).1)
   ·(obtain⟨Lb0,rfl,WZ⟩:=hzz;exact⟨aeR++Lb0,by rw[dG],(pM hpt ayW WZ ayX).2⟩)
   (have:=aFN;omega)
  refine a7 (id:=0) rfl<|SR<|aE aqw<|V (af O)<|V (fA ix 3 O aO O)<|lI bx r5 2 O O rfl<|V (ax O O J)<|V (af O)<|V (fA ix 3 O aO O)<|bg r5 (i:=2) O (bL O O (v:=I _) O O O (r5.blk (i:=2) O) aJ)<|fun w83 lj=>aa<|SR<|aE ayV<|aI rfl<|aa<|aj<|have ek:k=4:=J;?_
  subst ek
  obtain⟨Lb0,rfl,WZ⟩:=hzz
  exact jy O (v:=I nd.length) O ⟨rfl,v1,c1,u1,c2,v54,mw,Lb0,Yr,CF,(hms.trans Zj),hpt,WZ,(by rw[qt,show(ts++[(ul.length:Int)]).length=ts.length+1 by simp,show(ts++[(ul.length:Int)]).map I=ts.map I++[I ((ul.map Prod.fst).length:Int)]by simp];exact(lj.pj [2,2,2,2]).sub (sP (sP (sP (sP (sQ (sQ sR)))))))⟩
 refine cH O aD O oa (sQ (sP (sP (sQ sR)))) (f:=fun b=> .slice (some ⟨b,0,none⟩) 1 1) (cB bD O O (sz:=1) (vs:=[I _]) O O az az O O)<|fun b87 w85 uA=> ?_
 (try simp only[lf]at uA)
 refine A1 4<|cf O aD O uA (sQ (sQ (sP (sP (sQ sR))))) (aG bD O O (uA.cell (i:=1) O O))<|A1 11<|fT O aD O uA (j:=4) O (fun _=>(sQ (sQ (sP (sP (sQ sR)))))) (uA.dR (i:=0) (n:=1) (sz:=1) O O az) O O bD O O (size:=1) (bytes:=8) O O O az gX J iz<|fun v92 w90 Ot=>AQ 12 O (Ot.sub (sQ (sQ (sP (sP (sQ sR)))))) (af O)<|AQ 13 O (Ot.sub (sQ (sQ (sP (sP (sQ sR)))))) (fA ix 2 O dH O)<|A1 14<|ed O aD Ot (j:=1) O (sQ (sQ (sP (sP (sQ sR))))) (bL O O (v:=v92) O (aZ (Ot.get (i:=4) O)).1 (aZ (Ot.get (i:=4) O)).2 (Ot.blk (i:=1) O) aJ)<|fun w95 pX=>AD<|ai<|SR<|mI rfl<|mI rfl<|mI rfl<|tQ 4 4 pX (cB bD O O (sz:=1) (vs:=[I _,I 1,I _,I _]) O O az az O O)<|fun b99 w97 Oc=> ?_
 (try simp only[lf]at Oc)
 refine V (aC (Oc.dR (i:=0) (n:=4) (sz:=1) O O az) O bD O)<|aE (v:=I 0) rfl<|aa<|aA<|have e0:((bE nd)++(FY (rT nd.length)).take (0:Int).toNat)=(bE nd):=aJ;bt (G:=Int×Value×(Option (Nat×Array Value))×Value×(Option (Nat×Array Value))×(List (Value×jQ))×(List bu)) (fun⟨k,v1,c1,u1,c2,mw,Z1⟩ s' w'=>(Fr (5::(rg 29 12 [])) _ s')/\(Hp W0 w' (_::_:: .blk F (.cells #[nA,nB,nC,nD,nE,nF,nG,nH,v1,u1,v92,I (cnt),nI,nJ,nK,nL] 111 (0,0))::cE c1 v1 35 (((bE nd)++(FY (rT nd.length)).take k.toNat).map U)::cE c2 u1 1 (mw.map Prod.fst)::_::Z1))/\(s' 29=I k)/\(0<=k)/\(k<=4)/\(cO c1 v1 (((bE nd)++(FY (rT nd.length)).take k.toNat).map U))/\(cO c2 u1 (mw.map Prod.fst))/\(mw.map Prod.snd=ul.map Prod.snd++M6 (bE nd).length k)/\(mw.take ul.length=ul)/\(∃Lb,Z1=Lb++L/\∀x∈mw.drop ul.length,pL (⟨134,243,193,3,35,8⟩:UT) F Lb x)/\(mw.length<=ul.length+k.toNat)) (fun⟨k,v1,c1,u1,c2,mw,Z1⟩=>(4-k).toNat) ((0,vW,cW,vU,cU,ul,L)) ⟨Fr.refl _ _,(by rw[e0];exact Oc),rfl,J,J,RZ,JO,(by simp[M6]),(EX ..),⟨[],rfl,aJ⟩,J⟩<| ?_
 rintro⟨k,v1,c1,u1,c2,mw,Z1⟩ aKs auc ⟨aqx,qH,TB,h0,h4,Ju,CF,hms,hpt,hzz,aoj⟩
 obtain⟨akr,aud,aok,aol⟩:=aqx.w4 0 3 27 28
 refine SR<|V (aN TB aol)<|aa<|ai<|aF O (fun aFO=> ?_) (fun aFO=> ?_)
 .refine an<|ai<|aA<|SR<|V (ah (qH.dR (i:=0) (n:=4) (sz:=1) O O az) bD aO aok TB J)<|V (aG bx O O ((qH.dR (i:=0) (n:=4) (sz:=1) O O az).cell _ _ (Zi h0 ‹k<_›)))<|aI rfl<|aa<|au<|aE akr<|V (af O)<|V (fA ix 0 O vh O)<|V (fA zB 0 O zF O)<|mI rfl<|V (kq bx dM O)<|cw O (rP _ _ _ _ _ _ _ _ _ _ _ _ Yl J _ Ju CF (qH.pj [2,2,2])) (aL call91 O O)<| ?_
  rintro _ aoc ⟨rfl,aFP,aFQ,aFR,aFS,ayZ,aqy,aks,ay0,ay1,aqz,ay2,aqA,aFT⟩
  have QX:=Hp.mL (A:=[_,_,_]) (R:=[_,_,_]) aFT
  simp only[gA,eN]at QX
  have acr:=QX.pk [3,3]
  refine aa<|au<|V (ax TB O J)<|mI rfl<|aa<| ?_
  refine⟨(k+1,aFP,aFQ,aFR,aFS,ayZ,(aqy++Z1)),aW,aqx.u4.u4.u4.u1,(Hp.conv acr Ym),(aK I aM),J,J,?_,?_,?_,?_,?_,?_⟩
  ·(rw[Kq h0 ‹k<_›,<-dG];exact aks)
  .exact ay0
  ·(rw[ay1,hms,IN h0,<-dG,dZ,er];congr 3;(have:(FY (rT nd.length)).length=4:=rfl);omega)
  ·(obtain⟨Lb0,rfl,WZ⟩:=hzz;exact(pM hpt aqz WZ aqA).1)
  ·(obtain⟨Lb0,rfl,WZ⟩:=hzz;exact⟨aqy++Lb0,by rw[dG],(pM hpt aqz WZ aqA).2⟩)
  (have:=ay2;omega)
 refine a7 (id:=0) rfl<|SR<|aE akr<|V (af O)<|V (fA ix 3 O aO O)<|lI bx qH 2 O O rfl<|V (ax O O J)<|V (af O)<|V (fA ix 3 O aO O)<|bg qH (i:=2) O (bL O O (v:=I _) O O O (qH.blk (i:=2) O) aJ)<|fun aFU Oi=>aa<|SR<|aE aud<|aI rfl<|aa<|aj<|have ek:k=4:=J;?_
 subst ek
 obtain⟨Lb0,rfl,WZ⟩:=hzz
 exact jy O (v:=I nd.length) O ⟨rfl,v1,c1,u1,c2,v92,mw,Lb0,Yr,CF,(hms.trans Zj),hpt,WZ,(by rw[qt,show(ts++[(ul.length:Int)]).length=ts.length+1 by simp,show(ts++[(ul.length:Int)]).map I=ts.map I++[I ((ul.map Prod.fst).length:Int)]by simp];exact(Oi.pj [2,2,2,2]).sub (sP (sP (sP (sP (sQ (sQ sR)))))))⟩
set_option maxHeartbeats 1000000 in
theorem BU{nA nB nC nD nE nF nG nH nI nJ nK nL:Value}(W0:World)(F:Nat)(vW vU vT:Value)(cnt:Int)(cW cU:Option (Nat×Array Value))(nd:List qA)(ul:List (Value×jQ))(ts:List Int)(L:List bu)(cl:List Nat)(i j:Int)(hn:nd.length<=100000)(OQ:ul.length<=1000000)(hts:ts.length<=1000000)(WY: -1000000<=cnt/\cnt<=1000000)(hf:Fo nd cl)(w:World)(zo:cO cW vW ((bE nd).map U))(JO:cO cU vU (ul.map Prod.fst))(hH:Hp W0 w (.blk F (.cells #[nA,nB,nC,nD,nE,nF,nG,nH,vW,vU,vT,I (cnt),nI,nJ,nK,nL] 111 (0,0))::cE cW vW 35 ((bE nd).map U)::cE cU vU 1 (ul.map Prod.fst):: .row vT 3 1 ts.length (ts.map I)::L)):Calls Tryz.prog 156 #[.pointer (some ⟨F,8,none⟩),I i,I j] w (jW fun u w'=>(u=B false/\¬IT nd.length cl i j/\Hp W0 w' (.blk F (.cells #[nA,nB,nC,nD,nE,nF,nG,nH,vW,vU,vT,I (cnt),nI,nJ,nK,nL] 111 (0,0))::cE cW vW 35 ((bE nd).map U)::cE cU vU 1 (ul.map Prod.fst):: .row vT 3 1 ts.length (ts.map I)::L))\/(u=B true/\∃(a b:Nat),UnP nd cl i j a b/\∃(v1:Value) (c1:Option (Nat×Array Value)) (u1:Value) (c2:Option (Nat×Array Value)) (t1:Value) (mw:List (Value×jQ)) (Lb:List bu),cO c1 v1 ((bE (pK nd a b)).map U)/\cO c2 u1 (mw.map Prod.fst)/\mD (bE nd) (ul.map Prod.snd) (bE (pK nd a b)) (mw.map Prod.snd)/\mw.take ul.length=ul/\mw.length<=ul.length+5/\(∀x∈mw.drop ul.length,pL (⟨134,243,193,3,35,8⟩:UT) F Lb x)/\Hp W0 w' (.blk F (.cells #[nA,nB,nC,nD,nE,nF,nG,nH,v1,u1,t1,I (cnt-1),nI,nJ,nK,nL] 111 (0,0))::cE c1 v1 35 ((bE (pK nd a b)).map U)::cE c2 u1 1 (mw.map Prod.fst):: .row t1 3 1 (ts++[(ul.length:Int)]).length ((ts++[(ul.length:Int)]).map I)::(Lb++L)))):=by
 have hwl:=iG nd
 refine en func156 rfl rfl<|SR<|va (v:=B false) rfl<|aa<|ai<|SR<|aE (v:=Pn _ _) rfl<|mI rfl<|aH O hH (mW _ _ _ _ _ _ _ J _ (hH.blk (i:=0) O) (hH.yQ (i:=1) O zo)) (aL call158 O O)<|fun w1 bp=>V (vx O)<|mB rfl<|bM 16 O (fun h6=> ?_) (fun h6=> ?_)
 .refine aE (v:=B true) rfl<|aa<|cA rfl<|SR<|va (v:=B false) rfl<|aa<|aj<|jy O (v:=B false) O (.inl ⟨rfl,(by exact asi J),bp⟩)
 refine aE (v:=Pn _ _) rfl<|mI rfl<|aH O bp (mW _ _ _ _ _ _ _ J _ (bp.blk (i:=0) O) (bp.yQ (i:=1) O zo)) (aL call158 O O)<|fun w7 eX=>V (vx O)<|mB rfl<|aa<|aF O (fun h12=> ?_) (fun h12=> ?_)
 .refine SR<|va (v:=B false) rfl<|aa<|aj<|jy O (v:=B false) O (.inl ⟨rfl,(by exact asj J),eX⟩)
 refine an<|SR<|aE (v:=Pn _ _) rfl<|mI rfl<|aH O eX (oK _ _ _ _ _ nd cl _ J lz J _ (eX.blk (i:=0) O) (eX.yQ (i:=1) O zo)) (aL call160 O O)<|fun C0 cG=>aE (v:=Pn _ _) rfl<|mI rfl<|aH O cG (oK _ _ _ _ _ nd cl _ J lz J _ (cG.blk (i:=0) O) (cG.yQ (i:=1) O zo)) (aL call160 O O)<|fun Tf cI=>aI rfl<|aI rfl<|aa<|ai<|SR<|mI rfl<|mI rfl<|V (bU O O)<|aa<|aF O (fun qk=> ?_) (fun qk=> ?_)
 .refine SR<|va (v:=B false) rfl<|aa<|aj<|jy O (v:=B false) O (.inl ⟨rfl,(by exact asl hf J J J),cI⟩)
 refine an<|SR<|aE (v:=Pn _ _) rfl<|V (af O)<|V (fA ix 0 O vh O)<|va (v:=Pn _ _) rfl<|aa<|Fq (G:=(Value)) cI (rg 34 13 []) (fun(L:List bu) (t1:(Value))=>((L).set 0 (.blk F (.cells #[nA,nB,nC,nD,nE,nF,nG,nH,vW,vU,t1,I (cnt),nI,nJ,nK,nL] 111 (0,0)))).set 3 (.row t1 3 1 (ts.length+1) (ts.map I++[I ((ul.map Prod.fst).length:Int)]))) (fun(t1:(Value)) s'=>True) ?_ ?_
 .refine gD aP cI (sQ (sP (sP (sQ sR))))<|fun Tj cT=>have rL:=cT.sub (sQ (sP (sP (sQ sR))));AQ 0 O rL (mV (Pn _ _) O)<|AQ 1 O rL (mV (Pn _ _) O)<|AQ 2 O rL (af O)<|AQ 3 O rL (fA ix 2 O dH O)<|AQ 5 O rL (mV (Pn _ _) O)<|AQ 6 O rL (af O)<|AQ 7 O rL (fA zB 0 O zF O)<|gp 4 8 aP ?_ ?_
  .refine cf O aD O cT (sQ (sP (sP (sQ sR)))) (aG bD O O (cT.cell (i:=0) O O))<|A1 8<|ct O aD O cT (sQ (sP (sP (sQ sR)))) (mS _ _ _ _ _ _ _ _ (cT.blk (i:=0) O) (cT.yQ (i:=1) O zo) (cT.Bz (i:=2) O JO)) (ay call90 O)<|fun w23 gY=>A1 9<|cH O aD O gY (sQ (sP (sP (sQ sR)))) (f:=fun b=> .slice (some ⟨b,0,none⟩) 1 1) (cB bD O O (sz:=1) (vs:=[I _]) O O az az O O)<|fun b27 w25 jf=> ?_
   (try simp only[lf]at jf)
   refine A1 10<|fT O aD O jf (j:=4) O (fun _=>(sQ (sQ (sP (sP (sQ sR)))))) (jf.dR (i:=0) (n:=1) (sz:=1) O O az) O O bD O O (size:=1) (bytes:=8) O O O az gX J iz<|fun v30 w28 gj=>AQ 11 O (gj.sub (sQ (sQ (sP (sP (sQ sR)))))) (af O)<|AQ 12 O (gj.sub (sQ (sQ (sP (sP (sQ sR)))))) (fA ix 2 O dH O)<|A1 13<|ed O aD gj (j:=1) O (sQ (sQ (sP (sP (sQ sR))))) (bL O O (v:=v30) O (aZ (gj.get (i:=4) O)).1 (aZ (gj.get (i:=4) O)).2 (gj.blk (i:=1) O) aJ)<|fun w33 lD=>AD<| ?_
   refine⟨((Fr.refl _ _)).u4.u4.u4.u1,v30,(Hp.conv (lD.sub (sQ sR)) aM),trivial⟩
  refine ct O aD O cT (sQ (sP (sP (sQ sR)))) (mS _ _ _ _ _ _ _ _ (cT.blk (i:=0) O) (cT.yQ (i:=1) O zo) (cT.Bz (i:=2) O JO)) (ay call90 O)<|fun w35 j4=>gp 4 9 aP ?_ ?_
  .refine cf O aD O j4 (sQ (sP (sP (sQ sR)))) (aG bD O O (j4.cell (i:=0) O O))<|A1 9<|cH O aD O j4 (sQ (sP (sP (sQ sR)))) (f:=fun b=> .slice (some ⟨b,0,none⟩) 1 1) (cB bD O O (sz:=1) (vs:=[I _]) O O az az O O)<|fun b41 w39 lE=> ?_
   (try simp only[lf]at lE)
   refine A1 10<|fT O aD O lE (j:=4) O (fun _=>(sQ (sQ (sP (sP (sQ sR)))))) (lE.dR (i:=0) (n:=1) (sz:=1) O O az) O O bD O O (size:=1) (bytes:=8) O O O az gX J iz<|fun v44 w42 mj=>AQ 11 O (mj.sub (sQ (sQ (sP (sP (sQ sR)))))) (af O)<|AQ 12 O (mj.sub (sQ (sQ (sP (sP (sQ sR)))))) (fA ix 2 O dH O)<|A1 13<|ed O aD mj (j:=1) O (sQ (sQ (sP (sP (sQ sR))))) (bL O O (v:=v44) O (aZ (mj.get (i:=4) O)).1 (aZ (mj.get (i:=4) O)).2 (mj.blk (i:=1) O) aJ)<|fun w47 kC=>AD<| ?_
   refine⟨((Fr.refl _ _)).u4.u4.u4.u1,v44,(Hp.conv (kC.sub (sQ sR)) aM),trivial⟩
  refine cH O aD O j4 (sQ (sP (sP (sQ sR)))) (f:=fun b=> .slice (some ⟨b,0,none⟩) 1 1) (cB bD O O (sz:=1) (vs:=[I _]) O O az az O O)<|fun b51 w49 eL=> ?_
  (try simp only[lf]at eL)
  refine A1 4<|cf O aD O eL (sQ (sQ (sP (sP (sQ sR))))) (aG bD O O (eL.cell (i:=1) O O))<|A1 10<|fT O aD O eL (j:=4) O (fun _=>(sQ (sQ (sP (sP (sQ sR)))))) (eL.dR (i:=0) (n:=1) (sz:=1) O O az) O O bD O O (size:=1) (bytes:=8) O O O az gX J iz<|fun v56 w54 jz=>AQ 11 O (jz.sub (sQ (sQ (sP (sP (sQ sR)))))) (af O)<|AQ 12 O (jz.sub (sQ (sQ (sP (sP (sQ sR)))))) (fA ix 2 O dH O)<|A1 13<|ed O aD jz (j:=1) O (sQ (sQ (sP (sP (sQ sR))))) (bL O O (v:=v56) O (aZ (jz.get (i:=4) O)).1 (aZ (jz.get (i:=4) O)).2 (jz.blk (i:=1) O) aJ)<|fun w59 wz=>AD<| ?_
  refine⟨((Fr.refl _ _)).u4.u4.u4.u1,v56,(Hp.conv (wz.sub (sQ sR)) aM),trivial⟩
 rintro t1 aOu w61 aFV D9-
 obtain⟨ay3,aKu,akt,aku,akv⟩:=aFV.w5 0 6 7 8 9
 refine Fq (G:=(Nat)×(Nat)) D9 (7::8::(rg 47 9 [])) (fun(L:List bu) (⟨a,b⟩:(Nat)×(Nat))=>L) (fun(⟨a,b⟩:(Nat)×(Nat)) s'=>(s' 7=I (a:Int))/\(s' 8=I (b:Int))/\(UnP nd cl i j a b)) ?_ ?_
 .refine SR<|aE akv<|aE akt<|aH O D9 (dz _ _ _ _ _ _ _ _ afy _ (D9.blk (i:=0) O) (D9.yQ (i:=1) O zo)) (bz uv O O (show _=I 1 from O))<|fun w62 oV=>aE akv<|aE aku<|aH O oV (dz _ _ _ _ _ _ _ _ afy _ (oV.blk (i:=0) O) (oV.yQ (i:=1) O zo)) (bz uv O O (show _=I 1 from O))<|fun w64 wP=>V (aN O O)<|aa<|aF O (fun h67=> ?_) (fun h67=> ?_)
  .refine au<|aE aku<|aE akt<|aI rfl<|aI rfl<|aa<| ?_
   refine⟨((Fr.refl _ _)).u4.u4.u1.u1.u1,(o6 nd cl j.toNat,o6 nd cl i.toNat),wP,(aK I aM),(aK I aM),?_⟩
   exact(VC hf J J J).swap
  refine an ?_
  refine⟨((Fr.refl _ _)).u4.u1.u1.u1,(o6 nd cl i.toNat,o6 nd cl j.toNat),wP,(jV akt (aK I aM)),(jV aku (aK I aM)),?_⟩
  exact VC hf J J J
 rintro⟨a,b⟩ aOv w68 aFX kE ⟨Ou,W3,hP⟩
 obtain⟨ay4,Dm⟩:=aFX.t2 0 ay3 9 akv
 have ha:=hP.ha
 have hb:=hP.hb
 have hab:=hP.ab
 have sa:=hf.small ha
 have sb:=hf.small hb
 have ta:=hf.aij ha hP.ua
 have tb:=hf.aij hb hP.ub
 refine SR<|aE Dm<|aE W3<|aE Ou<|cw O (kF _ _ _ _ _ _ _ _ _ _ _ _ _ _ J J J _ zo JO kE) (jE call189 O O (show _=I 0 from O) O)<| ?_
 rintro _ w71 ⟨rfl,v74,c75,u76,e77,ay5,aOw,aom,aFY,aFZ,aF0,aOx,aF1,h72⟩
 have uY:=Hp.mL (A:=[_,_,_]) (R:=[_]) h72
 simp only[gA,eN]at uY
 have l1:(kJ nd b a).length=nd.length:=by simp[kJ,nQ,rU,vZ]
 have qn:=iG (kJ nd b a)
 have lt1:mD (bE nd) (ul.map Prod.snd) (bE (kJ nd b a)) (ay5.map Prod.snd):=by rw[aFZ,<-ahZ (nd:=nd) hb];exact mD.set J
 rw[ahZ hb]at aom uY
 have la1:=lt1
 have dr1:=And.intro aF0 aF1
 refine aa<|SR<|aE Dm<|aE Ou<|aE Dm<|aE Ou<|aH O uY (dz _ _ _ _ _ _ _ _ J _ (uY.blk (i:=0) O) (uY.yQ (i:=1) O aom)) (bz uv O O (show _=I 1 from O))<|fun w86 WI=>have c64:=apz (nd:=(kJ nd b a)) (a:=a) (v:=kL nd a) (by rw[l1];exact ha) Vm J;aE Dm<|aE W3<|aH O WI (dz _ _ _ _ _ _ _ _ J _ (WI.blk (i:=0) O) (WI.yQ (i:=1) O aom)) (bz uv O O (show _=I 1 from O))<|fun w88 Jc=>have c67:=apz (nd:=(kJ nd b a)) (a:=b) (v:=kL nd b) (by rw[l1];exact hb) Vm J;V (ax (aK I c64) (aK I c67) J)<|cw O (kF _ _ _ _ _ _ _ _ _ _ _ _ _ _ J J J _ aom aFY Jc) (jE call189 O O (show _=I 1 from O) (aK I (show _=((kL nd a+kL nd b:Nat):Int)from by omega)))<| ?_
 rintro _ w92 ⟨rfl,v95,c96,u97,e98,ay6,akw,acy,ay7,ay8,ay9,aKw,aza,h93⟩
 have uB:=Hp.mL (A:=[_,_,_]) (R:=[_]) h93
 simp only[gA,eN]at uB
 have l2:(nQ (kJ nd b a) a (kL nd a+kL nd b)).length=nd.length:=by simp[kJ,nQ,rU,vZ]
 have J7:=iG (nQ (kJ nd b a) a (kL nd a+kL nd b))
 have lt2:mD (bE (kJ nd b a)) (ay5.map Prod.snd) (bE (nQ (kJ nd b a) a (kL nd a+kL nd b))) (ay6.map Prod.snd):=by rw[ay8,<-ah0 (nd:=(kJ nd b a)) (by rw[l1];exact ha)];exact mD.set J
 rw[ah0 (by rw[l1];exact ha)]at acy uB
 have la2:=la1.trans lt2
 have dr2:=pM dr1.1 ay9 dr1.2 aza
 refine aa<|SR<|aE Dm<|aE Ou<|aE Dm<|aE Ou<|aH O uB (dz _ _ _ _ _ _ _ _ J _ (uB.blk (i:=0) O) (uB.yQ (i:=1) O acy)) (bz uv O O (show _=I 3 from O))<|fun aOF akx=>have c74:=apB (nd:=(nQ (kJ nd b a) a (kL nd a+kL nd b))) (a:=a) (v:=qR nd a) (by rw[l2];exact ha) (Vq.trans Vo) J;aE Dm<|aE W3<|aH O akx (dz _ _ _ _ _ _ _ _ J _ (akx.blk (i:=0) O) (akx.yQ (i:=1) O acy)) (bz uv O O (show _=I 3 from O))<|fun aF3 QV=>have c77:=apB (nd:=(nQ (kJ nd b a) a (kL nd a+kL nd b))) (a:=b) (v:=qR nd b) (by rw[l2];exact hb) (Vq.trans Vo) J;V (vz (aK I c74) (aK I c77))<|cw O (kF _ _ _ _ _ _ _ _ _ _ _ _ _ _ J J J _ acy ay7 QV) (jE call189 O O (show _=I 3 from O) (aK I (show _=((min (qR nd a) (qR nd b):Nat):Int)from by omega)))<| ?_
 rintro _ ayp ⟨rfl,aOI,aOJ,aOK,aOL,aqB,aKy,acz,azb,azc,azd,aKz,aze,aue⟩
 have xF:=Hp.mL (A:=[_,_,_]) (R:=[_]) aue
 simp only[gA,eN]at xF
 have l3:(rU (nQ (kJ nd b a) a (kL nd a+kL nd b)) a (min (qR nd a) (qR nd b))).length=nd.length:=by simp[kJ,nQ,rU,vZ]
 have wl3:=iG (rU (nQ (kJ nd b a) a (kL nd a+kL nd b)) a (min (qR nd a) (qR nd b)))
 have lt3:mD (bE (nQ (kJ nd b a) a (kL nd a+kL nd b))) (ay6.map Prod.snd) (bE (rU (nQ (kJ nd b a) a (kL nd a+kL nd b)) a (min (qR nd a) (qR nd b)))) (aqB.map Prod.snd):=by rw[azc,<-ah1 (nd:=(nQ (kJ nd b a) a (kL nd a+kL nd b))) (by rw[l2];exact ha)];exact mD.set J
 rw[ah1 (by rw[l2];exact ha)]at acz xF
 have la3:=la2.trans lt3
 have dr3:=pM dr2.1 azd dr2.2 aze
 refine aa<|SR<|aE Dm<|aE Ou<|aH O xF (dz _ _ _ _ _ _ _ _ J _ (xF.blk (i:=0) O) (xF.yQ (i:=1) O acz)) (bz uv O O (show _=I 2 from O))<|fun aOO Ov=>have c82:=apA (nd:=(rU (nQ (kJ nd b a) a (kL nd a+kL nd b)) a (min (qR nd a) (qR nd b)))) (a:=a) (v:=tG nd a) (by rw[l3];exact ha) (Vr.trans (Vp.trans Vn)) J;aE Dm<|aE W3<|aH O Ov (dz _ _ _ _ _ _ _ _ J _ (Ov.blk (i:=0) O) (Ov.yQ (i:=1) O acz)) (bz uv O O (show _=I 2 from O))<|fun aF4 acA=>have c85:=apA (nd:=(rU (nQ (kJ nd b a) a (kL nd a+kL nd b)) a (min (qR nd a) (qR nd b)))) (a:=b) (v:=tG nd b) (by rw[l3];exact hb) (Vr.trans (Vp.trans Vn)) J;V (run_assign (aK I c82))<|V (run_assign (aK I c85))<|aa<|SR<|aE Dm<|aE Ou<|mI rfl<|cw O (kF _ _ _ _ _ _ _ _ _ _ _ _ _ _ J J J _ acz azb acA) (jE call189 O O (show _=I 2 from O) O)<| ?_
 rintro _ aOR ⟨rfl,aOS,aOT,aOU,aOV,aqC,aKB,aqD,azf,azg,azh,aKC,azi,aF5⟩
 have Hj:=Hp.mL (A:=[_,_,_]) (R:=[_]) aF5
 simp only[gA,eN]at Hj
 have l4:(vZ (rU (nQ (kJ nd b a) a (kL nd a+kL nd b)) a (min (qR nd a) (qR nd b))) a (tG nd b)).length=nd.length:=by simp[kJ,nQ,rU,vZ]
 have wl4:=iG (vZ (rU (nQ (kJ nd b a) a (kL nd a+kL nd b)) a (min (qR nd a) (qR nd b))) a (tG nd b))
 have lt4:mD (bE (rU (nQ (kJ nd b a) a (kL nd a+kL nd b)) a (min (qR nd a) (qR nd b)))) (aqB.map Prod.snd) (bE (vZ (rU (nQ (kJ nd b a) a (kL nd a+kL nd b)) a (min (qR nd a) (qR nd b))) a (tG nd b))) (aqC.map Prod.snd):=by rw[azg,<-SK (nd:=(rU (nQ (kJ nd b a) a (kL nd a+kL nd b)) a (min (qR nd a) (qR nd b)))) (by rw[l3];exact ha)];exact mD.set J
 rw[SK (by rw[l3];exact ha)]at aqD Hj
 have la4:=la3.trans lt4
 have dr4:=pM dr3.1 azh dr3.2 azi
 refine aa<|SR<|aE Dm<|aE W3<|mI rfl<|cw O (kF _ _ _ _ _ _ _ _ _ _ _ _ _ _ J J J _ aqD azf Hj) (jE call189 O O (show _=I 2 from O) O)<| ?_
 rintro _ aOY ⟨rfl,v154,aF6,aF7,aF8,aqE,aKE,aky,azj,azk,azl,aKF,azm,aF9⟩
 have JP:=Hp.mL (A:=[_,_,_]) (R:=[_]) aF9
 simp only[gA,eN]at JP
 have l5:(vZ (vZ (rU (nQ (kJ nd b a) a (kL nd a+kL nd b)) a (min (qR nd a) (qR nd b))) a (tG nd b)) b (tG nd a)).length=nd.length:=by simp[kJ,nQ,rU,vZ]
 have wl5:=iG (vZ (vZ (rU (nQ (kJ nd b a) a (kL nd a+kL nd b)) a (min (qR nd a) (qR nd b))) a (tG nd b)) b (tG nd a))
 have lt5:mD (bE (vZ (rU (nQ (kJ nd b a) a (kL nd a+kL nd b)) a (min (qR nd a) (qR nd b))) a (tG nd b))) (aqC.map Prod.snd) (bE (vZ (vZ (rU (nQ (kJ nd b a) a (kL nd a+kL nd b)) a (min (qR nd a) (qR nd b))) a (tG nd b)) b (tG nd a))) (aqE.map Prod.snd):=by rw[azk,<-SK (nd:=(vZ (rU (nQ (kJ nd b a) a (kL nd a+kL nd b)) a (min (qR nd a) (qR nd b))) a (tG nd b))) (by rw[l4];exact hb)];exact mD.set J
 rw[SK (by rw[l4];exact hb)]at aky JP
 have la5:=la4.trans lt5
 have dr5:=pM dr4.1 azl dr4.2 azm
 refine aa<|SR<|aE ay4<|V (af O)<|V (fA ix 3 O aO O)<|lI bx JP 0 O O rfl<|V (eO O O J)<|V (af O)<|V (fA ix 3 O aO O)<|bg JP (i:=0) O (bL O O (v:=I _) O O O (JP.blk (i:=0) O) aJ)<|fun aFc Oj=>aa<|SR<|va (v:=B true) rfl<|aa<|aj<|have hE:=Oj;?_
 rw[ahW ha hb hab]at hE aky la5
 refine jy O (v:=B true) O (.inr ⟨rfl,a,b,hP,v154,aF6,aF7,aF8,t1,aqE,_,aky,azj,la5,dr5.1,J,dr5.2,?_⟩)
 rw[show(ts++[(ul.length:Int)]).length=ts.length+1 by simp,show(ts++[(ul.length:Int)]).map I=ts.map I++[I ((ul.map Prod.fst).length:Int)]by simp];simp only[dG];exact hE
set_option maxHeartbeats 1000000 in
theorem Dn{nA nB nC nD nE nF nG nH nI nJ nK nL:Value}(W0:World)(F:Nat)(vW vU vT:Value)(cnt:Int)(cW cU:Option (Nat×Array Value))(W:List (BitVec 64))(ul:List (Value×jQ))(tn:List Nat)(cs:List (List Nat))(L:List bu)(m:Int)(OQ:ul.length<=1000000)(htn:tn.length<=100000)(hs:Hs W (ul.map Prod.snd) tn cs)(hok:M0 W.length (ul.map Prod.snd))(hI:∀x∈ul,pL (⟨134,243,193,3,35,8⟩:UT) F L x)(WY:cnt=(leads (cs.headD []):Nat))(w:World)(zo:cO cW vW (W.map U))(JO:cO cU vU (ul.map Prod.fst))(hH:Hp W0 w (.blk F (.cells #[nA,nB,nC,nD,nE,nF,nG,nH,vW,vU,vT,I (cnt),nI,nJ,nK,nL] 111 (0,0))::cE cW vW 35 (W.map U)::cE cU vU 1 (ul.map Prod.fst):: .row vT 3 1 tn.length ((J3 tn).map I)::L)):Calls Tryz.prog 49 #[.pointer (some ⟨F,8,none⟩),I m] w (jW fun u w'=>(u=B false/\(tn.length:Int)<m/\Hp W0 w' (.blk F (.cells #[nA,nB,nC,nD,nE,nF,nG,nH,vW,vU,vT,I (cnt),nI,nJ,nK,nL] 111 (0,0))::cE cW vW 35 (W.map U)::cE cU vU 1 (ul.map Prod.fst):: .row vT 3 1 tn.length ((J3 tn).map I)::L))\/(u=B true/\m<=tn.length/\∃(v1:Value) (c1:Option (Nat×Array Value)) (u1:Value) (c2:Option (Nat×Array Value)) (t1:Value) (W1:List (BitVec 64)) (mw:List (Value×jQ)) (JF:List Nat) (Fz:List (List Nat)),GI ul mw tn JF cs Fz W1/\(JF.length:Int)=max 0 m/\cO c1 v1 (W1.map U)/\cO c2 u1 (mw.map Prod.fst)/\Hp W0 w' (.blk F (.cells #[nA,nB,nC,nD,nE,nF,nG,nH,v1,u1,t1,I ((leads (Fz.headD []):Nat)),nI,nJ,nK,nL] 111 (0,0))::cE c1 v1 35 (W1.map U)::cE c2 u1 1 (mw.map Prod.fst):: .row t1 3 1 JF.length ((J3 JF).map I)::L))):=by
 refine en func49 rfl rfl<|SR<|va (v:=B false) rfl<|aa<|ai<|SR<|aE (v:=Pn _ _) rfl<|V (kU Lq O O)<|mB rfl<|cC O rfl<|mI rfl<|aE (v:=Pn _ _) rfl<|V (af O)<|V (fA ix 2 O dH O)<|lV bD hH 0 O O rfl<|V (aC (hH.sl (i:=3) O) O bD O)<|V (dN O O)<|mB rfl<|aa<|aF O (fun h2=> ?_) (fun h2=> ?_)
 .refine SR<|va (v:=B false) rfl<|aa<|aj<|jy O (v:=B false) O (.inl ⟨rfl,J,hH⟩)
 refine an<|ai<|SR<|aE (v:=Pn _ _) rfl<|V (af O)<|V (fA ix 2 O dH O)<|lV bD hH 0 O O rfl<|V (aC (hH.sl (i:=3) O) O bD O)<|V (eO O O J)<|aI rfl<|aa<|aA<| ?_
 rw[WY]at hH
 refine bt (G:=(List (BitVec 64))×(List (Value×jQ))×(List Nat)×(List (List Nat))×(Option (Nat×Array Value))×Value×(Option (Nat×Array Value))×Value×Value) (fun⟨W1,mw,JF,Fz,c1,v1,c2,u1,t1⟩ s' w'=>(Fr (5::6::(rg 24 47 [])) _ s')/\(Hp W0 w' (.blk F (.cells #[nA,nB,nC,nD,nE,nF,nG,nH,v1,u1,t1,I ((leads (Fz.headD []):Nat)),nI,nJ,nK,nL] 111 (0,0))::cE c1 v1 35 (W1.map U)::cE c2 u1 1 (mw.map Prod.fst):: .row t1 3 1 JF.length ((J3 JF).map I)::_))/\(s' 5=I ((JF.length:Int)-1))/\(GI ul mw tn JF cs Fz W1)/\(cO c1 v1 (W1.map U))/\(cO c2 u1 (mw.map Prod.fst))/\(max 0 m<=(JF.length:Int))) (fun⟨W1,mw,JF,Fz,c1,v1,c2,u1,t1⟩=>JF.length) ((W,ul,tn,cs,cW,vW,cU,vU,vT)) ⟨Fr.refl _ _,hH,rfl,(GI.start hs hok),zo,JO,J⟩ ?_
 rintro⟨W1,mw,JF,Fz,c1,v1,c2,u1,t1⟩ sg3 w3 ⟨fr3,tY,Ki,hb,Ju,CF,BY⟩
 obtain⟨BG,at5⟩:=fr3.w2 0 1
 refine ai<|SR<|aE Ki<|aE at5<|V (Gb O O)<|V (dF O O)<|aa<|aF O (fun h5=> ?_) (fun h5=> ?_)
 .refine an<|ai<|aA<|SR<| ?_
  obtain⟨t,tn2,cl,c3,cs2,rfl,rfl⟩:=asm hb.hs J
  obtain⟨nd1,nd2,e1,f1,e2,f2,hs2⟩:=anb hb.hs
  subst e1
  have q1:=f1.len
  have q2:=f2.len
  have n1:=hb.hs.Zu
  have n2:=hs2.Zu
  have cn:=hb.hs.cnt
  unfold Gz at cn
  have lc:=M8 cl
  have lc3:=M8 c3
  have tl:=hb.tn
  have ule:=hb.le
  have htl:=hb.hs.le
  rw[gF]at htl
  have hkk:((t::tn2).length:Int)=tn2.length+1:=aJ
  have hkn:(((t::tn2).length:Int)-1).toNat=tn2.length:=J
  have qn:=iG nd1
  have J7:=iG nd2
  simp only[X7]at tY
  refine aE BG<|aH O tY (lN _ _ _ _ _ _ J _ (tY.blk (i:=0) O) (tY.yQ (i:=1) O Ju)) (ay call89 O)<|fun w6 eC=>aI rfl<|aa<|ai<|gD aP eC (sQ (sQ (sQ sR)))<|fun w8 iE=>have Ow:=iE.sub (sQ (sQ (sQ sR)));AQ 0 O Ow (run_move BG)<|AQ 1 O Ow (af O)<|AQ 2 O Ow (fA ix 0 O vh O)<|AQ 3 O Ow (fA zB 0 O zF O)<|AQ 4 O Ow (run_move BG)<|AQ 5 O Ow (af O)<|AQ 6 O Ow (fA ix 2 O dH O)<|AQ 8 O Ow (run_move Ki)<|A1 7<|cf O aD O iE (sQ (sQ (sQ sR))) (aG bD O O (iE.cell (i:=0) O O))<|AT 9 O Ow (fun w hS=>ah (hS.sl (i:=0) O) bD aO O O J)<|AT 10 O Ow (fun w hS=>aG bx O O ((hS.sl (i:=0) O).cell _ _ (asn J)))<|A1 11<|yc O aD O (FN _ _ _ _ _ _ _ _ _ _ _ _ J J ⟨J,Int.ofNat_le.2 htl⟩ _ (fun x hx=>(hI x (hb.sub x hx)).mono fun e he=>mT he) hb.ok Ju CF iE) (aL call92 O O) (fun u w' ⟨_,_,_,_,_,_,_,h⟩=>h.sub (sQ (sQ (sQ sR))))<| ?_
  rintro _ QH ⟨rfl,v15,c16,u17,e18,aaz,auf,fI⟩
  rw[eA,e2]at aaz
  rw[eA]at auf
  rw[eA,e2]at fI
  refine AD<|ai<|SR<|aE BG<|aH O fI (lN _ _ _ _ _ _ J _ (fI.blk (i:=0) O) (fI.yQ (i:=1) O aaz)) (ay call89 O)<|fun QJ eM=>mI rfl<|V (aN O O)<|aa<|aF O (fun I6=> ?_) (fun I6=> ?_)
  .refine au<|aE BG<|V (af O)<|V (fA ix 3 O aO O)<|lI bx eM 0 O O rfl<|have aug:((leads c3:Nat):Int)=(leads cl:Int)-1:=J;V (eO O O J)<|V (af O)<|V (fA ix 3 O aO O)<|bg eM (i:=0) O (bL O O (v:=I _) O O O (eM.blk (i:=0) O) aJ)<|fun Wv dK=>aa<|au<|aE BG<|aE BG<|V (af O)<|V (fA ix 2 O dH O)<|lV bD dK 0 O O rfl<|aE Ki<|V (rh (dK.sl (i:=3) O) bD aO O O J)<|have iJ:=dK.anc (i:=3) O (m:=tn2.length) aJ;?_
   rw[VD]at iJ
   refine V (af O)<|V (fA ix 2 O dH O)<|bg iJ (i:=0) O (bL O O (aK (zT t1) hkn) (aZ (iJ.get (i:=3) O)).1 (aZ (iJ.get (i:=3) O)).2 (iJ.blk (i:=0) O) aJ)<|fun w29 iV=>aa<|au<|aE Ki<|V (eO O O J)<|aI rfl<|aa<| ?_
   refine⟨((bE nd2),(mw.take t),tn2,(c3::cs2),c16,v15,e18,u17,(zT t1 tn2.length)),?_,fr3.u4.u4.u4.u4.u4.u4.u4.u4.u4.u4.u1.u1,(Hp.conv iV (by(simp only[X7];rw[aug];rfl))),(aK I J),?_,?_,?_,J⟩
   ·(simp only[fq];omega)
   .exact hb.next e2
   .exact aaz
   exact auf
  refine au<|aE BG<|V (af O)<|V (fA ix 3 O aO O)<|lI bx eM 0 O O rfl<|have aug:((leads c3:Nat):Int)=(leads cl:Int)+1:=J;V (ax O O J)<|V (af O)<|V (fA ix 3 O aO O)<|bg eM (i:=0) O (bL O O (v:=I _) O O O (eM.blk (i:=0) O) aJ)<|fun w31 iC=>aa<|au<|aE BG<|aE BG<|V (af O)<|V (fA ix 2 O dH O)<|lV bD iC 0 O O rfl<|aE Ki<|V (rh (iC.sl (i:=3) O) bD aO O O J)<|have ke:=iC.anc (i:=3) O (m:=tn2.length) aJ;?_
  rw[VD]at ke
  refine V (af O)<|V (fA ix 2 O dH O)<|bg ke (i:=0) O (bL O O (aK (zT t1) hkn) (aZ (ke.get (i:=3) O)).1 (aZ (ke.get (i:=3) O)).2 (ke.blk (i:=0) O) aJ)<|fun w34 uX=>aa<|au<|aE Ki<|V (eO O O J)<|aI rfl<|aa<| ?_
  refine⟨((bE nd2),(mw.take t),tn2,(c3::cs2),c16,v15,e18,u17,(zT t1 tn2.length)),?_,fr3.u4.u4.u4.u4.u4.u4.u4.u4.u4.u4.u1.u1,(Hp.conv uX (by(simp only[X7];rw[aug];rfl))),(aK I J),?_,?_,?_,J⟩
  ·(simp only[fq];omega)
  .exact hb.next e2
  .exact aaz
  exact auf
 refine a7 (id:=0) rfl<|SR<|va (v:=B true) rfl<|aa<|aj<|jy O (v:=B true) O (.inr ⟨rfl,J,v1,c1,u1,c2,t1,W1,mw,JF,Fz,hb,J,Ju,CF,tY⟩)
section
variable{w0 w:World}{L:List bu}{F m:Nat}{cs:List (List Nat)}{vW vU vT:Value}{cW cU:Option (Nat×Array Value)}{W:List (BitVec 64)}{ul:List (Value×jQ)}{ts:List Int}{cn:Int}{nA nB nC nD nE nF nG nH nI nJ nK nL:Value}
theorem acB(h:xn FX F m cs vW vU cW cU W ul ts cn L)(hm:m<=100000)(hb:w.heap[F]?=some (.cells #[nA,nB,nC,nD,nE,nF,nG,nH,vW,vU,vT,I cn,nI,nJ,nK,nL] 111 (0,0)))(hW:Sl w vW 1 W.length (W.map U)):Calls Tryz.prog 123 #[.pointer (some ⟨F,8,none⟩)] w (Pure (I (leads (bB cs):Nat)) w):=by
 have WY:=h.cn
 subst WY
 exact BS F vW vU vT _ _ w hb hW
end
section
variable{w0 w:World}{L:List bu}{F m:Nat}{cs:List (List Nat)}{vW vU vT:Value}{cW cU:Option (Nat×Array Value)}{W:List (BitVec 64)}{ul:List (Value×jQ)}{ts:List Int}{cn:Int}{nA nB nC nD nE nF nG nH nI nJ nK nL:Value}
theorem FO(i:Int)(h:xn FX F m cs vW vU cW cU W ul ts cn L)(hm:m<=100000)(hb:w.heap[F]?=some (.cells #[nA,nB,nC,nD,nE,nF,nG,nH,vW,vU,vT,I cn,nI,nJ,nK,nL] 111 (0,0)))(hW:Sl w vW 1 W.length (W.map U)):Calls Tryz.prog 128 #[.pointer (some ⟨F,8,none⟩),I i] w (Pure (I (fN (bB cs) i)) w):=by
 obtain⟨nd,cl,A2,rfl,rfl,h2,h3,h4,h5,h6⟩:=h.now
 exact Dl F vW vU vT _ nd cl i J h2 w hb hW
end
section
variable{w0 w:World}{L:List bu}{F m:Nat}{cs:List (List Nat)}{vW vU vT:Value}{cW cU:Option (Nat×Array Value)}{W:List (BitVec 64)}{ul:List (Value×jQ)}{ts:List Int}{cn:Int}{nA nB nC nD nE nF nG nH nI nJ nK nL:Value}
theorem acC(i:Int)(h:xn FX F m cs vW vU cW cU W ul ts cn L)(hm:m<=100000)(hb:w.heap[F]?=some (.cells #[nA,nB,nC,nD,nE,nF,nG,nH,vW,vU,vT,I cn,nI,nJ,nK,nL] 111 (0,0)))(hW:Sl w vW 1 W.length (W.map U)):Calls Tryz.prog 129 #[.pointer (some ⟨F,8,none⟩),I i] w (sY 3 1 (bP (bB cs) i).length ((bP (bB cs) i).map I) w):=by
 obtain⟨nd,cl,A2,rfl,rfl,h2,h3,h4,h5,h6⟩:=h.now
 exact BT F vW vU vT _ nd cl i J h2 w hb hW
end
section
variable{w0 w:World}{L:List bu}{F m:Nat}{cs:List (List Nat)}{vW vU vT:Value}{cW cU:Option (Nat×Array Value)}{W:List (BitVec 64)}{ul:List (Value×jQ)}{ts:List Int}{cn:Int}{nA nB nC nD nE nF nG nH nI nJ nK nL:Value}
theorem akz(h:xn FX F m cs vW vU cW cU W ul ts cn L)(hm:m<=100000)(hb:w.heap[F]?=some (.cells #[nA,nB,nC,nD,nE,nF,nG,nH,vW,vU,vT,I cn,nI,nJ,nK,nL] 111 (0,0)))(hW:Sl w vW 1 W.length (W.map U))(hT:Sl w vT 1 ts.length (ts.map I)):Calls Tryz.prog 46 #[.pointer (some ⟨F,8,none⟩)] w (Pure (I ((cs.length:Int)-1)) w):=by
 obtain⟨nd,cl,A2,rfl,rfl,h2,h3,h4,h5,h6⟩:=h.now
 have:=Dk F vW vU vT _ _ ts w hb hW hT
 rwa[show((ts.length:Nat):Int)=((cl::A2).length:Int)-1 by omega]at this
end
section
variable{w0 w:World}{L:List bu}{F m:Nat}{cs:List (List Nat)}{vW vU vT:Value}{cW cU:Option (Nat×Array Value)}{W:List (BitVec 64)}{ul:List (Value×jQ)}{ts:List Int}{cn:Int}{nA nB nC nD nE nF nG nH nI nJ nK nL:Value}
theorem azn(h:xn FX F m cs vW vU cW cU W ul ts cn L)(hm:m<=100000){R:List bu}(hH:Hp w0 w (.blk F (.cells #[nA,nB,nC,nD,nE,nF,nG,nH,vW,vU,vT,I (cn),nI,nJ,nK,nL] 111 (0,0))::cE cW vW 35 ((W).map U)::cE cU vU 1 ((ul).map Prod.fst):: .row vT 3 1 (ts).length ((ts).map I)::(R++L))):Calls Tryz.prog 47 #[.pointer (some ⟨F,8,none⟩)] w (jW fun u w'=>u=I (bB cs).length/\∃(Ox Oy Xo:Value) (QY QZ:Option (Nat×Array Value)) (W':List (BitVec 64)) (zk:List (Value×jQ)) (ts':List Int) (Q0:Int) (Lb:List bu),xn FX F (m+1) (SP cs) Ox Oy QY QZ W' zk ts' Q0 (Lb++L)/\Hp w0 w' (.blk F (.cells #[nA,nB,nC,nD,nE,nF,nG,nH,Ox,Oy,Xo,I (Q0),nI,nJ,nK,nL] 111 (0,0))::cE QY Ox 35 ((W').map U)::cE QZ Oy 1 ((zk).map Prod.fst):: .row Xo 3 1 (ts').length ((ts').map I)::(Lb++(R++L)))):=by
 obtain⟨tn,rfl,i⟩:=h.fo
 have WY:=h.cn
 subst WY
 obtain⟨nd,cl,A2,rfl,rfl,h2,h3,h4,h5,h6⟩:=i.now
 have l1:=i.lu;have l2:=i.lt
 refine(Ed w0 F vW vU vT _ cW cU nd ul (J3 tn) (R++L) J J (by rw[xm];omega) afJ w i.hW i.hU hH).mono fun e w' hr=>jW.mono ?_ hr
 rintro u w' ⟨rfl,v1,c1,u1,c2,t1,mw,Kj,k1,k2,k3,k4,k5,hh⟩
 have e5:(leads (bB (SP (cl::A2))):Nat)=leads cl+1:=by rw[<-Qb h2,h3];rfl
 have e6:((leads (bB (cl::A2)):Nat):Int)+1=((leads (bB (SP (cl::A2))):Nat):Int):=by rw[e5];rfl
 have e7:(J3 tn++[(ul.length:Int)])=J3 (ul.length::tn):=(GH ..).symm
 rw[e6,e7]at hh
 refine⟨by rw[h3];rfl,v1,u1,t1,c1,c2,bE (nd++[rT nd.length]),mw,J3 (ul.length::tn),_,Kj,⟨⟨ul.length::tn,rfl,k1,k2,?_,?_,?_,?_,?_⟩,rfl⟩,hh⟩
 .have e1:=amS (W:=bE nd) (us:=ul.map Prod.snd) (a:=BitVec.ofNat 64 nd.length) (b:=BitVec.ofNat 64 1) (c:=BitVec.ofNat 64 nd.length) (d:=BitVec.ofNat 64 nd.length)
  have e2:bE (nd++[rT nd.length])=bE nd++[BitVec.ofNat 64 nd.length]++[BitVec.ofNat 64 1]++[BitVec.ofNat 64 nd.length]++[BitVec.ofNat 64 nd.length]:=by rw[qt];simp[FY,rT]
  rw[<-e2]at e1
  have h:=Hs.more (jT:=cl++[nd.length]) i.hs O h2.add (.inl ⟨aJ,Qb h2⟩) e1.1 e1.2.1 e1.2.2
  rw[gF]at h
  rw[k3]
  show Hs _ _ _ ((cl++[cl.length])::cl::A2)
  rw[<-h3];exact h
 .have e2:bE (nd++[rT nd.length])=bE nd++[BitVec.ofNat 64 nd.length]++[BitVec.ofNat 64 1]++[BitVec.ofNat 64 nd.length]++[BitVec.ofNat 64 nd.length]:=by rw[qt];simp[FY,rT]
  rw[k3,e2];exact amT i.ok
 .intro x hx
  rw[<-HC ul.length mw,k4]at hx
  rcases fg.1 hx with q|q
  .exact(i.un x q).mono fun e he=>bH _ he
  exact(k5 x q).mono fun e he=>dL _ he
 .have:=aK List.length k3;simp[O1]at this;omega
 simp;omega
end
section
variable{w0 w:World}{L:List bu}{F m:Nat}{cs:List (List Nat)}{vW vU vT:Value}{cW cU:Option (Nat×Array Value)}{W:List (BitVec 64)}{ul:List (Value×jQ)}{ts:List Int}{cn:Int}{nA nB nC nD nE nF nG nH nI nJ nK nL:Value}
theorem aon(i j:Int)(h:xn FX F m cs vW vU cW cU W ul ts cn L)(hm:m<=100000){R:List bu}(hH:Hp w0 w (.blk F (.cells #[nA,nB,nC,nD,nE,nF,nG,nH,vW,vU,vT,I (cn),nI,nJ,nK,nL] 111 (0,0))::cE cW vW 35 ((W).map U)::cE cU vU 1 ((ul).map Prod.fst):: .row vT 3 1 (ts).length ((ts).map I)::(R++L))):Calls Tryz.prog 156 #[.pointer (some ⟨F,8,none⟩),I i,I j] w (jW fun u w'=>u=B (jv cs i j).2/\∃(Ox Oy Xo:Value) (QY QZ:Option (Nat×Array Value)) (W':List (BitVec 64)) (zk:List (Value×jQ)) (ts':List Int) (Q0:Int) (Lb:List bu),xn FX F (m+(if(jv cs i j).2 then 1 else 0)) ((jv cs i j).1) Ox Oy QY QZ W' zk ts' Q0 (Lb++L)/\Hp w0 w' (.blk F (.cells #[nA,nB,nC,nD,nE,nF,nG,nH,Ox,Oy,Xo,I (Q0),nI,nJ,nK,nL] 111 (0,0))::cE QY Ox 35 ((W').map U)::cE QZ Oy 1 ((zk).map Prod.fst):: .row Xo 3 1 (ts').length ((ts').map I)::(Lb++(R++L)))):=by
 obtain⟨tn,rfl,k⟩:=h.fo
 have WY:=h.cn
 subst WY
 obtain⟨nd,cl,A2,rfl,rfl,h2,h3,h4,h5,h6⟩:=k.now
 have l1:=k.lu;have l2:=k.lt
 refine(BU w0 F vW vU vT _ cW cU nd ul (J3 tn) (R++L) cl i j J J (by rw[xm];omega) afJ h2 w k.hW k.hU hH).mono fun e w' hr=>jW.mono ?_ hr
 rintro u w' (⟨rfl,no,hh⟩|⟨rfl,a,b,p,v1,c1,u1,c2,t1,mw,Kj,k1,k2,la,k4,k6,k5,hh⟩)
 .rw[M9 (cs:=cl::A2) (by show¬IT cl.length cl i j;rw[<-h3];exact no)]
  exact⟨rfl,vW,vU,vT,cW,cU,bE nd,ul,J3 tn,_,[],h,hh⟩
 rw[IV (cs:=cl::A2) (by have:=p.ok;show IT cl.length cl i j;rw[<-h3];exact this)]
 obtain⟨f1,f2⟩:=axa h2 p
 have e5:((leads (bB (cl::A2)):Nat):Int)-1=((leads (bB (iI cl (cm cl i.toNat) (cm cl j.toNat)::cl::A2)):Nat):Int):=by
  have e1:leads (bB (cl::A2))=leads cl:=rfl
  have e2:leads (bB (iI cl (cm cl i.toNat) (cm cl j.toNat)::cl::A2))=leads (iI cl (cm cl i.toNat) (cm cl j.toNat)):=rfl
  omega
 have e7:(J3 tn++[(ul.length:Int)])=J3 (ul.length::tn):=(GH ..).symm
 rw[e5,e7]at hh
 refine⟨rfl,v1,u1,t1,c1,c2,bE (pK nd a b),mw,J3 (ul.length::tn),_,Kj,⟨⟨ul.length::tn,rfl,k1,k2,?_,la.ok k.ok,?_,?_,?_⟩,rfl⟩,hh⟩
 .have h:=Hs.more (jT:=iI cl (cm cl i.toNat) (cm cl j.toNat)) k.hs O f1 (.inr ⟨IU,f2⟩) la.back.1 la.back.2 la.le
  rw[gF]at h;exact h
 .intro x hx
  rw[<-HC ul.length mw,k4]at hx
  rcases fg.1 hx with q|q
  .exact(k.un x q).mono fun e he=>bH _ he
  exact(k5 x q).mono fun e he=>dL _ he
 .show mw.length<=5*(m+1);omega
 show(ul.length::tn).length<=m+1;simp;omega
end
section
variable{w0 w:World}{L:List bu}{F m:Nat}{cs:List (List Nat)}{vW vU vT:Value}{cW cU:Option (Nat×Array Value)}{W:List (BitVec 64)}{ul:List (Value×jQ)}{ts:List Int}{cn:Int}{nA nB nC nD nE nF nG nH nI nJ nK nL:Value}
theorem auh(i:Int)(h:xn FX F m cs vW vU cW cU W ul ts cn L)(hm:m<=100000){R:List bu}(hH:Hp w0 w (.blk F (.cells #[nA,nB,nC,nD,nE,nF,nG,nH,vW,vU,vT,I (cn),nI,nJ,nK,nL] 111 (0,0))::cE cW vW 35 ((W).map U)::cE cU vU 1 ((ul).map Prod.fst):: .row vT 3 1 (ts).length ((ts).map I)::(R++L))):Calls Tryz.prog 49 #[.pointer (some ⟨F,8,none⟩),I i] w (jW fun u w'=>u=B (CI cs i).2/\∃(Ox Oy Xo:Value) (QY QZ:Option (Nat×Array Value)) (W':List (BitVec 64)) (zk:List (Value×jQ)) (ts':List Int) (Q0:Int) (Lb:List bu),xn FX F (m) ((CI cs i).1) Ox Oy QY QZ W' zk ts' Q0 (Lb++L)/\Hp w0 w' (.blk F (.cells #[nA,nB,nC,nD,nE,nF,nG,nH,Ox,Oy,Xo,I (Q0),nI,nJ,nK,nL] 111 (0,0))::cE QY Ox 35 ((W').map U)::cE QZ Oy 1 ((zk).map Prod.fst):: .row Xo 3 1 (ts').length ((ts').map I)::(Lb++(R++L)))):=by
 obtain⟨tn,rfl,k⟩:=h.fo
 have WY:=h.cn
 subst WY
 obtain⟨nd,cl,A2,rfl,rfl,h2,h3,h4,h5,h6⟩:=k.now
 have l1:=k.lu;have l2:=k.lt
 rw[xm]at hH
 refine(Dn w0 F vW vU vT _ cW cU (bE nd) ul tn (cl::A2) (R++L) i J J k.hs k.ok (fun x hx=>(k.un x hx).mono fun e he=>bH _ he) O w k.hW k.hU hH).mono fun e w' hr=>jW.mono ?_ hr
 rintro u w' (⟨rfl,no,hh⟩|⟨rfl,yes,v1,c1,u1,c2,t1,W1,mw,JF,Fz,hb,htn,k1,k2,hh⟩)
 .rw[show CI (cl::A2) i=(cl::A2,false)from aX J]
  rw[<-xm]at hh
  exact⟨rfl,vW,vU,vT,cW,cU,bE nd,ul,J3 tn,_,[],h,hh⟩
 rw[show CI (cl::A2) i=((cl::A2).drop ((cl::A2).length-1-(max 0 i).toNat),true)from aT J]
 have e1:Fz=(cl::A2).drop ((cl::A2).length-1-(max 0 i).toNat):=by rw[hb.cs];congr 1;omega
 rw[<-e1]
 have q1:=hb.le;have q2:=hb.tn
 rw[<-xm]at hh
 exact⟨rfl,v1,u1,t1,c1,c2,W1,mw,J3 JF,_,[],⟨⟨JF,rfl,k1,k2,hb.hs,hb.ok,fun x hx=>k.un x (hb.sub x hx),J,J⟩,rfl⟩,hh⟩
end
end
end Go.Proofs.YtlhjdflgjbkpmaaGreatDoor.W

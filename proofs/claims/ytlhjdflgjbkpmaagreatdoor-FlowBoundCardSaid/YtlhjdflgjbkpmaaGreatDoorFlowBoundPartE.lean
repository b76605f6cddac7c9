/- Part 5 of the proof of FlowBound: its plain laws and the walks of its functions. -/
import Derived.Test.YtlhjdflgjbkpmaaGreatDoorFlowBoundPartD
set_option linter.all false
namespace Go.Proofs.YtlhjdflgjbkpmaaGreatDoor.W
section
open Go Go.RowKit Go.Proofs.YtlhjdflgjbkpmaaGreatDoor.E Go.Proofs.YtlhjdflgjbkpmaaGreatDoor.M
set_option maxRecDepth 100000
open Go.Proofs.Tryz
variable{fr:List a7}
set_option maxHeartbeats 1000000 in
theorem Af(s:kE)(x:gp)(w:World)(hs:E5 (Kw w) s)(hx:JQ (Kw w) x):Calls Tryz.prog 35 #[.agg (Ir s),.agg (zy x).toArray] w (Pure (B (jr s x)) w):=by
 have xT:=hs.au.sl.small
 have Ol:=hs.vars.sl.small
 unfold maxLen at xT Ol
 have hm3:=hx.code.small
 unfold maxLen at hm3
 refine eH func35 rfl rfl fun hH=>SR<|gV hH (v:= .agg _) rfl<|fun b3 w1 aZ=>gV aZ (v:= .agg _) rfl<|fun b6 w4 bP=>va (v:=B false) rfl<|aa<|ag<|SR<|V (fA iE 0 O a8 O)<|lI bf bP 0 O O rfl<|V (bN O O)<|aa<|aD O (fun h8=> ?_) (fun h8=> ?_)
 .refine SR<|V (cM (cs:=Cf _) ig O O O (bp (bP.blk (i:=1) O)))<|V (fA iE 16 O a8 O)<|lI bf bP 0 O O rfl<|V (fA iE 1 O a8 O)<|lI bf bP 0 O O rfl<|aG O bP (kg _ _ _ _ _ (hs.mono bP.kw)) (jm call76 O O (show _=I 2 from O) O)<|fun w9 bV=>mB rfl<|fO 16 O (fun h12=> ?_) (fun h12=> ?_)
  .refine V (fA iE 17 O jX O)<|V (aC ic O O (bV.cell (i:=0) O (v:= .string _) O))<|aG O bV (iz _ _) (an call74 O)<|fun Bw cg=>mB rfl<|aB rfl<|aa<|ai<|oB O ?_ cg
   (rw[ahc ‹x.op=10›,‹qA s x.var 2 x.aX=true›,l8];done)
  refine aE (v:=B false) rfl<|aB rfl<|aa<|ai<|oB O ?_ bV
  (rw[ahc ‹x.op=10›,‹qA s x.var 2 x.aX=false›,qu];done)
 refine ak<|ag<|SR<|V (fA iE 1 O a8 O)<|lI bf bP 0 O O rfl<|V (aM O O)<|mB rfl<|bM 24 O (fun J6=> ?_) (fun J6=> ?_)
 .refine aE (v:=B true) rfl<|aa<|cC rfl<|SR<|va (v:=B false) rfl<|aa<|ai<|oB O ?_ bP
  (rw[ahd J J];done)
 refine V (fA iE 1 O a8 O)<|lI bf bP 0 O O rfl<|V (fA ig 0 O qw O)<|V (cf (hs.au.sl.hp bP) ku O O (bP.cell (i:=1) O O))<|V (aA (hs.au.sl.hp bP) O ku O)<|V (dD O O)<|mB rfl<|aa<|aD O (fun J1=> ?_) (fun J1=> ?_)
 .refine SR<|va (v:=B false) rfl<|aa<|ai<|oB O ?_ bP
  (rw[ahd J J];done)
 refine ak<|ag<|SR<|V (fA iE 0 O a8 O)<|lI bf bP 0 O O rfl<|V (bN O O)<|aa<|aD O (fun NA=> ?_) (fun NA=> ?_)
 .refine SR<|V (cM (cs:=Cf _) ig O O O (bp (bP.blk (i:=1) O)))<|V (fA iE 1 O a8 O)<|lI bf bP 0 O O rfl<|V (fA iE 12 O HE O)<|V (iB (sub:=Sb _) pH O O O (bP.blk (i:=0) O) (arG _))<|aG O bP (qY _ _ _ J _ (hs.mono bP.kw) (hx.a.mono bP.kw)) (bB call77 O O O)<|fun OO eO=>mB rfl<|fO 41 O (fun GK=> ?_) (fun GK=> ?_)
  .refine V (cM (cs:=Cf _) ig O O O (bp (eO.blk (i:=1) O)))<|V (fA iE 1 O a8 O)<|lI bf eO 0 O O rfl<|V (fA iE 14 O HE O)<|V (iB (sub:=Sb _) pH O O O (eO.blk (i:=0) O) (arH _))<|aG O eO (qY _ _ _ J _ (hs.mono eO.kw) (hx.b.mono eO.kw)) (bB call77 O O O)<|fun V6 dK=>mB rfl<|aB rfl<|aa<|ai<|oB O ?_ dK
   (rw[aoX ‹x.op=9› (show 0<=x.aX/\x.aX<s.au.length by omega),‹u6 s x.aX x.a=true›,l8];done)
  refine aE (v:=B false) rfl<|aB rfl<|aa<|ai<|oB O ?_ eO
  (rw[aoX ‹x.op=9› (show 0<=x.aX/\x.aX<s.au.length by omega),‹u6 s x.aX x.a=false›,qu];done)
 refine ak<|ag<|SR<|V (fA iE 0 O a8 O)<|lI bf bP 0 O O rfl<|V (ke O O)<|mB rfl<|bM 52 O (fun GI=> ?_) (fun GI=> ?_)
 .refine aE (v:=B true) rfl<|mB rfl<|bZ O rfl<|aE (v:=B true) rfl<|aa<|cC rfl<|SR<|va (v:=B false) rfl<|aa<|ai<|oB O ?_ bP
  (rw[awH J J J];done)
 refine V (fA iE 2 O y8 O)<|V (cf (hx.code.sl.hp bP) gI O O (bP.cell (i:=0) O O))<|aG O bP (Ae _ _ _ (hx.code.sl.hp bP)) (an call78 O)<|fun w31 fJ=>V (bO O)<|mB rfl<|mB rfl<|fO 58 O (fun DP=> ?_) (fun DP=> ?_)
 .refine aE (v:=B true) rfl<|aa<|cC rfl<|SR<|va (v:=B false) rfl<|aa<|ai<|oB O ?_ fJ
  (rw[PR (show x.op=8 by omega) (show 0<=x.aX/\x.aX<s.au.length by omega),aha (nt ‹(!gq _)=true›),qu];done)
 refine V (cM (cs:=Cf _) ig O O O (bp (fJ.blk (i:=1) O)))<|V (fA iE 1 O a8 O)<|lI bf fJ 0 O O rfl<|V (fA iE 3 O pJ O)<|V (iB (sub:=jq _) nO O O O (fJ.blk (i:=0) O) (aaX _))<|aG O fJ (lR _ _ _ J _ (hs.mono fJ.kw)) (bB call79 O O O)<|fun w36 yw=>V (bO O)<|mB rfl<|aa<|bW O (fun h40=> ?_) (fun h40=> ?_)
 .refine SR<|va (v:=B false) rfl<|aa<|ai<|oB O ?_ yw
  (rw[PR (show x.op=8 by omega) (show 0<=x.aX/\x.aX<s.au.length by omega),nt ‹(!lO s x.aX x.to)=true›,KW];done)
 refine ak<|ag<|SR<|va (v:=I 0) rfl<|aa<|ay<|bk (G:=Int) (fun k s' w'=>(Fr (rg 4 3 (rg 67 42 [])) _ s')/\(Hp w w' _)/\(s' 5=I k)/\(0<=k)/\(k<=x.code.length)/\(∀j:Int,0<=j->j<k->u7 s x.aX (x.code.getD j.toNat cB)=true)) (fun k=>(x.code.length-k).toNat) (0) ⟨Fr.refl _ _,yw,rfl,J,J,fun j a b=>absurd b J⟩<| ?_
 rintro k aET w41 ⟨Wh,iU,En,h0,hk,hg⟩
 obtain⟨ajJ,NT⟩:=Wh.w2 2 3
 refine ag<|SR<|aE En<|V (fA iE 2 O y8 NT)<|V (cf (hx.code.sl.hp iU) gI O O (iU.cell (i:=0) O O))<|V (aA (hx.code.sl.hp iU) O gI O)<|V (aM O O)<|aa<|aD O (fun h43=> ?_) (fun h43=> ?_)
 .refine ak<|ag<|ay<|SR<|V (fA iE 2 O y8 NT)<|V (cf (hx.code.sl.hp iU) gI O O (iU.cell (i:=0) O O))<|aE En<|V (ah (hx.code.sl.hp iU) gI nR O O J)<|V (eF (dv:=cB) gj (hx.code.sl.hp iU) eD O O O J)<|nu iU (aW CB)<|fun b46 w44 nn=>bt nn (i:=0) O (dF (c':=(j6 _).toArray) O O O (yd _) (nn.blk (i:=0) O) O)<|fun w47 nj=>aa<|ag<|ed aP nj<|fun w49 eT=>have ZY:=eT;AQ 0 O ZY (fA eD 0 O a8 O)<|tI 1 O ZY bf 0 O O rfl<|AQ 2 O ZY (bN O O)<|AQ 3 O ZY (mV (B _) O)<|B5 (dj:=82) O (fun Wj=> ?_) (fun Wj=> ?_)
  .refine AG 4 O O (bT Wj) eT (fun w hS=>cM (cs:=Cf _) ig O O ajJ (bp (hS.blk (i:=2) O)))<|BQ 5 O O (bT Wj) eT (fA eD 1 O a8 O)<|AG 6 O O (bT Wj) eT (fun w hS=>aC bf O O (hS.cell (i:=0) O (v:=I _) O))<|BQ 7 O O (bT Wj) eT (fA iE 1 O a8 NT)<|AG 8 O O (bT Wj) eT (fun w hS=>aC bf O O (hS.cell (i:=1) O (v:=I _) O))<|A1 9<|bX O (Aw O (bT Wj)) O eT sR (kg _ _ _ _ _ (hs.mono eT.kw)) (jm call76 O O (show _=I 1 from O) O)<|fun w53 gH=>BQ 10 O O (bT Wj) gH (bO O)<|have anQ:=gH;AQ 11 O anQ (fZ (bT Wj) (v:=B _) O)<|AQ 12 O anQ (mV (B _) O)<|Jj (dj:=91) O (fun OW=> ?_) (fun OW=> ?_)
   .refine AK 13 O O (bR (c:=true) OW) gH<|AK 14 O O (bR (c:=true) OW) gH<|AK 15 O O (bR (c:=true) OW) gH<|AK 16 O O (bR (c:=true) OW) gH<|AU 17 O O O gH<|AU 18 O O O gH<|AU 19 O O O gH<|AU 20 O O O gH<|AU 21 O O O gH<|AU 22 O O O gH<|AU 23 O O O gH<|AU 24 O O O gH<|AU 25 O O O gH<|AU 26 O O O gH<|AU 27 O O O gH<|AK 28 O O (bR (c:=true) OW) gH<|AQ 29 O anQ (fZ (bR (c:=true) OW) (v:=B true) O)<|AD<|cC rfl<|SR<|va (v:=B false) rfl<|aa<|ai<|oB O ?_ gH
    (rw[PR (show x.op=8 by omega) (show 0<=x.aX/\x.aX<s.au.length by omega),MB h0 ‹k<_› (amo ‹(List.getD x.code _ _).op=1› (nt ‹(!qA s _ 1 x.aX)=true›)),qu];done)
   refine BQ 13 O O (bR (c:=false) OW) gH (fA eD 0 O a8 O)<|AG 14 O O (bR (c:=false) OW) gH (fun w hS=>aC bf O O (hS.cell (i:=0) O (v:=I _) O))<|BQ 15 O O (bR (c:=false) OW) gH (bN O O)<|BQ 16 O O (bR (c:=false) OW) gH (mV (B _) O)<|B5 (dj:=95) O (fun I0=> ?_) (fun I0=> ?_)
   .refine BQ 17 O O (bT I0) gH (fA ig 0 O qw ajJ)<|AG 18 O O (bT I0) gH (fun w hS=>cf (hs.au.sl.hp hS) ku O O (hS.cell (i:=2) O O))<|BQ 19 O O (bT I0) gH (fA iE 1 O a8 NT)<|AG 20 O O (bT I0) gH (fun w hS=>aC bf O O (hS.cell (i:=1) O (v:=I _) O))<|AG 21 O O (bT I0) gH (fun w hS=>ah (hs.au.sl.hp hS) ku BP O O J)<|BQ 22 O O (bT I0) gH (fA uI 1 O yZ O)<|AG 23 O O (bT I0) gH (fun w hS=>n4 (dv:=me) (off:=1) (cs:=zv _) qI (hs.au.sl.hp hS) dL O O O J (Gd _))<|BQ 24 O O (bT I0) gH (fA eD 2 O iq O)<|AG 25 O O (bT I0) gH (fun w hS=>r5 cH O O O (hS.blk (i:=0) O) (Gh _))<|A1 26<|bX O (Aw O (bT I0)) O gH sR (m6 _ _ _ ((hs.at J J).mono gH.kw)) (aN call80 O O)<|fun w60 Ag=>BQ 27 O O (bT I0) Ag (bO O)<|BQ 28 O O (bR (c:=false) OW) Ag (fZ (bT I0) (v:=B _) O)<|have aEX:=Ag;AQ 29 O aEX (dM (bR (c:=false) OW) (v:=B _) O)<|AD<|bW O (fun h64=> ?_) (fun h64=> ?_)
    .refine SR<|va (v:=B false) rfl<|aa<|ai<|oB O ?_ Ag
     (rw[PR (show x.op=8 by omega) (show 0<=x.aX/\x.aX<s.au.length by omega),MB h0 ‹k<_› (aa3 ‹(List.getD x.code _ _).op=2› (nt ‹(!cF _ _)=true›)),qu];done)
    refine ak<|aq<|aE En<|V (ax O O J)<|aI rfl<|aa<| ?_
    refine⟨k+1,aT,Wh.u4.u4.u4.u4.u4.u4.u4.u4.u4.u4.u4,(Ag.sub (sQ sR)),(aJ I aO),J,J,?_⟩
    exact fun j a b=>if e:j=k then e▸KG afl (by exact .inr (nf ‹(!cF _ _)=false›))else hg j a J
   refine AK 17 O O (bF I0) gH<|AK 18 O O (bF I0) gH<|AK 19 O O (bF I0) gH<|AK 20 O O (bF I0) gH<|AK 21 O O (bF I0) gH<|AK 22 O O (bF I0) gH<|AK 23 O O (bF I0) gH<|AK 24 O O (bF I0) gH<|AK 25 O O (bF I0) gH<|AK 26 O O (bF I0) gH<|AK 27 O O (bF I0) gH<|BQ 28 O O (bR (c:=false) OW) gH (dM (bF I0) (v:=B false) O)<|AQ 29 O anQ (dM (bR (c:=false) OW) (v:=B _) O)<|AD<|cL rfl<|ak<|aq<|aE En<|V (ax O O J)<|aI rfl<|aa<| ?_
   refine⟨k+1,aT,Wh.u4.u4.u4.u4.u4.u4.u4.u4.u4.u4.u4,(gH.sub (sQ sR)),(aJ I aO),J,J,?_⟩
   exact fun j a b=>if e:j=k then e▸KG afl (by exact .inl ‹¬(List.getD x.code _ _).op=2›)else hg j a J
  refine AK 4 O O (bF Wj) eT<|AK 5 O O (bF Wj) eT<|AK 6 O O (bF Wj) eT<|AK 7 O O (bF Wj) eT<|AK 8 O O (bF Wj) eT<|AK 9 O O (bF Wj) eT<|AK 10 O O (bF Wj) eT<|AQ 11 O ZY (dM (bF Wj) (v:=B false) O)<|AQ 12 O ZY (mV (B _) O)<|BQ 13 O O O eT (fA eD 0 O a8 O)<|AG 14 O O O eT (fun w hS=>aC bf O O (hS.cell (i:=0) O (v:=I _) O))<|BQ 15 O O O eT (bN O O)<|BQ 16 O O O eT (mV (B _) O)<|B5 (dj:=95) O (fun Fw=> ?_) (fun Fw=> ?_)
  .refine BQ 17 O O (bT Fw) eT (fA ig 0 O qw ajJ)<|AG 18 O O (bT Fw) eT (fun w hS=>cf (hs.au.sl.hp hS) ku O O (hS.cell (i:=2) O O))<|BQ 19 O O (bT Fw) eT (fA iE 1 O a8 NT)<|AG 20 O O (bT Fw) eT (fun w hS=>aC bf O O (hS.cell (i:=1) O (v:=I _) O))<|AG 21 O O (bT Fw) eT (fun w hS=>ah (hs.au.sl.hp hS) ku BP O O J)<|BQ 22 O O (bT Fw) eT (fA uI 1 O yZ O)<|AG 23 O O (bT Fw) eT (fun w hS=>n4 (dv:=me) (off:=1) (cs:=zv _) qI (hs.au.sl.hp hS) dL O O O J (Gd _))<|BQ 24 O O (bT Fw) eT (fA eD 2 O iq O)<|AG 25 O O (bT Fw) eT (fun w hS=>r5 cH O O O (hS.blk (i:=0) O) (Gh _))<|A1 26<|bX O (Aw O (bT Fw)) O eT sR (m6 _ _ _ ((hs.at J J).mono eT.kw)) (aN call80 O O)<|fun w67 mM=>BQ 27 O O (bT Fw) mM (bO O)<|BQ 28 O O O mM (fZ (bT Fw) (v:=B _) O)<|have aEY:=mM;AQ 29 O aEY (dM O (v:=B _) O)<|AD<|bW O (fun h71=> ?_) (fun h71=> ?_)
   .refine SR<|va (v:=B false) rfl<|aa<|ai<|oB O ?_ mM
    (rw[PR (show x.op=8 by omega) (show 0<=x.aX/\x.aX<s.au.length by omega),MB h0 ‹k<_› (aa3 ‹(List.getD x.code _ _).op=2› (nt ‹(!cF _ _)=true›)),qu];done)
   refine ak<|aq<|aE En<|V (ax O O J)<|aI rfl<|aa<| ?_
   refine⟨k+1,aT,Wh.u4.u4.u4.u4.u4.u4.u4.u4.u4.u4.u4,(mM.sub (sQ sR)),(aJ I aO),J,J,?_⟩
   exact fun j a b=>if e:j=k then e▸KG afp (by exact .inr (nf ‹(!cF _ _)=false›))else hg j a J
  refine AK 17 O O (bF Fw) eT<|AK 18 O O (bF Fw) eT<|AK 19 O O (bF Fw) eT<|AK 20 O O (bF Fw) eT<|AK 21 O O (bF Fw) eT<|AK 22 O O (bF Fw) eT<|AK 23 O O (bF Fw) eT<|AK 24 O O (bF Fw) eT<|AK 25 O O (bF Fw) eT<|AK 26 O O (bF Fw) eT<|AK 27 O O (bF Fw) eT<|BQ 28 O O O eT (dM (bF Fw) (v:=B false) O)<|AQ 29 O ZY (dM O (v:=B _) O)<|AD<|cL rfl<|ak<|aq<|aE En<|V (ax O O J)<|aI rfl<|aa<| ?_
  refine⟨k+1,aT,Wh.u4.u4.u4.u4.u4.u4.u4.u4.u4.u4.u4,(eT.sub (sQ sR)),(aJ I aO),J,J,?_⟩
  exact fun j a b=>if e:j=k then e▸KG afp (by exact .inl ‹¬(List.getD x.code _ _).op=2›)else hg j a J
 refine aY (id:=0) rfl<|SR<|va (v:=B true) rfl<|aa<|ai<|oB O ?_ iU
 (rw[PR (show x.op=8 by omega) (show 0<=x.aX/\x.aX<s.au.length by omega),adw ‹¬k<_› hg (nf ‹(!gq _)=false›),nf ‹(!lO s x.aX x.to)=false›];rfl)
theorem CN(s:kW)(op:Int)(v:Value)(l:List El)(hne:1<=l.length)(w:World)(hs:Sl w v 8 l.length (l.flatMap s8))(hsh:ld (Kw w) s)(hT:oG w):Calls Tryz.prog 139 #[.agg (q9 s),I op,v] w (Pure (.agg (jv (qL (MA s.sh op) l))) w):=by
 have hm:=hs.small
 unfold maxLen at hm
 refine eH func139 rfl rfl fun hH=>SR<|gV hH (v:= .agg _) rfl<|fun b3 w1 aZ=>nu aZ (aW jO)<|fun b6 w4 bP=>aa<|SR<| ?_
 refine V (run_move bC) ?_
 refine V (run_move bC) ?_
 refine V (aA (hs.hp bP) O dR O)<|V (fF O O J)<|V (ah (hs.hp bP) dR iq O O J)<|V (lK (hs.hp bP) cH O O O J)<|nu bP (aW jO)<|fun b9 w7 eU=>bt eU (i:=0) O (ez O O O (eU.blk (i:=0) O))<|fun GJ dJ=>aa<|ag<|SR<| ?_
 refine V (run_move bC) ?_
 refine V (aA (hs.hp dJ) O dR O)<|V (fF O O J)<|aI rfl<|aa<|ay<|bk (G:=Int×El) (fun⟨k,e1⟩ s' w'=>(Fr (8::(rg 18 19 [])) _ s')/\(Hp w w' (.blk b9 (.cells (jv e1) 37 (0,0))::_))/\(s' 8=I k)/\(-1<=k)/\(k<=(l.length:Int)-2)/\(e1=qL (MA s.sh op) (l.drop (k+1).toNat))) (fun⟨k,e1⟩=>(k+1).toNat) (((l.length:Int)-2,(l.getD ((l.length:Int)-1).toNat dH))) ⟨Fr.refl _ _,dJ,rfl,J,J,(by rw[show((l.length:Int)-2+1).toNat=l.length-1 by omega,YO (by intro h;rw[h]at hne;simp at hne)];congr 1;omega)⟩<| ?_
 rintro⟨k,e1⟩ aeg Bv ⟨oz,cJ,Nz,h0,hk,he⟩
 obtain⟨qV,AV,CG,V0,Wl⟩:=oz.w5 1 2 3 6 7
 refine ag<|SR<|aE Nz<|V (dD O O)<|aa<|aD O (fun KQ=> ?_) (fun KQ=> ?_)
 .refine ak<|ag<|ay<|ag<|SR<|aE qV<|V (bN O O)<|aa<|aD O (fun wc=> ?_) (fun wc=> ?_)
  .refine ag<|gK aP cJ (sQ sR)<|fun OM dQ=>have qo:=dQ.sub (sQ sR);AT 0 O qo (fun w hS=>cM (cs:=[B _,_]) dL O O CG (bp (hS.blk (i:=1) O)))<|AQ 1 O qo (run_move AV)<|AQ 2 O qo (run_move Nz)<|AT 3 O qo (fun w hS=>ah (hs.hp hS) dR iq O O J)<|AT 4 O qo (fun w hS=>lK (hs.hp hS) cH O O O J)<|A1 5<|cr O aH O dQ (sQ sR) (dW cH O O Wl (dQ.blk (i:=0) O))<|A1 6<|bX O aH O dQ (sQ sR) (S6 _ _ _ _ (hsh.mono dQ.kw) (hT.hp dQ)) (bB call170 O O O)<|fun Qu dm=>A1 7<|dU O aH dm (j:=0) O (sQ sR) (ez O Wl O (dm.blk (i:=0) O))<|fun w25 kG=>AD<|aY (id:=1) rfl<|aq<|aE Nz<|V (fF O O J)<|aI rfl<|aa<| ?_
   refine⟨(k-1,_),aT,oz.u4.u4.u4.u1.u1,kG,(aJ I aO),J,J,?_⟩
   (rw[show(k-1+1).toNat=k.toNat by omega,aa1 J J,<-he];exact awF ‹op=3›)
  refine ak<|gK aP cJ (sQ sR)<|fun w27 gk=>have Fv:=gk.sub (sQ sR);AQ 0 O Fv (run_move AV)<|AQ 1 O Fv (run_move Nz)<|AT 2 O Fv (fun w hS=>ah (hs.hp hS) dR iq O O J)<|AT 3 O Fv (fun w hS=>lK (hs.hp hS) cH O O O J)<|A1 4<|cr O aH O gk (sQ sR) (dW cH O O Wl (gk.blk (i:=0) O))<|A1 5<|bX O aH O gk (sQ sR) (S7 _ _ _) (aN call171 O O)<|fun w31 fJ=>A1 6<|dU O aH fJ (j:=0) O (sQ sR) (ez O Wl O (fJ.blk (i:=0) O))<|fun w35 oe=>AD<|aq<|aE Nz<|V (fF O O J)<|aI rfl<|aa<| ?_
  refine⟨(k-1,_),aT,oz.u4.u4.u4.u1,oe,(aJ I aO),J,J,?_⟩
  (rw[show(k-1+1).toNat=k.toNat by omega,aa1 J J,<-he];exact awG ‹¬op=3›)
 refine aY (id:=0) rfl<|SR<|V (dW cH O O Wl (cJ.blk (i:=0) O))<|bt cJ (i:=1) O (ez O V0 O (cJ.blk (i:=1) O))<|fun w37 we=>aa<|ai<|tW O V0 we (i:=1) O cH O nT ⟨?_,we.below⟩
 (exact aJ Value.agg (rT (by rw[he,show(k+1).toNat=0 by omega];exact fun _ _=>rfl)))
set_option maxHeartbeats 1000000 in
theorem Wm(s:kW)(v:Value)(l:List dz)(u:Value)(vs:List El)(hl:l.length<=1000)(w:World)(hs:Sl w v 10 l.length (l.flatMap j6))(ht:Sl w u 8 vs.length (vs.flatMap s8))(hsh:ld (Kw w) s)(hT:oG w):Calls Tryz.prog 96 #[.agg (q9 s),v,u] w (Pure (.tuple #[.agg (jv (fY s.sh l vs).1),B (fY s.sh l vs).2]) w):=by
 have hm:=hs.small
 unfold maxLen at hm
 have Ol:=ht.small
 unfold maxLen at Ol
 refine eH func96 rfl rfl fun hH=>SR<|gV hH (v:= .agg _) rfl<|fun b3 w1 aZ=>nu aZ (aW jO)<|fun b6 w4 bP=>va (v:=B false) rfl<|aa<|ag<|SR<| ?_
 refine V (run_move bC) ?_
 refine aG O bP (GZ _ _ _ (hs.hp bP)) (an call103 O)<|fun w7 eU=>V (bO O)<|aa<|bW O (fun h11=> ?_) (fun h11=> ?_)
 .refine SR<|V (dx (vs:=[]) O (yq))<|bt eU (i:=0) O (ez O O O (eU.blk (i:=0) O))<|fun Bv cm=>va (v:=B false) rfl<|aa<|ai<|PE O O O cm (i:=0) O cH O nT ⟨?_,cm.below⟩
  (rw[awE (nt ‹(!gq l)=true›)];rfl)
 refine ak<|SR<|va (v:= .slice none 0 0) rfl<|have cg:=eU.fx 37 8;aa<|ag<|SR<| ?_
 refine V (run_move bC) ?_
 refine V (aA (hs.hp cg) O gI O)<|aE (v:=I 0) rfl<|aa<|ay<|have hr:gq l=true:=nf ‹(!gq l)=false›;bk (G:=Int×(List El)×Value) (fun⟨k,st,v8⟩ s' w'=>(Fr (7::8::(10::11::(rg 18 53 []))) _ s')/\(Hp w w' (.row v8 37 8 (st.length) (st.flatMap s8)::_))/\(s' 8=v8)/\(s' 18=I k)/\(0<=k)/\(k<=l.length)/\(ix s.sh vs l k=some st)/\(jx l k=some (st.length:Int))) (fun⟨k,st,v8⟩=>(l.length-k).toNat) ((0,[],(.slice none 0 0:Value))) ⟨Fr.refl _ _,cg,rfl,rfl,J,J,rfl,Dr l⟩<| ?_
 rintro⟨k,st,v8⟩ aNn SY ⟨ZZ,fp,QC,CO,h0,hk,hst,hdp⟩
 obtain⟨apX,ax6,QD,atA,atB⟩:=ZZ.w5 2 3 6 16 17
 have hdk:=Sd h0 hk hdp
 refine SR<|V (aM CO atB)<|aa<|ag<|aD O (fun J6=> ?_) (fun J6=> ?_)
 .refine ak<|ag<|ay<|SR<|V (ah (hs.hp fp) gI nR atA CO J)<|V (eF (dv:=cB) gj (hs.hp fp) eD O O O J)<|nu fp (aW CB)<|fun b20 Ou gW=>bt gW (i:=0) O (dF (c':=(j6 _).toArray) O O O (yd _) (gW.blk (i:=0) O) O)<|fun Qu dm=>aa<|SR<|V (fA eD 0 O a8 O)<|lI bf dm 0 O O rfl<|aa<|ay<|SR<|V (bN O O)<|aB rfl<|aa<|aD O (fun AM=> ?_) (fun AM=> ?_)
  .refine ag<|SR<|V (fA eD 1 O a8 O)<|lI bf dm 0 O O rfl<|V (aM O O)<|mB rfl<|bM 47 O (fun VY=> ?_) (fun VY=> ?_)
   .refine aE (v:=B true) rfl<|aa<|cC rfl<|SR<|V (dx (vs:=[]) O (yq))<|bt dm (i:=2) O (ez O QD O (dm.blk (i:=2) O))<|fun w27 gk=>va (v:=B false) rfl<|aa<|ai<|PE O QD O gk (i:=2) O cH O nT ⟨?_,gk.below⟩
    (rw[aaZ h0 ‹k<_› hst ‹(List.getD l k.toNat cB).op=1› J];rfl)
   refine V (fA eD 1 O a8 O)<|lI bf dm 0 O O rfl<|aE apX<|V (aA (ht.hp dm) O dR O)<|V (dD O O)<|mB rfl<|aa<|aD O (fun GI=> ?_) (fun GI=> ?_)
   .refine SR<|V (dx (vs:=[]) O (yq))<|bt dm (i:=2) O (ez O QD O (dm.blk (i:=2) O))<|fun w31 fJ=>va (v:=B false) rfl<|aa<|ai<|PE O QD O fJ (i:=2) O cH O nT ⟨?_,fJ.below⟩
    (rw[aaZ h0 ‹k<_› hst ‹(List.getD l k.toNat cB).op=1› J];rfl)
   refine ak<|aq<|aE QC<|aE apX<|V (fA eD 1 O a8 O)<|lI bf dm 0 O O rfl<|V (ah (ht.hp dm) dR iq O O J)<|V (lK (ht.hp dm) cH O O O J)<|xP 1 1 dm (rY dR O O O O)<|fun b35 w33 ni=> ?_
   (try simp only[o4]at ni)
   refine jI O ni (i:=2) O (Hp.oQ fK ni (i:=0) (l:=[_]) O kU) O O dR O O (size:=8) (bytes:=64) O O O az (aaV _) (by show(st.length+1)*_<=_;omega) afq<|fun v36 w37 we=> ?_
   refine V (run_assign bC) ?_
   refine aa<|aq<|V (ax CO O J)<|mI rfl<|aa<| ?_
   refine⟨(k+1,st++[vs.getD (l.getD k.toNat cB).n.toNat dH],v36),aT,ZZ.u4.u4.u4.u4.u4.u4.u4.u1,(Hp.conv (we.sub (sQ (sQ sR))) (by simp;done)),rfl,(aJ I aO),J,J,?_,?_⟩
   .exact aml h0 ‹k<_› hst ‹(List.getD l k.toNat cB).op=1› ⟨J,J⟩
   (rw[jS h0 ‹k<_›,hdp,zA (.inl ‹(List.getD l k.toNat cB).op=1›)];simp;done)
  refine SR<|V (bN O O)<|aB rfl<|aa<|aD O (fun h40=> ?_) (fun h40=> ?_)
  .refine aq<|aE QC<|V (fA eD 2 O iq O)<|V (r5 cH O O O (dm.blk (i:=0) O) (Gh _))<|xP 1 1 dm (rY dR O O O O)<|fun b43 w41 yx=> ?_
   (try simp only[o4]at yx)
   refine jI O yx (i:=2) O (Hp.oQ fK yx (i:=0) (l:=[_]) O kU) O O dR O O (size:=8) (bytes:=64) O O O az (aaV _) (by show(st.length+1)*_<=_;omega) afq<|fun v44 w45 sx=> ?_
   refine V (run_assign bC) ?_
   refine aa<|aq<|V (ax CO O J)<|mI rfl<|aa<| ?_
   refine⟨(k+1,st++[(l.getD k.toNat cB).c],v44),aT,ZZ.u4.u4.u4.u4.u1.u1,(Hp.conv (sx.sub (sQ (sQ sR))) (by simp;done)),rfl,(aJ I aO),J,J,?_,?_⟩
   .exact arI h0 ‹k<_› hst ‹(List.getD l k.toNat cB).op=2›
   (rw[jS h0 ‹k<_›,hdp,zA (.inr ‹(List.getD l k.toNat cB).op=2›)];simp;done)
  refine SR<|aE QC<|V (aA (dm.sl (i:=1) O) O dR O)<|V (fA eD 1 O a8 O)<|lI bf dm 0 O O rfl<|V (fF O O (by have hq:=(uM hr h0 ‹k<_› hdp ‹¬(List.getD l k.toNat cB).op=1› ‹¬(List.getD l k.toNat cB).op=2›);omega))<|aI rfl<|aa<|have hpo:=(uM hr h0 ‹k<_› hdp ‹¬(List.getD l k.toNat cB).op=1› ‹¬(List.getD l k.toNat cB).op=2›);gK aP dm (sP (sQ sR))<|fun w47 nj=>have Wn:=nj.sub (sP (sQ sR));AQ 0 O Wn (run_move QC)<|AQ 1 O Wn (mV (I _) O)<|AQ 2 O Wn (mV (I _) O)<|AT 4 O Wn (fun w hS=>cM (cs:=[B _,_]) dL O O ax6 (bp (hS.blk (i:=2) O)))<|AQ 5 O Wn (fA eD 0 O a8 O)<|tI 6 O Wn bf 0 O O rfl<|AQ 7 O Wn (run_move QC)<|AQ 8 O Wn (mV (I _) O)<|gD 3 9 aP ?_ ?_
  .refine cr O aH O nj (sP (sQ sR)) (u9 (nj.sl (i:=1) O) dR iq O O O J)<|A1 9<|cr O aH O nj (sP (sQ sR)) (gh (nj.sl (i:=1) O) dR iq O O J)<|A1 10<|bX O aH O nj (sP (sQ sR)) (CN s (l.getD k.toNat cB).op _ (st.drop ((st.length:Int)-(l.getD k.toNat cB).n).toNat) Ls _ (Sl.frE fK (nj.sl (i:=1) O) _ J) (hsh.mono nj.kw) (hT.hp nj)) (bB call139 O O O)<|fun w53 gH=>A1 11<|cK O aH O gH (sP (sQ sR)) (f:=fun b=> .slice (some ⟨b,0,none⟩) 1 1) (rY dR O O O O)<|fun b57 w55 oZ=> ?_
   (try simp only[o4]at oZ)
   refine A1 12<|Si O aH O oZ (j:=2) O (q:=(((st.length:Int)-(l.getD k.toNat cB).n)).toNat) J (fun _=>(sQ (sP (sQ sR)))) (Hp.oQ fK oZ (i:=0) (l:=[_]) O kU) O O dR O O (size:=8) (bytes:=64) O O O aF Ry Rx<|fun v60 w61 tL=> ?_
   refine AQ 13 O (tL.sub (sQ (sP (sQ sR)))) (run_assign bC) ?_
   refine AD<|aq<|V (ax CO O J)<|mI rfl<|aa<| ?_
   refine⟨(k+1,st.take ((st.length:Int)-(l.getD k.toNat cB).n).toNat++[qL (MA s.sh (l.getD k.toNat cB).op) (st.drop ((st.length:Int)-(l.getD k.toNat cB).n).toNat)],v60),aT,ZZ.u4.u4.u4.u4.u4.u4.u4.u4,(Hp.conv (tL.sub (sQ (sQ sR))) RA),rfl,(aJ I aO),J,J,?_,?_⟩
   .exact aa0 h0 ‹k<_› hst ‹¬(List.getD l k.toNat cB).op=1› ‹¬(List.getD l k.toNat cB).op=2› O Rw
   (have hq:=(uM hr h0 ‹k<_› hdp ‹¬(List.getD l k.toNat cB).op=1› ‹¬(List.getD l k.toNat cB).op=2›);rw[hq.2.2,cZ,eP,gN];congr 1<;>omega)
  refine cr O aH O nj (sP (sQ sR)) (gh (nj.sl (i:=1) O) dR iq O O J)<|gD 3 10 aP ?_ ?_
  .refine cr O aH O nj (sP (sQ sR)) (u9 (nj.sl (i:=1) O) dR iq O O O J)<|A1 10<|bX O aH O nj (sP (sQ sR)) (CN s (l.getD k.toNat cB).op _ (st.drop ((st.length:Int)-(l.getD k.toNat cB).n).toNat) Ls _ (Sl.frE fK (nj.sl (i:=1) O) _ J) (hsh.mono nj.kw) (hT.hp nj)) (bB call139 O O O)<|fun w67 mM=>A1 11<|cK O aH O mM (sP (sQ sR)) (f:=fun b=> .slice (some ⟨b,0,none⟩) 1 1) (rY dR O O O O)<|fun b71 w69 vE=> ?_
   (try simp only[o4]at vE)
   refine A1 12<|Si O aH O vE (j:=2) O (q:=(((st.length:Int)-(l.getD k.toNat cB).n)).toNat) J (fun _=>(sQ (sP (sQ sR)))) (Hp.oQ fK vE (i:=0) (l:=[_]) O kU) O O dR O O (size:=8) (bytes:=64) O O O aF Ry Rx<|fun v74 w75 rq=> ?_
   refine AQ 13 O (rq.sub (sQ (sP (sQ sR)))) (run_assign bC) ?_
   refine AD<|aq<|V (ax CO O J)<|mI rfl<|aa<| ?_
   refine⟨(k+1,st.take ((st.length:Int)-(l.getD k.toNat cB).n).toNat++[qL (MA s.sh (l.getD k.toNat cB).op) (st.drop ((st.length:Int)-(l.getD k.toNat cB).n).toNat)],v74),aT,ZZ.u4.u4.u4.u4.u4.u4.u4.u4,(Hp.conv (rq.sub (sQ (sQ sR))) RA),rfl,(aJ I aO),J,J,?_,?_⟩
   .exact aa0 h0 ‹k<_› hst ‹¬(List.getD l k.toNat cB).op=1› ‹¬(List.getD l k.toNat cB).op=2› O Rw
   (have hq:=(uM hr h0 ‹k<_› hdp ‹¬(List.getD l k.toNat cB).op=1› ‹¬(List.getD l k.toNat cB).op=2›);rw[hq.2.2,cZ,eP,gN];congr 1<;>omega)
  refine bX O aH O nj (sP (sQ sR)) (CN s (l.getD k.toNat cB).op _ (st.drop ((st.length:Int)-(l.getD k.toNat cB).n).toNat) Ls _ (Sl.frE fK (nj.sl (i:=1) O) _ J) (hsh.mono nj.kw) (hT.hp nj)) (bB call139 O O O)<|fun w77 Kb=>gD 3 11 aP ?_ ?_
  .refine cr O aH O Kb (sP (sQ sR)) (u9 (Kb.sl (i:=1) O) dR iq O O O J)<|A1 11<|cK O aH O Kb (sP (sQ sR)) (f:=fun b=> .slice (some ⟨b,0,none⟩) 1 1) (rY dR O O O O)<|fun b83 w81 tM=> ?_
   (try simp only[o4]at tM)
   refine A1 12<|Si O aH O tM (j:=2) O (q:=(((st.length:Int)-(l.getD k.toNat cB).n)).toNat) J (fun _=>(sQ (sP (sQ sR)))) (Hp.oQ fK tM (i:=0) (l:=[_]) O kU) O O dR O O (size:=8) (bytes:=64) O O O aF Ry Rx<|fun v86 w87 Fx=> ?_
   refine AQ 13 O (Fx.sub (sQ (sP (sQ sR)))) (run_assign bC) ?_
   refine AD<|aq<|V (ax CO O J)<|mI rfl<|aa<| ?_
   refine⟨(k+1,st.take ((st.length:Int)-(l.getD k.toNat cB).n).toNat++[qL (MA s.sh (l.getD k.toNat cB).op) (st.drop ((st.length:Int)-(l.getD k.toNat cB).n).toNat)],v86),aT,ZZ.u4.u4.u4.u4.u4.u4.u4.u4,(Hp.conv (Fx.sub (sQ (sQ sR))) RA),rfl,(aJ I aO),J,J,?_,?_⟩
   .exact aa0 h0 ‹k<_› hst ‹¬(List.getD l k.toNat cB).op=1› ‹¬(List.getD l k.toNat cB).op=2› O Rw
   (have hq:=(uM hr h0 ‹k<_› hdp ‹¬(List.getD l k.toNat cB).op=1› ‹¬(List.getD l k.toNat cB).op=2›);rw[hq.2.2,cZ,eP,gN];congr 1<;>omega)
  refine cK O aH O Kb (sP (sQ sR)) (f:=fun b=> .slice (some ⟨b,0,none⟩) 1 1) (rY dR O O O O)<|fun b91 w89 tN=> ?_
  (try simp only[o4]at tN)
  refine A1 3<|cr O aH O tN (sQ (sP (sQ sR))) (u9 (tN.sl (i:=2) O) dR iq O O O J)<|A1 12<|Si O aH O tN (j:=2) O (q:=(((st.length:Int)-(l.getD k.toNat cB).n)).toNat) J (fun _=>(sQ (sP (sQ sR)))) (Hp.oQ fK tN (i:=0) (l:=[_]) O kU) O O dR O O (size:=8) (bytes:=64) O O O aF Ry Rx<|fun v96 w97 G0=> ?_
  refine AQ 13 O (G0.sub (sQ (sP (sQ sR)))) (run_assign bC) ?_
  refine AD<|aq<|V (ax CO O J)<|mI rfl<|aa<| ?_
  refine⟨(k+1,st.take ((st.length:Int)-(l.getD k.toNat cB).n).toNat++[qL (MA s.sh (l.getD k.toNat cB).op) (st.drop ((st.length:Int)-(l.getD k.toNat cB).n).toNat)],v96),aT,ZZ.u4.u4.u4.u4.u4.u4.u4.u4,(Hp.conv (G0.sub (sQ (sQ sR))) RA),rfl,(aJ I aO),J,J,?_,?_⟩
  .exact aa0 h0 ‹k<_› hst ‹¬(List.getD l k.toNat cB).op=1› ‹¬(List.getD l k.toNat cB).op=2› O Rw
  (have hq:=(uM hr h0 ‹k<_› hdp ‹¬(List.getD l k.toNat cB).op=1› ‹¬(List.getD l k.toNat cB).op=2›);rw[hq.2.2,cZ,eP,gN];congr 1<;>omega)
 refine aY (id:=0) rfl<|SR<|aE QC<|V (ah (fp.sl (i:=0) O) dR iq O O afu)<|V (lK (fp.sl (i:=0) O) cH O O O afu)<|bt fp (i:=1) O (ez O QD O (fp.blk (i:=1) O))<|fun w99 vF=>va (v:=B true) rfl<|aa<|ai<|PE O QD O vF (i:=1) O cH O nT ⟨?_,vF.below⟩
 (rw[Sf hr hk ‹¬k<_› hst];rfl)
theorem lj(b:Nat)(r:Rl)(d s:Int)(vw vj:Value)(a:BitVec 64)(w:World)(hb:w.heap[b]?=some (.cells (k9 r d s vw vj).toArray 212 (0,0)))(hW:Sl w vw 1 (n8 r (pts r).toNat).length ((n8 r (pts r).toNat).map U)):Calls Tryz.prog 174 #[.pointer (some ⟨b,0,none⟩),U a] w (Pure (I (D8 r a)) w):=by
 have hp:=dr r
 have hpp:pts r=max 0 (min r.n 64):=rfl
 have Z0:=zK (r:=r) (k:=(pts r).toNat)
 refine eH func174 rfl rfl fun hH=>SR<|va (v:=I 0) rfl<|aa<|ag<|SR<|aE (v:=Pn _ _) rfl<|V (af O)<|V (fA mS 68 O jh O)<|V (aC c8 O O (hH.eE hb Ea))<|V (aA (hW.hp hH) O c8 O)<|aE (v:=I 0) rfl<|aa<|ay<|bk (G:=Int) (fun k s' w'=>(Fr (rg 4 3 (rg 12 10 [])) _ s')/\(Hp w w' _)/\(s' 12=I k)/\(0<=k)/\(k<=pts r)/\(∀j:Int,0<=j->j<k->bU r j≠a)) (fun k=>(pts r-k).toNat) (0) ⟨Fr.refl _ _,hH,rfl,J,J,fun j a b=>absurd b J⟩<| ?_
 rintro k sg1 w1 ⟨ug,iI,ab0,h0,hk,hf⟩
 obtain⟨zT,aya,ayb⟩:=ug.w3 1 10 11
 refine SR<|V (aM ab0 ayb)<|aa<|ag<|aD O (fun h3=> ?_) (fun h3=> ?_)
 .refine ak<|ag<|ay<|SR<|aE ab0<|V (ah (hW.hp iI) c8 dg aya ab0 J)<|V (aC dZ O O (r7 (hW.hp iI) J))<|aI rfl<|aU rfl<|aa<|SR<|mU rfl<|aE zT<|V (iZ O O)<|aa<|aD O (fun h5=> ?_) (fun h5=> ?_)
  .refine SR<|mI rfl<|aI rfl<|aa<|ai<|oI O ?_ iI
   exact(arV h0 J aK hf).symm
  refine ak<|aq<|V (ax ab0 O J)<|mI rfl<|aa<| ?_
  refine⟨k+1,aT,ug.u4.u4.u1.u1.u1,iI,(aJ I aO),J,J,?_⟩
  exact fun j a b=>if e:j=k then e▸‹¬bU r k=_›else hf j a J
 refine aY (id:=0) rfl<|SR<|va (v:=I (-1)) rfl<|aa<|ai<|oI O ?_ iI
 exact(awS (k:=k) J hf).symm
set_option maxHeartbeats 1000000 in
theorem Fy(W0:World)(b:Nat)(r:Rl)(L:List a7)(w:World)(hT:oG W0)(hH:Hp W0 w (.blk b (.cells (k9 r 0 1 (.slice none 0 0) (.slice none 0 0)).toArray 212 (0,0))::L)):Calls Tryz.prog 173 #[.pointer (some ⟨b,0,none⟩)] w (jj fun u w'=>u= .tuple #[]/\∃(v1 v2:Value) (rs:List Su) (Z:List a7),IA (Kz KN Z) r v1 v2 rs/\Hp W0 w' (.blk b (.cells (k9 r 0 1 (v1) (v2)).toArray 212 (0,0))::(Z++L))):=by
 have hp:=dr r
 have hpp:pts r=max 0 (min r.n 64):=rfl
 have Z0:=zK (r:=r) (k:=(pts r).toNat)
 refine en func173 rfl rfl<|have hN:=(hH.fx 100 1).fx 35 1;SR<|aE (v:=Pn _ _) rfl<|V (af O)<|V (fA mS 0 O ij O)<|V (fA bL 0 O a8 O)<|V (aC bf O O (hN.cell (i:=2) O awT))<|V (uP O O)<|V (FO O O)<|aI rfl<|aa<|ag<|SR<|mI rfl<|aE (v:=I 0) rfl<|aa<|ay<|bk (G:=Int×Value) (fun⟨k,v1⟩ s' w'=>(Fr (3::(rg 17 19 [])) _ s')/\(Hp W0 w' (.row v1 35 1 (n8 r (k).toNat).length ((n8 r (k).toNat).map U)::_:: .blk b (.cells (k9 r 0 1 (v1) (.slice none 0 0)).toArray 212 (0,0))::_))/\(s' 17=I k)/\(0<=k)/\(k<=pts r)) (fun⟨k,v1⟩=>(pts r-k).toNat) ((0,.slice none 0 0)) ⟨Fr.refl _ _,hN,rfl,J,J⟩<| ?_
 rintro⟨k,v1⟩ sg1 w1 ⟨ug,iI,ajK,h0,hk⟩
 obtain⟨lX,ajp,ayc⟩:=ug.w3 0 2 16
 have hwk:=zK (r:=r) (k:=k.toNat)
 refine SR<|V (aM ajK ayc)<|aa<|ag<|aD O (fun h3=> ?_) (fun h3=> ?_)
 .refine ak<|E4 (G:=(Value)) iI (3::(rg 19 16 [])) (fun(L:List a7) (v3:(Value))=>((L).set 2 (.blk b (.cells (k9 r 0 1 (v3) (.slice none 0 0)).toArray 212 (0,0)))).set 0 (.row v3 35 1 (n8 r ((k+1)).toNat).length ((n8 r ((k+1)).toNat).map U))) (fun(v3:(Value)) s'=>True) ?_ ?_
  .refine ay<|SR<|aE ajK<|aI rfl<|aa<|gK aP iI (sQ (sP (sQ sR)))<|fun w4 bP=>have OL:=bP.sub (sQ (sP (sQ sR)));AQ 0 O OL (run_move lX)<|AQ 1 O OL (run_move lX)<|AQ 2 O OL (af O)<|AQ 3 O OL (fA mS 68 O jh O)<|AQ 5 O OL (run_move lX)<|AQ 6 O OL (af O)<|AQ 7 O OL (fA mS 0 O ij O)<|AQ 9 O OL (mV (I _) O)<|gD 4 8 aP ?_ ?_
   .refine cr O aH O bP (sQ (sP (sQ sR))) (aC c8 O O (bP.cell (i:=2) O Ea))<|A1 8<|cr O aH O bP (sQ (sP (sQ sR))) (IB bL O O O (bP.blk (i:=2) O))<|A1 10<|bX O aH O bP (sQ (sP (sQ sR))) (oA _ _ _ (hT.hp bP)) (aN HJ O O)<|fun GJ dJ=>A1 11<|cK O aH O dJ (sQ (sP (sQ sR))) (f:=fun b=> .slice (some ⟨b,0,none⟩) 1 1) (cA c8 O O (sz:=1) (vs:=[U _]) O O az az O O)<|fun b14 Bv cm=> ?_
    (try simp only[o4]at cm)
    refine A1 12<|lJ O aH O cm (j:=1) O (fun _=>(sQ (sQ (sP (sQ sR))))) (cm.dV (i:=0) (n:=1) (sz:=1) O O az) O O c8 O O (size:=1) (bytes:=8) O O O az iF J gC<|fun v17 SY cI=> ?_
    simp only[z2,gU,pull]at cI
    refine AQ 13 O (cI.sub (sQ (sQ (sP (sQ sR))))) (af O)<|AQ 14 O (cI.sub (sQ (sQ (sP (sQ sR))))) (fA mS 68 O jh O)<|A1 15<|dU O aH cI (j:=3) O (sQ (sQ (sP (sQ sR)))) (bQ O O (v:=v17) O (bj (cI.get (i:=1) O)).1 (bj (cI.get (i:=1) O)).2 (cI.blk (i:=3) O) Lp)<|fun w20 fB=> ?_
    simp only[z2,gU,pull]at fB
    rw[Gm]at fB
    refine AD ?_
    refine⟨((Fr.refl _ _)).u4.u4.u4.u4.u1,v17,(Hp.conv (fB.sub (sQ sR)) RE),trivial⟩
   refine cr O aH O bP (sQ (sP (sQ sR))) (IB bL O O O (bP.blk (i:=2) O))<|gD 4 10 aP ?_ ?_
   .refine cr O aH O bP (sQ (sP (sQ sR))) (aC c8 O O (bP.cell (i:=2) O Ea))<|A1 10<|bX O aH O bP (sQ (sP (sQ sR))) (oA _ _ _ (hT.hp bP)) (aN HJ O O)<|fun V6 dK=>A1 11<|cK O aH O dK (sQ (sP (sQ sR))) (f:=fun b=> .slice (some ⟨b,0,none⟩) 1 1) (cA c8 O O (sz:=1) (vs:=[U _]) O O az az O O)<|fun b30 w28 gG=> ?_
    (try simp only[o4]at gG)
    refine A1 12<|lJ O aH O gG (j:=1) O (fun _=>(sQ (sQ (sP (sQ sR))))) (gG.dV (i:=0) (n:=1) (sz:=1) O O az) O O c8 O O (size:=1) (bytes:=8) O O O az iF J gC<|fun v33 w31 fJ=> ?_
    simp only[z2,gU,pull]at fJ
    refine AQ 13 O (fJ.sub (sQ (sQ (sP (sQ sR))))) (af O)<|AQ 14 O (fJ.sub (sQ (sQ (sP (sQ sR))))) (fA mS 68 O jh O)<|A1 15<|dU O aH fJ (j:=3) O (sQ (sQ (sP (sQ sR)))) (bQ O O (v:=v33) O (bj (fJ.get (i:=1) O)).1 (bj (fJ.get (i:=1) O)).2 (fJ.blk (i:=3) O) Lp)<|fun w36 yw=> ?_
    simp only[z2,gU,pull]at yw
    rw[Gm]at yw
    refine AD ?_
    refine⟨((Fr.refl _ _)).u4.u4.u4.u4.u1,v33,(Hp.conv (yw.sub (sQ sR)) RE),trivial⟩
   refine bX O aH O bP (sQ (sP (sQ sR))) (oA _ _ _ (hT.hp bP)) (aN HJ O O)<|fun w38 m5=>gD 4 11 aP ?_ ?_
   .refine cr O aH O m5 (sQ (sP (sQ sR))) (aC c8 O O (m5.cell (i:=2) O Ea))<|A1 11<|cK O aH O m5 (sQ (sP (sQ sR))) (f:=fun b=> .slice (some ⟨b,0,none⟩) 1 1) (cA c8 O O (sz:=1) (vs:=[U _]) O O az az O O)<|fun b44 w42 kZ=> ?_
    (try simp only[o4]at kZ)
    refine A1 12<|lJ O aH O kZ (j:=1) O (fun _=>(sQ (sQ (sP (sQ sR))))) (kZ.dV (i:=0) (n:=1) (sz:=1) O O az) O O c8 O O (size:=1) (bytes:=8) O O O az iF J gC<|fun v47 w45 sx=> ?_
    simp only[z2,gU,pull]at sx
    refine AQ 13 O (sx.sub (sQ (sQ (sP (sQ sR))))) (af O)<|AQ 14 O (sx.sub (sQ (sQ (sP (sQ sR))))) (fA mS 68 O jh O)<|A1 15<|dU O aH sx (j:=3) O (sQ (sQ (sP (sQ sR)))) (bQ O O (v:=v47) O (bj (sx.get (i:=1) O)).1 (bj (sx.get (i:=1) O)).2 (sx.blk (i:=3) O) Lp)<|fun w50 wg=> ?_
    simp only[z2,gU,pull]at wg
    rw[Gm]at wg
    refine AD ?_
    refine⟨((Fr.refl _ _)).u4.u4.u4.u4.u1,v47,(Hp.conv (wg.sub (sQ sR)) RE),trivial⟩
   refine cK O aH O m5 (sQ (sP (sQ sR))) (f:=fun b=> .slice (some ⟨b,0,none⟩) 1 1) (cA c8 O O (sz:=1) (vs:=[U _]) O O az az O O)<|fun b54 w52 jU=> ?_
   (try simp only[o4]at jU)
   refine A1 4<|cr O aH O jU (sQ (sQ (sP (sQ sR)))) (aC c8 O O (jU.cell (i:=3) O Ea))<|A1 12<|lJ O aH O jU (j:=1) O (fun _=>(sQ (sQ (sP (sQ sR))))) (jU.dV (i:=0) (n:=1) (sz:=1) O O az) O O c8 O O (size:=1) (bytes:=8) O O O az iF J gC<|fun v59 w57 vD=> ?_
   simp only[z2,gU,pull]at vD
   refine AQ 13 O (vD.sub (sQ (sQ (sP (sQ sR))))) (af O)<|AQ 14 O (vD.sub (sQ (sQ (sP (sQ sR))))) (fA mS 68 O jh O)<|A1 15<|dU O aH vD (j:=3) O (sQ (sQ (sP (sQ sR)))) (bQ O O (v:=v59) O (bj (vD.get (i:=1) O)).1 (bj (vD.get (i:=1) O)).2 (vD.blk (i:=3) O) Lp)<|fun w62 pT=> ?_
   simp only[z2,gU,pull]at pT
   rw[Gm]at pT
   refine AD ?_
   refine⟨((Fr.refl _ _)).u4.u4.u4.u4.u1,v59,(Hp.conv (pT.sub (sQ sR)) RE),trivial⟩
  rintro v3 aNu w64 aye uz-
  simp only[z2,gU,pull]at uz
  have atC:=aye.t1 17 ajK
  refine aq<|V (ax atC O J)<|mI rfl<|aa<| ?_
  refine⟨(k+1,v3),aT,(((ug.u O).t aye O)).u1.u1,(Hp.conv uz aO),(aJ I aO),J,J⟩
 refine aY (id:=0) rfl<|SR<|aE ajp<|aE (v:=I 0) rfl<|aa<|ay<|have Au:k.toNat=(pts r).toNat:=J;?_
 rw[Au]at iI
 refine bk (G:=Int×Value×(List Su)×(List a7)) (fun⟨i,v2,rs,Z1⟩ s' w'=>(Fr (rg 4 5 (rg 37 76 [])) _ s')/\(Hp W0 w' (_:: .row v2 100 1 rs.length (rs.map Su.v):: .blk b (.cells (k9 r 0 1 (v1) (v2)).toArray 212 (0,0))::Z1))/\(s' 37=I i)/\(0<=i)/\(i<=pts r)/\(rs.map Su.l=Fb r (pts r).toNat i.toNat)/\(∃Zr,Z1=Zr++L/\∀x∈rs,pN (Kz KN Zr) x.v 1 x.l.length (x.l.map U))/\(rs.length=i.toNat)) (fun⟨i,v2,rs,Z1⟩=>(pts r-i).toNat) ((0,.slice none 0 0,[],L)) ⟨Fr.refl _ _,iI,rfl,J,J,rfl,⟨[],rfl,fun x hx=>by cases hx⟩,rfl⟩ ?_
 rintro⟨i,v2,rs,Z1⟩ aNv w65 ⟨atD,Bl,Z4,i0,hi,QE,hZ,hln⟩
 have atE:=atD.w1 36
 obtain⟨ayf,apZ⟩:=atD.t2 0 lX 2 ajp
 obtain⟨Zr,rfl,hE⟩:=hZ
 refine SR<|V (aM Z4 atE)<|aa<|ag<|aD O (fun h67=> ?_) (fun h67=> ?_)
 .refine ak<|ag<|ay<|SR<|aE Z4<|aI rfl<|aa<|SR<|aE apZ<|Yf O Bl (f:=fun b=>(.slice (some ⟨b,0,none⟩) (pts r).toNat (pts r).toNat)) (PG (cl:=fun x:BitVec 64=>[U x]) (sz:=1) (z0:=0#64) (n:=(pts r).toNat) (fun _=>rfl) az c8 O O aP O (aJ I (show _=(((pts r).toNat:Nat):Int)from by omega)) (aJ I (show _=(((pts r).toNat:Nat):Int)from by omega)) (by show 8*_<=_;omega) gC)<|fun b68 w69 vE=> ?_
  rw[mk_zero (r:=r) (i:=i)]at vE
  have ajL:=vE.EV (pts r).toNat 1 (by rw[gB,BY,lE]) gC
  refine V (run_assign bC) ?_
  refine aa<|ag<|SR<|aE apZ<|aE (v:=I 0) rfl<|aa<|ay<|bk (G:=Int) (fun j s' w'=>(Fr (rg 6 3 (rg 43 59 [])) _ s')/\(Hp W0 w' (.row (.slice (some ⟨b68,0,none⟩) (pts r).toNat (pts r).toNat) 35 1 (pts r).toNat ((zL r i (pts r).toNat j.toNat).map U)::_))/\(s' 43=I j)/\(0<=j)/\(j<=pts r)) (fun j=>(pts r-j).toNat) (0) ⟨Fr.refl _ _,ajL,rfl,J,J⟩<| ?_
  rintro j aNw w72 ⟨ajM,ajN,Tb,j0,hj⟩
  obtain⟨ap0,ajO,atF⟩:=ajM.w3 4 5 42
  obtain⟨Eo,atG⟩:=ajM.t2 0 ayf 37 Z4
  refine SR<|V (aM Tb atF)<|aa<|ag<|aD O (fun h74=> ?_) (fun h74=> ?_)
  .refine ak<|ag<|ay<|SR<|aE Tb<|aI rfl<|aa<|ag<|gK aP ajN (sQ sR)<|fun w75 rq=>have qp:=rq.sub (sQ sR);AQ 0 O qp (run_move ajO)<|AQ 1 O qp (mV (I _) O)<|AQ 2 O qp (run_move Eo)<|AQ 3 O qp (af O)<|AQ 4 O qp (fA mS 68 O jh O)<|AT 5 O qp (fun w hS=>aC c8 O O (hS.cell (i:=2) O Ea))<|AQ 6 O qp (run_move ap0)<|AT 7 O qp (fun w hS=>ah (hS.sl (i:=0) O) c8 dg O O J)<|AT 8 O qp (fun w hS=>aC dZ O O (r7 (hS.sl (i:=0) O) J))<|AQ 9 O qp (run_move Eo)<|AQ 10 O qp (af O)<|AQ 11 O qp (fA mS 68 O jh O)<|AT 12 O qp (fun w hS=>aC c8 O O (hS.cell (i:=2) O Ea))<|AQ 13 O qp (mV (I _) O)<|AT 14 O qp (fun w hS=>ah (hS.sl (i:=0) O) c8 dg O O J)<|AT 15 O qp (fun w hS=>aC dZ O O (r7 (hS.sl (i:=0) O) J))<|AQ 16 O qp (jH O O)<|A1 17<|cr O aH O rq (sQ sR) (ah (rq.sl (i:=0) O) c8 dg O O J)<|A1 18<|arM (u:=U _) O aH rq (i:=0) O (fun _=>(sQ sR)) J O O O O O J<|fun w81 tM=> ?_
   simp only[z2,gU,pull]at tM
   rw[Ci afr,Gl,lE]at tM
   refine AD<|ag<|ed aP tM<|fun w83 nr=>have ru:=nr;AQ 0 O ru (run_move Eo)<|AQ 1 O ru (af O)<|AQ 2 O ru (fA mS 0 O ij O)<|AT 3 O ru (fun w hS=>IB bL O O O (hS.blk (i:=3) O))<|AQ 4 O ru (run_move Eo)<|AQ 5 O ru (run_move Eo)<|AQ 6 O ru (af O)<|AQ 7 O ru (fA mS 68 O jh O)<|AT 8 O ru (fun w hS=>aC c8 O O (hS.cell (i:=3) O Ea))<|AQ 9 O ru (run_move ap0)<|AT 10 O ru (fun w hS=>ah (hS.sl (i:=1) O) c8 dg O O J)<|AT 11 O ru (fun w hS=>aC dZ O O (r7 (hS.sl (i:=1) O) J))<|AQ 13 O ru (run_move Eo)<|AQ 14 O ru (run_move Eo)<|AQ 15 O ru (af O)<|AQ 16 O ru (fA mS 68 O jh O)<|AT 17 O ru (fun w hS=>aC c8 O O (hS.cell (i:=3) O Ea))<|AQ 18 O ru (mV (I _) O)<|AT 19 O ru (fun w hS=>ah (hS.sl (i:=1) O) c8 dg O O J)<|AT 20 O ru (fun w hS=>aC dZ O O (r7 (hS.sl (i:=1) O) J))<|A1 12<|bX O aH O nr sR (lj _ _ _ _ _ _ _ _ (nr.blk (i:=3) O) (nr.sl (i:=1) O)) (aN call174 O O)<|fun w85 wj=>A1 21<|bX O aH O wj sR (lj _ _ _ _ _ _ _ _ (wj.blk (i:=3) O) (wj.sl (i:=1) O)) (aN call174 O O)<|fun w87 Fx=>A1 22<|bX O aH O Fx sR (z6 _ _ _ _ (hT.hp Fx)) (bB call168 O O O)<|fun w89 tN=>have ajP:=tN;?_
   refine AQ 23 O ajP (run_move bC) ?_
   refine AQ 24 O ajP (bx O (v:=I _) O)<|AQ 25 O ajP (bx O (v:=B _) O)<|AQ 26 O ajP (aV (I _) O)<|AQ 27 O ajP (aV (B _) O)<|AD<|SR<|mB rfl<|aa<|bW O (fun h92=> ?_) (fun h92=> ?_)
   .refine aq<|aE ajO<|mI rfl<|aE Eo<|V (af O)<|V (fA mS 68 O jh O)<|V (aC c8 O O (tN.cell (i:=3) O Ea))<|mI rfl<|V (ah (tN.sl (i:=1) O) c8 dg O O afh)<|V (aC dZ O O (r7 (tN.sl (i:=1) O) afh))<|V (ah (tN.sl (i:=0) O) c8 dg O O J)<|zE (u:=U _) tN (i:=0) O J O O O O O J<|fun w93 wm=> ?_
    simp only[z2,gU,pull]at wm
    rw[Ci afr,Gl,lE]at wm
    refine aa<|aq<|V (ax Tb O J)<|mI rfl<|aa<| ?_
    refine⟨j+1,aT,ajM.u4.u4.u4.u4.u4.u4.u4.u4.u4.u4.u4.u4.u4.u4.u4.u1.u1,(Hp.conv wm (by rw[adI J (adF ‹_=true›).symm];done)),(aJ I aO),J,J⟩
   refine ak<|aq<|V (ax Tb O J)<|mI rfl<|aa<| ?_
   refine⟨j+1,aT,ajM.u4.u4.u4.u4.u4.u4.u4.u4.u4.u4.u4.u4.u4,(Hp.conv tN (by rw[U2 J (ahE ‹_=false›).symm];done)),(aJ I aO),J,J⟩
  refine aY (id:=4) rfl<|aq<|aE Eo<|aE Eo<|V (af O)<|V (fA mS 69 O sizeOf210 O)<|V (aC Ld O O (ajN.cell (i:=3) O ao3))<|aE ajO<|xP 1 1 ajN (ado (v:=(.slice (some ⟨b68,0,none⟩) (pts r).toNat (pts r).toNat)) O Ld O O O O)<|fun b97 w95 vG=> ?_
  (try simp only[o4]at vG)
  refine jI O vG (i:=3) O (vG.dV (i:=0) (n:=1) (sz:=1) O O az) O O Ld O O (size:=1) (bytes:=24) O O O az iF J gC<|fun v98 w99 vF=> ?_
  simp only[z2,gU,pull]at vF
  refine V (af O)<|V (fA mS 69 O sizeOf210 O)<|bt vF (i:=4) O (bQ O O (v:=v98) O (bj (vF.get (i:=3) O)).1 (bj (vF.get (i:=3) O)).2 (vF.blk (i:=4) O) Lp)<|fun aE8 JA=> ?_
  simp only[z2,gU,pull]at JA
  rw[ahG]at JA
  refine aa<|aq<| ?_
  rw[show j.toNat=(pts r).toNat by omega]at JA
  obtain⟨atI,ayh,ayi,-⟩:=(JA.pj [1]).Yx (KN)
  have vH:Hp _ aE8 (_::_::_::_::(atI++(Zr++L))):=ayh.Jo (L:=[_,_,_,_]) (L':=(Zr++L))
  refine V (ax atG O J)<|mI rfl<|aa<| ?_
  refine⟨(i+1,v98,rs++[Su.mk (.slice (some ⟨b68,0,none⟩) (pts r).toNat (pts r).toNat) (zL r i (pts r).toNat (pts r).toNat)],(atI++(Zr++L))),aT,(((atD.u4.u4).t ajM O)).u4.u4.u4.u1,(Hp.conv (vH.sub (sQ sR)) (by simp only[gz,cZ,lB,BM,gN];done)),(aJ I aO),J,J,?_,?_,?_⟩
  .rw[gz,QE,Y1 i0];rfl
  .exact⟨atI++Zr,(dG _ _ _).symm,ahJ hE ayi⟩
  rw[cZ,gN];omega
 refine aY (id:=2) O ?_
 obtain⟨anR,ayj,ayk,-⟩:=Bl.Yx (KN)
 have G1:Hp _ w65 (_::_::(anR++(Zr++L))):=ayj.Jo (L:=[_,_]) (L':=(Zr++L))
 obtain⟨ayl,aym,ayn,-⟩:=G1.Yx (KN)
 have Ep:Hp _ w65 (_::(ayl++(anR++(Zr++L)))):=aym.Jo (L:=[_]) (L':=(anR++(Zr++L)))
 have ei:i=pts r:=J
 rw[show i.toNat=(pts r).toNat by omega]at QE
 have hTV:IA (Kz KN (ayl++(anR++Zr))) r v1 v2 rs:=⟨ayk.mono (Le.zz (fun x hx=>(bG _ (dy _ hx)))),ayn.mono (Le.zz (fun x hx=>(dy _ hx))),fun x hx=>(hE x hx).mono (Le.zz (fun x hx=>(bG _ (bG _ hx)))),QE⟩
 exact pK O ⟨rfl,v1,v2,rs,_,hTV,by simpa only[dG]using Ep⟩
section
theorem NU(w:World):(callFunc 259 #[]).run Tryz.prog w= .ok (.value (.tuple #[])) w:=run_call_mark0 func259 aP aP aP .disable aP w
theorem QF(w:World):(callFunc 261 #[]).run Tryz.prog w= .ok (.value (.tuple #[])) w:=run_call_mark0 func261 aP aP aP .enable aP w
theorem Z6(a:Addr)(w:World):(callFunc 262 #[.pointer (some a)]).run Tryz.prog w= .ok (.value (.tuple #[])) w:=run_call_marked func262 aP aP aP .acquire aP a w
theorem ajQ(a:Addr)(w:World):(callFunc 264 #[.pointer (some a)]).run Tryz.prog w= .ok (.value (.tuple #[])) w:=run_call_marked func264 aP aP aP .releaseMerge aP a w
theorem ajR(a:Addr)(x:Value)(u:FrameMode)(w:World)(hc:w.cell? a=some x)(hz:w.frozen? a=false):
  CallsD Tryz.prog 237 #[.pointer (some a),.bool true] u w fun e u' w'=>u'=u/\(e= .returned (.tuple #[])/\w'=w.drew.setCell a (.int .u32 1)):=by
 have hc':w.drew.cell? a=some x:=by go_simp
 have hz':w.drew.frozen? a=false:=by go_simp
 have hst:=run_call_store (P:=Tryz.prog) func255 aP aP aP aP (k:= .u32) (y:=1) hc' hz'
 go_enter_d func237,ntmps237
 go_wp2
 go_region_calls
 all_goals(go_end0;exact⟨rfl,rfl⟩)
theorem aeo(a:Addr)(u:FrameMode)(w:World)(hc:w.cell? a=some (.int .i32 1))(hz:w.frozen? a=false):
  CallsD Tryz.prog 236 #[.pointer (some a)] u w fun e u' w'=>u'=u/\(e= .returned (.tuple #[])/\w'=w.setCell a (.int .i32 0)):=by
 have hd:=NU
 have he:=QF
 have hr:=ajQ
 have axB:=run_call_add (P:=Tryz.prog) func265 aP aP aP .i32 aP (y:= -1) (s:=0) hc hz (by simp[go_sem];rfl)
 have hcv:=run_convert_to_unsafe (P:=Tryz.prog) (src:=273) (dst:=277) underlying273 underlying277 aP hc
 go_enter_d func236,ntmps236
 go_wp2
 go_end0
 go_wp2
 go_end0
 exact⟨rfl,rfl⟩
theorem anS(a:Addr)(w:World)(hc:w.cell? a=some (.int .i32 0))(hz:w.frozen? a=false):
  Calls Tryz.prog 235 #[.pointer (some a)] w fun e w'=>e= .returned (.tuple #[])/\w'=w.setCell a (.int .i32 1):=by
 have hd:=NU
 have he:=QF
 have ha:=Z6
 have aNz:=run_call_cas_hit (P:=Tryz.prog) func260 aP aP aP .i32 aP (y:=1) hc hz
 have hc':(w.setCell a (.int .i32 1)).cell? a=some (.int .i32 1):=World.cell?_setCell_same w a _ hc
 have hcv:=run_convert_to_unsafe (P:=Tryz.prog) (src:=273) (dst:=277) underlying273 underlying277 aP hc'
 go_enter func235,ntmps235
 go_wp2
 refine bodyPost_ret (results_none O _ _ _) O ?_
 go_wp2
 go_end0
 exact⟨rfl,rfl⟩
theorem anT{q:Value->World->Prop}{e:Ending}{w:World}(h:jj q e w):∃v,e= .returned v/\q v w:=by
 cases e<;>first|exact⟨_,rfl,h⟩|exact h.elim
set_option maxRecDepth 100000 in
set_option maxHeartbeats 1600000 in
theorem anU(W0 w:World)(b:Nat)(r:Rl)(L:List a7)(hT:oG W0)(hH:Hp W0 w (.blk b (.cells (k9 r 0 0 (.slice none 0 0) (.slice none 0 0)).toArray 212 (0,0))::L)):
  Calls Tryz.prog 207 #[.pointer (some ⟨b,65,none⟩),.func (.func 173) #[.pointer (some ⟨b,0,none⟩)] #[]] w fun e w'=>e= .returned (.tuple #[])/\∃(v1 v2:Value) (rs:List Su) (Z:List a7),IA (Kz KN Z) r v1 v2 rs/\Hp W0 w' (.blk b (.cells (k9 r 1 0 (v1) (v2)).toArray 212 (0,0))::(Z++L)):=by
 have Fw:w.cell? ⟨b,65+1,none⟩=some (.int .i32 0):=hH.cell (i:=0) O ao2
 have f66:w.frozen? ⟨b,65+1,none⟩=false:=hH.fz (i:=0) O
 have iI:=hH.setCell (i:=0) (b:=b) (o:=66) (v:= .int .i32 1) O
 simp only[iM,U3]at iI
 have hl:=Rj (P:=Tryz.prog) func234 aP aP aP .u32 aP (w:=w.setCell ⟨b,65+1,none⟩ (.int .i32 1)) (a:=⟨b,65,none⟩) (x:=0) (iI.cell (i:=0) O aa7)
 have ayo:∀(x:Bool) (w:World),(Op.unary .not (.bool x)).run Tryz.prog w= .ok (.bool (!x)) w:=fun _ _=>rfl
 go_enter_defers func207,ntmps207
 go_wp2_with (go_at_call 235;refine(anS ⟨b,65+1,none⟩ _ Fw f66).mono ?_;rintro e w' ⟨rfl,rfl⟩)
 go_wp2_with (first|(go_at_call 173;refine(Fy W0 b r L _ hT iI).mono ?_;intro e w' hr;obtain⟨v,rfl,rfl,v1,v2,rs,Z,hV,aZ⟩:=anT hr)|(go_at_call 206;go_in))
 refine leaves_cons (f:=237) (args:=#[.pointer (some ⟨b,65,none⟩),.bool true]) aF (by simp[go_sem])<|(ajR ⟨b,65,none⟩ (.int .u32 0) .returning _ (aZ.cell (i:=0) O aa7) (aZ.fz (i:=0) O)).mono<| ?_
 rintro e u' w'' ⟨rfl,rfl,rfl⟩
 have uD:=aZ.drew.setCell (i:=0) (b:=b) (o:=65) (v:= .int .u32 1) O
 simp only[iM,ahH]at uD
 refine leaves_cons (f:=236) (args:=#[.pointer (some ⟨b,66,none⟩)]) (by simp[settle]) (by simp[go_sem])<|(aeo ⟨b,66,none⟩ _ _ (uD.cell (i:=0) O ao2) (uD.fz (i:=0) O)).mono<| ?_
 rintro e u' w'' ⟨rfl,rfl,rfl⟩
 have gy:=uD.setCell (i:=0) (b:=b) (o:=66) (v:= .int .i32 0) O
 simp only[iM,U3]at gy
 simp[Leaves,settle,results,results207]
 exact⟨v1,v2,rs,Z,hV,gy⟩
set_option maxRecDepth 100000 in
set_option maxHeartbeats 1600000 in
theorem ajS(W0 w:World)(b:Nat)(r:Rl)(L:List a7)(hT:oG W0)(hH:Hp W0 w (.blk b (.cells (k9 r 0 0 (.slice none 0 0) (.slice none 0 0)).toArray 212 (0,0))::L)):
  Calls Tryz.prog 172 #[.pointer (some ⟨b,65,none⟩),.func (.func 173) #[.pointer (some ⟨b,0,none⟩)] #[]] w fun e w'=>e= .returned (.tuple #[])/\∃(v1 v2:Value) (rs:List Su) (Z:List a7),IA (Kz KN Z) r v1 v2 rs/\Hp W0 w' (.blk b (.cells (k9 r 1 0 (v1) (v2)).toArray 212 (0,0))::(Z++L)):=by
 have hl:=Rj (P:=Tryz.prog) func234 aP aP aP .u32 aP (hH.cell (i:=0) O aa7)
 have ayo:∀(x:Bool) (w:World),(Op.unary .not (.bool x)).run Tryz.prog w= .ok (.bool (!x)) w:=fun _ _=>rfl
 go_enter func172,ntmps172
 go_wp2_with (first|(go_at_call 207;refine(anU W0 _ b r L hT hH).mono ?_;rintro e w' ⟨rfl,hq⟩)|(go_at_call 206;go_in))
 go_end0
 exact⟨rfl,hq⟩
theorem anV(w:World)(b:Nat)(fv:Value)(h0:w.cell? ⟨b,65,none⟩=some (.int .u32 1)):
  Calls Tryz.prog 172 #[.pointer (some ⟨b,65,none⟩),fv] w fun e w'=>e= .returned (.tuple #[])/\w'=w:=by
 have hl:=Rj (P:=Tryz.prog) func234 aP aP aP .u32 aP h0
 have ayo:∀(x:Bool) (w:World),(Op.unary .not (.bool x)).run Tryz.prog w= .ok (.bool (!x)) w:=fun _ _=>rfl
 go_enter func172,ntmps172
 go_wp2
 go_end0
 exact⟨rfl,rfl⟩
theorem atJ(W0 w:World)(b:Nat)(r:Rl)(Z L:List a7)(hT:oG W0)(hZ:TbZ 212 r b Z)(hH:Hp W0 w (Z++L)):
  Calls Tryz.prog 172 #[.pointer (some ⟨b,65,none⟩),.func (.func 173) #[.pointer (some ⟨b,0,none⟩)] #[]] w (jj fun u w'=>u= .tuple #[]/\∃(v1 v2:Value) (rs:List Su) (Z:List a7),IA (Kz KN Z) r v1 v2 rs/\Hp W0 w' (.blk b (.cells (k9 r 1 0 (v1) (v2)).toArray 212 (0,0))::(Z++L))):=by
 rcases hZ with rfl|⟨v1,v2,rs,Zr,rfl,hV⟩
 .exact(ajS W0 w b r L hT hH).mono fun e w' ⟨he,hq⟩=>by subst he;exact⟨rfl,hq⟩
 exact(anV w b _ (hH.cell (i:=0) O aa7)).mono fun e w' ⟨he,hw⟩=>by subst he hw;exact⟨rfl,v1,v2,rs,Zr,hV,hH⟩
end
theorem DR(W0:World)(b:Nat)(r:Rl)(Z L:List a7)(a c:BitVec 64)(w:World)(hT:oG W0)(hZ:TbZ 212 r b Z)(hH:Hp W0 w (Z++L)):Calls Tryz.prog 142 #[.pointer (some ⟨b,0,none⟩),U a,U c] w (jj fun u w'=>u=U (jL r a c)/\∃Z',TbZ 212 r b Z'/\Hp W0 w' (Z'++L)):=by
 refine en func142 rfl rfl<|SR<|va (v:=U 0#64) rfl<|aa<|SR<|aE (v:=Pn _ _) rfl<|V (af O)<|V (fA mS 65 O sizeOf209 O)<|aE (v:=Pn _ _) rfl<|V (ahK (v:=Pn _ _) O)<|bY O (atJ W0 _ b r Z L hT hZ hH) (aN call172 O O)<| ?_
 rintro _ w1 ⟨rfl,v1,v2,rs,Zr,hV,aZ⟩
 have ha:=ao4 r a
 have hc:=ao4 r c
 have hln:=hV.len
 have hp:=dr r
 refine aa<|SR<|aE (v:=Pn _ _) rfl<|mU rfl<|aG O aZ (lj _ _ _ _ _ _ _ _ (aZ.blk (i:=0) O) ((hV.words).mono (aZ.kz KN.le (fun x hx=>(mT (dy _ hx))))).sl) (aN call174 O O)<|fun w3 gy=>aE (v:=Pn _ _) rfl<|mU rfl<|aG O gy (lj _ _ _ _ _ _ _ _ (gy.blk (i:=0) O) ((hV.words).mono (gy.kz KN.le (fun x hx=>(mT (dy _ hx))))).sl) (aN call174 O O)<|fun w5 iT=>aI rfl<|aI rfl<|aa<|ag<|SR<|mI rfl<|V (aM O O)<|mB rfl<|bM 23 O (fun h8=> ?_) (fun h8=> ?_)
 .refine aE (v:=B true) rfl<|aa<|cC rfl<|SR<|mU rfl<|mU rfl<|V (jH O O)<|aU rfl<|aa<|ai<|iY O (v:=U (jL r a c)) (jW O (aJ U (by exact P3 J))) ⟨rfl,_,.inr ⟨v1,v2,rs,Zr,rfl,hV⟩,iT⟩
 refine mI rfl<|V (aM O O)<|mB rfl<|aa<|aD O (fun h10=> ?_) (fun h10=> ?_)
 .refine SR<|mU rfl<|mU rfl<|V (jH O O)<|aU rfl<|aa<|ai<|iY O (v:=U (jL r a c)) (jW O (aJ U (by exact P3 J))) ⟨rfl,_,.inr ⟨v1,v2,rs,Zr,rfl,hV⟩,iT⟩
 refine ak<|SR<|have hrw:=(hV.row (i:=D8 r a) J).1;have hrl:(rs.getD (D8 r a).toNat ru0).l.length=(pts r).toNat:=(by rw[hrw,BY]);aE (v:=Pn _ _) rfl<|V (af O)<|V (fA mS 69 O sizeOf210 O)<|V (aC Ld O O (iT.cell (i:=0) O ao3))<|mI rfl<|V (ah ((hV.ahI).mono (iT.kz KN.le (fun x hx=>(mT (dy _ hx))))).sl Ld jh O O J)<|V (aC c8 O O (((hV.ahI).mono (iT.kz KN.le (fun x hx=>(mT (dy _ hx))))).sl.cell _ _ (arX J)))<|mI rfl<|V (ah (((hV.row J).2).mono (iT.kz KN.le (fun x hx=>(mT (dy _ hx))))).sl c8 dg O O J)<|V (aC dZ O O ((((hV.row J).2).mono (iT.kz KN.le (fun x hx=>(mT (dy _ hx))))).sl.atU J J))<|aU rfl<|aa<|ai<|iY O (v:=U (jL r a c)) (jW O (aJ U (by rw[hrw,amI J];exact ahF J))) ⟨rfl,_,.inr ⟨v1,v2,rs,Zr,rfl,hV⟩,iT⟩
theorem I1(W0:World)(B:Nat)(tb:JS)(tl:List (Nat×Rl))(Z R:List a7)(a c:El)(w:World)(hT:oG W0)(ZX:∀i,i<8->∀p,tb i=some p->p∈tl)(hB:Kz (Kw W0) R B (.cells (U4 tb).toArray 199 (0,0)))(hZ:vX 212 tl Z)(hH:Hp W0 w (Z++R)):Calls Tryz.prog 141 #[.agg (jv a),.agg (jv c),.pointer (some ⟨B,0,none⟩)] w (jj fun u w'=>u= .agg (jv (oS tb a c))/\∃Z',vX 212 tl Z'/\Hp W0 w' (Z'++R)):=by
 refine en func141 rfl rfl<|SR<|gV hH (v:= .agg _) rfl<|fun b3 w1 aZ=>gV aZ (v:= .agg _) rfl<|fun b6 w4 bP=>nu bP (aW jO)<|fun b9 w7 eU=>aa<|ag<|SR<|V (cM (cs:=U4 tb) XN O O O (bp (eU.kz (Le.refl _) (fun x hx=>(mT (mT (mT (bG _ hx))))) _ _ hB)))<|aE (v:=I 0) rfl<|aa<|ay<|bk (G:=Int×El×(List a7)) (fun⟨k,e1,Z1⟩ s' w'=>(Fr (6::7::(rg 9 25 [])) _ s')/\(Hp W0 w' (_::_:: .blk b3 (.cells (jv e1) 37 (0,0))::Z1))/\(s' 9=I k)/\(0<=k)/\(k<=8)/\(e1=sO (oS tb a c) a k)/\(∃Zt,Z1=Zt++R/\vX 212 tl Zt)) (fun⟨k,e1,Z1⟩=>(8-k).toNat) ((0,a,(Z++R))) ⟨Fr.refl _ _,eU,rfl,J,J,(F9 _ _).symm,⟨_,rfl,hZ⟩⟩<| ?_
 rintro⟨k,e1,Z1⟩ ZQ GJ ⟨sw,bV,NO,h0,hk,hr,hS⟩
 obtain⟨py,Qz,NK,ayp⟩:=sw.w4 3 4 5 8
 obtain⟨Zt,rfl,hZt⟩:=hS
 refine SR<|V (aM NO O)<|aa<|ag<|aD O (fun h12=> ?_) (fun h12=> ?_)
 .refine ak<|ag<|ay<|SR<|aE NO<|V (LB XN isAgg198 sizeOf198 ayp NO J (ar0 _ J))<|aI rfl<| ?_
  refine V (run_assign bC) ?_
  refine aa<|ag<|SR<| ?_
  refine V (run_move bC) ?_
  refine V (P4 underlying198 O O)<|aa<|bW O (fun KQ=> ?_) (fun KQ=> ?_)
  .refine ag<|gK aP bV (sP (sP (sQ (sA sR))))<|fun SY cI=>have s7:=cI.sub (sP (sP (sQ (sA sR))));AQ 0 O s7 (mV (I _) O)<| ?_
   refine AQ 1 O s7 (run_move bC) ?_
   refine AQ 2 O s7 (mV (I _) O)<|AQ 3 O s7 (bg cH dg py O J)<|AQ 5 O s7 (mV (I _) O)<|AQ 6 O s7 (bg cH dg Qz O J)<|tV 7 O s7 dZ 1 O O (n5 _ J)<|A1 4<|cr O aH O cI (sP (sP (sQ (sA sR)))) (aC dZ O O (cI.cell (i:=2) O (n5 _ J)))<|A1 8<| ?_
   obtain⟨⟨bi,ri⟩,hi⟩:=Option.isSome_iff_exists.1 ‹(tb k.toNat).isSome=true›
   obtain⟨z27,Y22,aFb,aFc,ayq⟩:=hZt.pick (ZX _ J _ hi)
   refine xu O aH O (DR W0 bi ri z27 (Y22++([_,_,_]++R)) _ _ _ hT aFb (Hp.awU (A:=[_,_,_]) cI aFc)) (bB call142 (aJ ahL hi) O O) (fun u w' ⟨_,z',hz',h⟩=>let⟨Z',_,q2⟩:=ayq z' hz';Hp.sub (L:=_::_::_::(Z'++R)) (Hp.ao5 (A:=[_,_,_]) h q2) (sP (sP (sQ (sA sR))))) ?_
   rintro _ V6 ⟨rfl,z34,aFd,rp⟩
   obtain⟨ayr,aFe,aFf⟩:=ayq z34 aFd
   have jT:Hp _ V6 (_::_::_::(ayr++R)):=Hp.ao5 (A:=[_,_,_]) rp aFf
   refine AQ 9 O (jT.sub (sP (sP (sQ (sA sR))))) (bg cH dg py O J)<|A1 10<|dU O aH jT (j:=2) O (sP (sP (sQ (sA sR)))) (bQ O O (v:=U _) O O O (jT.blk (i:=2) O) ER)<|fun w37 we=> ?_
   rw[zu]at we
   refine AD<|aY (id:=1) rfl<|aq<|V (ax NO O J)<|mI rfl<|aa<| ?_
   refine⟨(k+1,_,(ayr++R)),aT,sw.u4.u4.u4.u4.u1.u1.u1,we,(aJ I aO),J,J,?_,?_⟩
   .exact ar1 hr h0 hi
   exact⟨_,rfl,aFe⟩
  refine ak<|gK aP bV (sP (sP (sQ sR)))<|fun w39 oy=>have vI:=oy.sub (sP (sP (sQ sR)));AQ 0 O vI (mV (I _) O)<|AQ 1 O vI (bg cH dg py O J)<|AQ 3 O vI (mV (I _) O)<|AQ 4 O vI (bg cH dg Qz O J)<|tV 5 O vI dZ 1 O O (n5 _ J)<|A1 2<|cr O aH O oy (sP (sP (sQ sR))) (aC dZ O O (oy.cell (i:=2) O (n5 _ J)))<|AQ 6 O vI (jH O O)<|AQ 7 O vI (bg cH dg py O J)<|A1 8<|dU O aH oy (j:=2) O (sP (sP (sQ sR))) (bQ O O (v:=U _) O O O (oy.blk (i:=2) O) ER)<|fun w45 sx=> ?_
  rw[zu]at sx
  refine AD<|aq<|V (ax NO O J)<|mI rfl<|aa<| ?_
  refine⟨(k+1,_,(Zt++R)),aT,sw.u4.u4.u4.u4.u1,sx,(aJ I aO),J,J,?_,?_⟩
  .exact awV hr h0 ‹(tb k.toNat).isSome=false›
  exact⟨_,rfl,hZt⟩
 refine aY (id:=0) rfl<|SR<|V (dW cH O O py (bV.blk (i:=2) O))<|bt bV (i:=0) O (ez O NK O (bV.blk (i:=0) O))<|fun w47 nj=>aa<|ai<|tW O NK nj (i:=0) O cH O nT ⟨aJ Value.agg (rT X0),Zt,hZt,nj.sub (sQ (sQ (sQ sR)))⟩
theorem NV(s:kW)(w:World)(hs:ld (Kw w) s):Calls Tryz.prog 98 #[.agg (q9 s)] w (jj fun u w'=>∃(B:Nat) (tb:JS) (tl:List (Nat×Rl)) (Zt:List a7),u= .func (.func 141) #[] #[.pointer (some ⟨B,0,none⟩)]/\ahN s.sh tb/\(∀i,i<8->∀p,tb i=some p->p∈tl)/\vX 212 tl Zt/\Hp w w' (Zt++[.blk B (.cells (U4 tb).toArray 199 (0,0))])):=by
 have xT:=hs.aL.small
 unfold maxLen at xT
 refine eH func98 rfl rfl fun hH=>SR<|gV hH (v:= .agg _) rfl<|fun b3 w1 aZ=>va (v:= .nilFunc) rfl<|aa<|SR<|nu aZ (aW Tryz.zeroValue199)<|fun b6 w4 bP=>aa<|ag<|SR<|V (fA dL 1 O gJ O)<|lV dA bP 1 O O rfl<|V (aA (hs.aL.sl.hp bP) O dA O)<|aE (v:=I 0) rfl<|aa<|ay<|bk (G:=Int×(List (Nat×Rl))×JS×(List a7)) (fun⟨k,tl,tb,Z⟩ s' w'=>(Fr (4::5::(rg 9 19 [])) _ s')/\(Hp w w' (.blk b6 (.cells ((U4 tb).toArray) 199 (0,0))::_::Z))/\(s' 9=I k)/\(0<=k)/\(k<=s.aL.length)/\(IC s.sh k tb)/\(∀i,i<8->∀p,tb i=some p->p∈tl)/\(vX 212 tl Z)) (fun⟨k,tl,tb,Z⟩=>(s.aL.length-k).toNat) ((0,[],tb0,[])) ⟨Fr.refl _ _,bP,rfl,J,J,IC.start _,(fun i _ p hp=>(by cases hp)),rfl⟩<| ?_
 rintro⟨k,tl,tb,Z⟩ sg7 w7 ⟨FL,eN,OS,h0,hk,hTo,ZX,hZ⟩
 obtain⟨aem,aFg,atK⟩:=FL.w3 3 7 8
 refine SR<|V (aM OS atK)<|aa<|ag<|aD O (fun h9=> ?_) (fun h9=> ?_)
 .refine ak<|ag<|ay<|SR<|aE OS<|V (ah (hs.aL.sl.hp eN) dA rM aFg OS J)<|V (eF (dv:=bI) fI (hs.aL.sl.hp eN) cV O O O J)<|nu eN (aW s5)<|fun b12 GJ dJ=>aI rfl<|bt dJ (i:=0) O (rW (hs.at J J) O O O (dJ.blk (i:=0) O))<|fun Bw cg=>aa<|SR<|mI rfl<|V (aM O O)<|mB rfl<|bM 16 O (fun wc=> ?_) (fun wc=> ?_)
  .refine V (fA cV 0 O a8 O)<|lI bf cg 0 O O rfl<|V (bN O O)<|mB rfl<|aa<|aD O (fun pS=> ?_) (fun pS=> ?_)
   .refine aq<|mI rfl<|V (fA cV 2 O ij O)<|V (gE bL O O O (cg.blk (i:=0) O))<|V (dx (vs:=[(0,.agg (dP _))]) O (ad9 _))<|gV cg (v:= .agg _) rfl<|fun b21 VV cS=>V (bg XN sizeOf198 aem O J)<|bt cS (i:=2) O (bQ O O (v:=Pn _ _) O O O (cS.blk (i:=2) O) (by rw[Aq,amK];omega))<|fun OO eO=> ?_
    rw[ahM tb (s.aL.getD k.toNat bI).rel]at eO
    have mK:Hp _ OO (_::_::_::([a7.blk b21 (.cells (k9 (s.aL.getD k.toNat bI).rel 0 0 (.slice none 0 0) (.slice none 0 0)).toArray 212 (0,0))]++Z)):=Hp.Jo (Z:=[a7.blk b21 (.cells (k9 (s.aL.getD k.toNat bI).rel 0 0 (.slice none 0 0) (.slice none 0 0)).toArray 212 (0,0))]) (L:=[_,_,_]) (L':=Z) eO
    refine aa<|aq<|V (ax OS O J)<|mI rfl<|aa<| ?_
    refine⟨(k+1,((b21,(s.aL.getD k.toNat bI).rel)::tl),U5 tb k.toNat (b21,(s.aL.getD k.toNat bI).rel),([a7.blk b21 (.cells (k9 (s.aL.getD k.toNat bI).rel 0 0 (.slice none 0 0) (.slice none 0 0)).toArray 212 (0,0))]++Z)),aT,FL.u4.u4.u4.u4.u4.u1,(Hp.conv (mK.sub (sQ sR)) aO),(aJ I aO),J,J,?_,?_,?_⟩
    .exact hTo.put h0 (by rw[rV];omega) (by rw[iK];assumption) (by rw[iK];rfl)
    .exact amM ZX
    exact vX.cons hZ
   refine ak<|aq<|V (ax OS O J)<|mI rfl<|aa<| ?_
   refine⟨(k+1,tl,tb,Z),aT,FL.u4.u4.u4.u1.u1.u1,(Hp.conv (cg.sub (sQ sR)) aO),(aJ I aO),J,J,?_,?_,?_⟩
   .exact hTo.skip h0 afe
   .exact ZX
   exact hZ
  refine aE (v:=B false) rfl<|aa<|cL rfl<|ak<|aq<|V (ax OS O J)<|mI rfl<|aa<| ?_
  refine⟨(k+1,tl,tb,Z),aT,FL.u4.u4.u4.u1.u1.u1,(Hp.conv (cg.sub (sQ sR)) aO),(aJ I aO),J,J,?_,?_,?_⟩
  .exact hTo.skip h0 afe
  .exact ZX
  exact hZ
 refine aY (id:=0) rfl<|SR<|V (xV aem)<|va (v:= .func _ _ _) rfl<|aa<|ai<|iY rfl (v:= .func (.func 141) #[] #[.pointer (some ⟨b6,0,none⟩)]) rfl ⟨b6,tb,tl,Z,rfl,hTo.all (by rw[rV];omega),ZX,hZ,(eN.sub (sP (sQ sR))).perm (xR (l₁:=[_]))⟩
theorem lS(W0:World)(m off:Nat)(C:Array Value)(te:TypeId)(x:Int)(L:List a7)(hx: -9000000000000000000<=x/\x<=9000000000000000000)(hc:C[off]?=some (I x))(w:World)(hH:Hp W0 w (.blk m (.cells C te (0,0))::L)):Calls Tryz.prog 61 #[.pointer (some ⟨m,off,none⟩),I 1] w (jj fun u w'=>u=I (x+1)/\Hp W0 w' (.blk m (.cells (C.setIfInBounds off (I (x+1))) te (0,0))::L)):=by
 refine en func61 rfl rfl<|SR<|va (v:=I 0) rfl<|aa<|SR<|aE (v:=Pn _ _) rfl<|V (af O)<|V (fA XO 0 O sizeOf2 O)<|mI rfl<|V (MM (run_call_add (P:=Tryz.prog) func106 aP aP aP .i64 aP (hH.cell (i:=0) O hc) (hH.fz (i:=0) O) (amO J)) O O)<|have aZ:=hH.setCell (i:=0) (b:=m) (o:=off) (v:=I (x+1)) rfl;?_
 simp only[iM]at aZ
 refine aI rfl<|aa<|ai<|iY O (v:=I (x+1)) O ⟨rfl,aZ⟩
theorem kI(W0:World)(m off:Nat)(C:Array Value)(te:TypeId)(x:Int)(L:List a7)(hc:C[off]?=some (I x))(w:World)(hH:Hp W0 w (.blk m (.cells C te (0,0))::L)):Calls Tryz.prog 71 #[.pointer (some ⟨m,off,none⟩),I 0] w (jj fun u w'=>u= .tuple #[]/\Hp W0 w' (.blk m (.cells (C.setIfInBounds off (I 0)) te (0,0))::L)):=by
 refine en func71 rfl rfl<|aq<|aE (v:=Pn _ _) rfl<|V (af O)<|V (fA XO 0 O sizeOf2 O)<|mI rfl<|V (MM (run_call_store (P:=Tryz.prog) func111 aP aP aP aP (hH.cell (i:=0) O hc) (hH.fz (i:=0) O)) O O)<|have aZ:=hH.setCell (i:=0) (b:=m) (o:=off) (v:=I 0) rfl;?_
 simp only[iM]at aZ
 refine aa<|pK O ⟨rfl,aZ⟩
theorem k7(m off:Nat)(C:Array Value)(te:TypeId)(x:Int)(hc:C[off]?=some (I x))(w:World)(hb:w.heap[m]?=some (.cells C te (0,0))):Calls Tryz.prog 68 #[.pointer (some ⟨m,off,none⟩)] w (Pure (I x) w):=by
 refine eH func68 rfl rfl fun hH=>SR<|va (v:=I 0) rfl<|aa<|SR<|aE (v:=Pn _ _) rfl<|V (af O)<|V (fA XO 0 O sizeOf2 O)<|V (Y2 (Rj (P:=Tryz.prog) func107 aP aP aP .i64 aP (tY hb hc)) O)<|aI rfl<|aa<|ai<|oI O ?_ hH
 rfl
theorem je(m:Nat)(c:Cn)(w:World)(hb:w.heap[m]?=some (.cells #[B true,I c.e,I c.l,I c.j] 135 (0,0))):Calls Tryz.prog 60 #[.pointer (some ⟨m,0,none⟩)] w (Pure (B true) w):=by
 refine eH func60 rfl rfl fun hH=>SR<|va (v:=B false) rfl<|aa<|SR<|aE (v:=Pn _ _) rfl<|V (P4 (o:=some (_,Rl.none)) EL O O)<|mB rfl<|bZ O rfl<|aE (v:=Pn _ _) rfl<|V (af O)<|V (fA xe 0 O nS O)<|V (aC xg O O (hH.eE hb (v:=B _) O))<|mB rfl<|aB rfl<|aa<|ai<|oB O ?_ hH
 rfl
theorem Fz(m:Nat)(c:Cn)(w:World)(hb:w.heap[m]?=some (.cells #[B true,I c.e,I c.l,I c.j] 135 (0,0))):Calls Tryz.prog 29 #[.pointer (some ⟨m,0,none⟩)] w (Pure (.agg #[I c.e,I c.l,I c.j]) w):=by
 refine eH func29 rfl rfl fun hH=>SR<|nu hH (aW Tryz.zeroValue76)<|fun b3 w1 aZ=>aa<|ag<|SR<|aE (v:=Pn _ _) rfl<|aG O aZ (je _ _ _ (aZ.ext hb)) (an call60 O)<|fun w4 bP=>V (bO O)<|aa<|cL rfl<|ak<|ag<|gK aP bP (sQ sR)<|fun w7 eU=>have Z7:=eU.sub (sQ sR);AQ 0 O Z7 (mV (Pn _ _) O)<|AQ 1 O Z7 (af O)<|AQ 2 O Z7 (fA xe 1 O yW O)<|AQ 4 O Z7 (mV (Pn _ _) O)<|AQ 5 O Z7 (af O)<|AQ 6 O Z7 (fA xe 2 O yW O)<|AQ 8 O Z7 (mV (Pn _ _) O)<|AQ 9 O Z7 (af O)<|AQ 10 O Z7 (fA xe 3 O yW O)<|A1 3<|bX O aH O eU (sQ sR) (k7 _ 1 _ _ c.e O _ (eU.ext hb)) (an call68 O)<|fun w9 bV=>A1 7<|bX O aH O bV (sQ sR) (k7 _ 2 _ _ c.l O _ (bV.ext hb)) (an call68 O)<|fun FK cJ=>A1 11<|bX O aH O cJ (sQ sR) (k7 _ 3 _ _ c.j O _ (cJ.ext hb)) (an call68 O)<|fun Bw cg=>AQ 12 O (cg.sub (sQ sR)) (dx (vs:=[(0,I _),(1,I _),(2,I _)]) O (aea _ _ _))<|A1 13<|dU O aH cg (j:=0) O (sQ sR) (dF O O O iF (cg.blk (i:=0) O) O)<|fun OM dQ=>AD<|ai<|tW O O dQ (i:=0) O lD O O ⟨?_,dQ.below⟩
 rfl
theorem Wo(w:World):Calls Tryz.prog 27 #[] w (jj fun u w'=>∃m,u=pt m/\Hp w w' [oT TX m OA]):=by
 refine eH func27 rfl rfl fun hH=>SR<|va (v:= .pointer none) rfl<|aa<|SR<|V (dx (vs:=[(0,B true)]) O aeb)<|gV hH (v:= .agg _) rfl<|fun b3 w1 aZ=>va (v:=Pn _ _) rfl<|aa<|ai<|iY O (v:=pt b3) O ⟨b3,rfl,aZ⟩
theorem Ah(m:Nat)(w:World):Calls Tryz.prog 63 #[.pointer (some ⟨m,0,none⟩)] w (Pure (.pointer (some ⟨m,1,none⟩)) w):=by
 refine eH func63 rfl rfl fun hH=>SR<|va (v:= .pointer none) rfl<|aa<|SR<|aE (v:=Pn _ _) rfl<|V (af O)<|V (fA xe 1 O yW O)<|va (v:=Pn _ _) rfl<|aa<|ai<|FP O ?_ hH.below
 rfl
theorem Ai(m:Nat)(w:World):Calls Tryz.prog 65 #[.pointer (some ⟨m,0,none⟩)] w (Pure (.pointer (some ⟨m,2,none⟩)) w):=by
 refine eH func65 rfl rfl fun hH=>SR<|va (v:= .pointer none) rfl<|aa<|SR<|aE (v:=Pn _ _) rfl<|V (af O)<|V (fA xe 2 O yW O)<|va (v:=Pn _ _) rfl<|aa<|ai<|FP O ?_ hH.below
 rfl
theorem Aj(m:Nat)(w:World):Calls Tryz.prog 67 #[.pointer (some ⟨m,0,none⟩)] w (Pure (.pointer (some ⟨m,3,none⟩)) w):=by
 refine eH func67 rfl rfl fun hH=>SR<|va (v:= .pointer none) rfl<|aa<|SR<|aE (v:=Pn _ _) rfl<|V (af O)<|V (fA xe 3 O yW O)<|va (v:=Pn _ _) rfl<|aa<|ai<|FP O ?_ hH.below
 rfl
theorem ajT(W0:World)(b2 m:Nat)(c:Cn)(L:List a7)(hc:c.ok)(w:World)(hB:Kz (Kw W0) L b2 (.cells #[pt m] 72 (0,0)))(hH:Hp W0 w (.blk m (.cells #[B true,I c.e,I c.l,I c.j] 135 (0,0))::L)):Calls Tryz.prog 59 #[.func (.func 63) #[] #[],.pointer (some ⟨b2,0,none⟩)] w (jj fun u w'=>u= .tuple #[]/\Hp W0 w' (oT TX m (Kd.e.up c)::L)):=by
 unfold Cn.ok at hc
 refine en func59 rfl rfl<|SR<|V (aC EL rfl rfl (tY (hH.kz (Le.refl _) (fun x hx=>(mT hx)) _ _ hB) (v:=Pn _ _) O))<|aG O hH (je _ _ _ (hH.blk (i:=0) O)) (an call60 O)<|fun w1 aZ=>aa<|cC rfl<|aq<|aE (v:= .func _ _ _) rfl<|V (aC EL O O (tY (aZ.kz (Le.refl _) (fun x hx=>(mT hx)) _ _ hB) (v:=Pn _ _) O))<|aG O aZ (Ah _ _) (l9 call63 (cs:=[]) O O)<|fun w4 bP=>bY O (lS W0 m 1 _ _ c.e L J O _ bP) (aN call61 O O)<| ?_
 rintro _ w6 ⟨rfl,eN⟩
 refine aa<|pK O ⟨rfl,eN⟩
theorem ajU(W0:World)(b2 m:Nat)(c:Cn)(L:List a7)(hc:c.ok)(w:World)(hB:Kz (Kw W0) L b2 (.cells #[pt m] 72 (0,0)))(hH:Hp W0 w (.blk m (.cells #[B true,I c.e,I c.l,I c.j] 135 (0,0))::L)):Calls Tryz.prog 59 #[.func (.func 65) #[] #[],.pointer (some ⟨b2,0,none⟩)] w (jj fun u w'=>u= .tuple #[]/\Hp W0 w' (oT TX m (Kd.l.up c)::L)):=by
 unfold Cn.ok at hc
 refine en func59 rfl rfl<|SR<|V (aC EL rfl rfl (tY (hH.kz (Le.refl _) (fun x hx=>(mT hx)) _ _ hB) (v:=Pn _ _) O))<|aG O hH (je _ _ _ (hH.blk (i:=0) O)) (an call60 O)<|fun w1 aZ=>aa<|cC rfl<|aq<|aE (v:= .func _ _ _) rfl<|V (aC EL O O (tY (aZ.kz (Le.refl _) (fun x hx=>(mT hx)) _ _ hB) (v:=Pn _ _) O))<|aG O aZ (Ai _ _) (l9 call65 (cs:=[]) O O)<|fun w4 bP=>bY O (lS W0 m 2 _ _ c.l L J O _ bP) (aN call61 O O)<| ?_
 rintro _ w6 ⟨rfl,eN⟩
 refine aa<|pK O ⟨rfl,eN⟩
theorem ajV(W0:World)(b2 m:Nat)(c:Cn)(L:List a7)(hc:c.ok)(w:World)(hB:Kz (Kw W0) L b2 (.cells #[pt m] 72 (0,0)))(hH:Hp W0 w (.blk m (.cells #[B true,I c.e,I c.l,I c.j] 135 (0,0))::L)):Calls Tryz.prog 59 #[.func (.func 67) #[] #[],.pointer (some ⟨b2,0,none⟩)] w (jj fun u w'=>u= .tuple #[]/\Hp W0 w' (oT TX m (Kd.j.up c)::L)):=by
 unfold Cn.ok at hc
 refine en func59 rfl rfl<|SR<|V (aC EL rfl rfl (tY (hH.kz (Le.refl _) (fun x hx=>(mT hx)) _ _ hB) (v:=Pn _ _) O))<|aG O hH (je _ _ _ (hH.blk (i:=0) O)) (an call60 O)<|fun w1 aZ=>aa<|cC rfl<|aq<|aE (v:= .func _ _ _) rfl<|V (aC EL O O (tY (aZ.kz (Le.refl _) (fun x hx=>(mT hx)) _ _ hB) (v:=Pn _ _) O))<|aG O aZ (Aj _ _) (l9 call67 (cs:=[]) O O)<|fun w4 bP=>bY O (lS W0 m 3 _ _ c.j L J O _ bP) (aN call61 O O)<| ?_
 rintro _ w6 ⟨rfl,eN⟩
 refine aa<|pK O ⟨rfl,eN⟩
theorem CP(W0:World)(b5 b3 b2 m:Nat)(c:Cn)(fe:FuncId)(ae:List Value)(x1 x2:Value)(v u:Value)(ee:El)(bb:Bool)(Y R:List a7)(Q:List a7->Prop)(hc:c.ok)(w:World)(hfe:∀args w,(callFunc fe args).run Tryz.prog w= .ok (.enter fe args) w)(h5:Kz (Kw W0) R b5 (.cells #[iH 59 #[pt b2]] 139 (0,0)))(h2:Kz (Kw W0) R b2 (.cells #[pt m] 72 (0,0)))(h3:Kz (Kw W0) R b3 (.cells #[iH fe ae.toArray,x1,x2] 117 (0,0)))(hin:∀(w1:World) (A:List a7),Hp W0 w1 ((oT TX m (Kd.e.up c)::Y)++(A++R))->Calls Tryz.prog fe (v::u::ae).toArray w1 (jj fun x w'=>x= .tuple #[.agg (jv ee),B bb]/\∃Z',Q Z'/\Hp W0 w' (Z'++(A++R))))(hH:Hp W0 w ((oT TX m c::Y)++R)):Calls Tryz.prog 62 #[v,u,.pointer (some ⟨b5,0,none⟩),.pointer (some ⟨b3,0,none⟩)] w (jj fun x w'=>x= .tuple #[.agg (jv ee),B bb]/\∃Z',Q Z'/\Hp W0 w' (Z'++R)):=by
 refine en func62 rfl rfl<|SR<|nu hH (aW jO)<|fun b3 w1 aZ=>va (v:=B false) rfl<|aa<|SR<|V (aC XP O O (tY (aZ.kz (Le.refl _) (fun x hx=>(mT (mT (bG _ hx)))) _ _ h5) (v:= .func _ _ _) O))<|have hF4:=Hp.r8 (A:=[_]) (Zf:=[_]) (R:=(Y++R)) aZ;bY O (ajT W0 b2 m c _ hc _ (Le.zz (fun x hx=>bG _ (bG _ hx)) _ _ h2) hF4) (l9 call59 (cs:=[pt b2]) O O)<| ?_
 rintro _ w5 ⟨rfl,h6⟩
 have eN:Hp _ w5 (_::_::(Y++R)):=Hp.oK (A:=[_]) (Zf:=[_]) h6
 refine aa<|ag<|SR<|V (fA pF 0 O sizeOf114 O)<|V (aC Rk O O (tY (eN.kz (Le.refl _) (fun x hx=>(mT (mT (bG _ hx)))) _ _ h3) (v:= .func _ _ _) O))<|V (U6 Rk O O)<|aa<|cL rfl<|ak<|SR<|V (fA pF 0 O sizeOf114 O)<|V (aC Rk O O (tY (eN.kz (Le.refl _) (fun x hx=>(mT (mT (bG _ hx)))) _ _ h3) (v:= .func _ _ _) O))<| ?_
 refine V (run_move bC) ?_
 refine V (run_move bC) ?_
 have hF8:=Hp.r8 (A:=[_]) (Zf:=_::Y) (R:=R) eN
 refine bY O (hin _ _ hF8) (iQ hfe (cs:=ae) O O O) ?_
 rintro _ w9 ⟨rfl,Z',hq,h10⟩
 have dJ:Hp _ w9 (_::(Z'++R)):=Hp.oK (A:=[_]) h10
 refine V (bx O (v:= .agg _) O)<|V (bx O (v:=B _) O)<|bt dJ (i:=0) O (ez O O O (dJ.blk (i:=0) O))<|fun Bw cg=>aB rfl<|aa<|ai<|PE O O O cg (i:=0) O cH O nT ⟨rfl,Z',hq,cg.sub (sQ sR)⟩
theorem CQ(W0:World)(b5 b3 b2 m:Nat)(c:Cn)(fe:FuncId)(ae:List Value)(x1 x2:Value)(a b:El)(bb:Bool)(Y R:List a7)(Q:List a7->Prop)(hc:c.ok)(w:World)(hfe:∀args w,(callFunc fe args).run Tryz.prog w= .ok (.enter fe args) w)(h5:Kz (Kw W0) R b5 (.cells #[iH 59 #[pt b2]] 139 (0,0)))(h2:Kz (Kw W0) R b2 (.cells #[pt m] 72 (0,0)))(h3:Kz (Kw W0) R b3 (.cells #[x1,iH fe ae.toArray,x2] 117 (0,0)))(hin:∀(w1:World) (A:List a7),Hp W0 w1 ((oT TX m (Kd.l.up c)::Y)++(A++R))->Calls Tryz.prog fe (.agg (jv a):: .agg (jv b)::ae).toArray w1 (jj fun x w'=>x=B bb/\∃Z',Q Z'/\Hp W0 w' (Z'++(A++R))))(hH:Hp W0 w ((oT TX m c::Y)++R)):Calls Tryz.prog 64 #[.agg (jv a),.agg (jv b),.pointer (some ⟨b5,0,none⟩),.pointer (some ⟨b3,0,none⟩)] w (jj fun x w'=>x=B bb/\∃Z',Q Z'/\Hp W0 w' (Z'++R)):=by
 refine en func64 rfl rfl<|SR<|gV hH (v:= .agg _) rfl<|fun b3 w1 aZ=>gV aZ (v:= .agg _) rfl<|fun b6 w4 bP=>va (v:=B false) rfl<|aa<|SR<|V (aC XP O O (tY (bP.kz (Le.refl _) (fun x hx=>(mT (mT (mT (bG _ hx))))) _ _ h5) (v:= .func _ _ _) O))<|have hF7:=Hp.r8 (A:=[_,_]) (Zf:=[_]) (R:=(Y++R)) bP;bY O (ajU W0 b2 m c _ hc _ (Le.zz (fun x hx=>bG _ (bG _ hx)) _ _ h2) hF7) (l9 call59 (cs:=[pt b2]) O O)<| ?_
 rintro _ w8 ⟨rfl,h9⟩
 have bV:Hp _ w8 (_::_::_::(Y++R)):=Hp.oK (A:=[_,_]) (Zf:=[_]) h9
 refine aa<|SR<|V (fA pF 1 O sizeOf65 O)<|V (aC Lj O O (tY (bV.kz (Le.refl _) (fun x hx=>(mT (mT (mT (bG _ hx))))) _ _ h3) (v:= .func _ _ _) O))<|V (U7 Lj O O)<|mB rfl<|bZ O rfl<|V (fA pF 1 O sizeOf65 O)<|V (aC Lj O O (tY (bV.kz (Le.refl _) (fun x hx=>(mT (mT (mT (bG _ hx))))) _ _ h3) (v:= .func _ _ _) O))<|V (dW cH O O O (bV.blk (i:=1) O))<|V (dW cH O O O (bV.blk (i:=0) O))<|have aFh:=Hp.r8 (A:=[_,_]) (Zf:=_::Y) (R:=R) bV;bY O (hin _ _ aFh) (iQ hfe (cs:=ae) O O O)<| ?_
 rintro _ Bv ⟨rfl,Z',hq,OK⟩
 have cg:Hp _ Bv (_::_::(Z'++R)):=Hp.oK (A:=[_,_]) OK
 refine mB rfl<|aB rfl<|aa<|ai<|iY O (v:=B bb) O ⟨rfl,Z',hq,cg.sub (sQ (sQ sR))⟩
theorem CR(W0:World)(b5 b3 b2 m:Nat)(c:Cn)(fe:FuncId)(ae:List Value)(x1 x2:Value)(a b:El)(ee:El)(Y R:List a7)(Q:List a7->Prop)(hc:c.ok)(w:World)(hfe:∀args w,(callFunc fe args).run Tryz.prog w= .ok (.enter fe args) w)(h5:Kz (Kw W0) R b5 (.cells #[iH 59 #[pt b2]] 139 (0,0)))(h2:Kz (Kw W0) R b2 (.cells #[pt m] 72 (0,0)))(h3:Kz (Kw W0) R b3 (.cells #[x1,x2,iH fe ae.toArray] 117 (0,0)))(hin:∀(w1:World) (A:List a7),Hp W0 w1 ((oT TX m (Kd.j.up c)::Y)++(A++R))->Calls Tryz.prog fe (.agg (jv a):: .agg (jv b)::ae).toArray w1 (jj fun x w'=>x= .agg (jv ee)/\∃Z',Q Z'/\Hp W0 w' (Z'++(A++R))))(hH:Hp W0 w ((oT TX m c::Y)++R)):Calls Tryz.prog 66 #[.agg (jv a),.agg (jv b),.pointer (some ⟨b5,0,none⟩),.pointer (some ⟨b3,0,none⟩)] w (jj fun x w'=>x= .agg (jv ee)/\∃Z',Q Z'/\Hp W0 w' (Z'++R)):=by
 refine en func66 rfl rfl<|SR<|gV hH (v:= .agg _) rfl<|fun b3 w1 aZ=>gV aZ (v:= .agg _) rfl<|fun b6 w4 bP=>nu bP (aW jO)<|fun b9 w7 eU=>aa<|SR<|V (aC XP O O (tY (eU.kz (Le.refl _) (fun x hx=>(mT (mT (mT (mT (bG _ hx)))))) _ _ h5) (v:= .func _ _ _) O))<|have aFi:=Hp.r8 (A:=[_,_,_]) (Zf:=[_]) (R:=(Y++R)) eU;bY O (ajV W0 b2 m c _ hc _ (Le.zz (fun x hx=>bG _ (bG _ hx)) _ _ h2) aFi) (l9 call59 (cs:=[pt b2]) O O)<| ?_
 rintro _ FK ⟨rfl,h12⟩
 have cm:Hp _ FK (_::_::_::_::(Y++R)):=Hp.oK (A:=[_,_,_]) (Zf:=[_]) h12
 refine aa<|ag<|SR<|V (fA pF 2 O sizeOf115 O)<|V (aC Lf O O (tY (cm.kz (Le.refl _) (fun x hx=>(mT (mT (mT (mT (bG _ hx)))))) _ _ h3) (v:= .func _ _ _) O))<|V (U6 Lf O O)<|aa<|cL rfl<|ak<|SR<|V (fA pF 2 O sizeOf115 O)<|V (aC Lf O O (tY (cm.kz (Le.refl _) (fun x hx=>(mT (mT (mT (mT (bG _ hx)))))) _ _ h3) (v:= .func _ _ _) O))<|V (dW cH O O O (cm.blk (i:=2) O))<|V (dW cH O O O (cm.blk (i:=1) O))<|have aFj:=Hp.r8 (A:=[_,_,_]) (Zf:=_::Y) (R:=R) cm;bY O (hin _ _ aFj) (iQ hfe (cs:=ae) O O O)<| ?_
 rintro _ SY ⟨rfl,Z',hq,wc⟩
 have dS:Hp _ SY (_::_::_::(Z'++R)):=Hp.oK (A:=[_,_,_]) wc
 refine bt dS (i:=0) O (ez O O O (dS.blk (i:=0) O))<|fun Ou gW=>aa<|ai<|tW O O gW (i:=0) O cH O nT ⟨rfl,Z',hq,gW.sub (sQ (sQ (sQ sR)))⟩
theorem Tc(Bk:Nat)(s:kW)(v:Value)(l:List dz)(u:Value)(vs:List El)(hl:l.length<=1000)(w:World)(hs:Sl w v 10 l.length (l.flatMap j6))(ht:Sl w u 8 vs.length (vs.flatMap s8))(hsh:ld (Kw w) s)(hb:w.heap[Bk]?=some (.cells (q9 s) 56 (0,0)))(hT:oG w):Calls Tryz.prog 95 #[v,u,.pointer (some ⟨Bk,0,none⟩)] w (Pure (.tuple #[.agg (jv (fY s.sh l vs).1),B (fY s.sh l vs).2]) w):=by
 refine eH func95 rfl rfl fun hH=>SR<|nu hH (aW jO)<|fun b3 w1 aZ=>va (v:=B false) rfl<|aa<|SR<|V (cM (cs:=[B _,_]) dL O O O (bp (aZ.ext hb)))<| ?_
 refine V (run_move bC) ?_
 refine V (run_move bC) ?_
 refine aG O aZ (Wm _ _ _ _ _ J _ (hs.hp aZ) (ht.hp aZ) (hsh.mono aZ.kw) (hT.hp aZ)) (bB call96 O O O)<|fun w4 bP=>V (bx O (v:= .agg _) O)<|V (bx O (v:=B _) O)<|bt bP (i:=0) O (ez O O O (bP.blk (i:=0) O))<|fun w7 eU=>aB rfl<|aa<|ai<|PE O O O eU (i:=0) O cH O nT ⟨?_,eU.below⟩
 rfl
theorem DS(W0:World)(m:Nat)(c:Cn)(L:List a7)(w:World)(hH:Hp W0 w (.blk m (.cells #[B true,I c.e,I c.l,I c.j] 135 (0,0))::L)):Calls Tryz.prog 31 #[.pointer (some ⟨m,0,none⟩)] w (jj fun u w'=>u= .tuple #[]/\Hp W0 w' (oT TX m OA::L)):=by
 refine en func31 rfl rfl<|SR<|aE (v:=Pn _ _) rfl<|aG O hH (je _ _ _ (hH.blk (i:=0) O)) (an call60 O)<|fun w1 aZ=>aa<|cC rfl<|SR<|aE (v:=Pn _ _) rfl<|V (af O)<|V (fA xe 1 O yW O)<|bY O (kI W0 m 1 _ _ c.e L O _ aZ) (aN call71 O O)<| ?_
 rintro _ w4 ⟨rfl,bP⟩
 refine aa<|SR<|aE (v:=Pn _ _) rfl<|V (af O)<|V (fA xe 2 O yW O)<|bY O (kI W0 m 2 _ _ c.l L O _ bP) (aN call71 O O)<| ?_
 rintro _ w6 ⟨rfl,eN⟩
 refine aa<|aq<|aE (v:=Pn _ _) rfl<|V (af O)<|V (fA xe 3 O yW O)<|bY O (kI W0 m 3 _ _ c.j L O _ eN) (aN call71 O O)<| ?_
 rintro _ w8 ⟨rfl,iJ⟩
 refine aa<|pK O ⟨rfl,iJ⟩
theorem FA(K:Vu)(m:Nat)(d:Wr)(e l j:Value)(w:World)(hK:Le K (Kw w))(hd:yf TX K d e l j):Calls Tryz.prog 28 #[.pointer (some ⟨m,0,none⟩),.agg #[e,l,j]] w (Jp K (fun K' u=>∃f1 f2 f3 a1 a2 a3,u= .agg #[iH f1 a1,iH f2 a2,iH f3 a3]/\yf TX K' (.wrap m d) (iH f1 a1) (iH f2 a2) (iH f3 a3)) w):=by
 refine eH func28 rfl rfl fun hH=>SR<|gV hH (v:=Pn _ _) rfl<|fun b3 w1 aZ=>gV aZ (v:= .agg _) rfl<|fun b6 w4 bP=>nu bP (aW Nk)<|fun b9 w7 eU=>aa<|SR<| ?_
 refine V (xV bC) ?_
 refine nu eU (aW Tryz.zeroValue139)<|fun b12 GJ dJ=>bt dJ (i:=0) O (bQ O O (v:= .func _ _ _) O O O (dJ.blk (i:=0) O) (by first|decide|simp))<|fun Bw cg=>aa<|SR<| ?_
 refine V (nV bC bC) ?_
 refine V (nV bC bC) ?_
 refine V (nV bC bC) ?_
 refine V (dx (vs:=[(0,iH _ _),(1,iH _ _),(2,iH _ _)]) O (Qr _ _ _ _ _ _))<|bt cg (i:=1) O (dF O O O (by simp[Value.oneCell',pt,iH]) (cg.blk (i:=1) O) O)<|fun SY cI=>aa<|ai<|have dS:Hp _ SY (_::_::_::[a7.blk b12 (.cells ([iH 59 #[pt b3]]).toArray 139 (0,0))]):=Hp.awk (Z:=[a7.blk b12 (.cells ([iH 59 #[pt b3]]).toArray 139 (0,0))]) (L:=[_,_,_]) cI;have dQ:Hp _ SY (_::_::([a7.blk b6 (.cells ([e,l,j]).toArray 117 (0,0))]++[a7.blk b12 (.cells ([iH 59 #[pt b3]]).toArray 139 (0,0))])):=Hp.Jo (Z:=[a7.blk b6 (.cells ([e,l,j]).toArray 117 (0,0))]) (L:=[_,_]) (L':=[a7.blk b12 (.cells ([iH 59 #[pt b3]]).toArray 139 (0,0))]) (dS.pj [1]);have gW:Hp _ SY (_::([a7.blk b3 (.cells ([pt m]).toArray 72 (0,0))]++([a7.blk b6 (.cells ([e,l,j]).toArray 117 (0,0))]++[a7.blk b12 (.cells ([iH 59 #[pt b3]]).toArray 139 (0,0))]))):=Hp.Jo (Z:=[a7.blk b3 (.cells ([pt m]).toArray 72 (0,0))]) (L:=[_]) (L':=([a7.blk b6 (.cells ([e,l,j]).toArray 117 (0,0))]++[a7.blk b12 (.cells ([iH 59 #[pt b3]]).toArray 139 (0,0))])) (dQ.pj [1]);tW O O gW (i:=0) O pF O O ⟨([a7.blk b3 (.cells ([pt m]).toArray 72 (0,0))]++([a7.blk b6 (.cells ([e,l,j]).toArray 117 (0,0))]++[a7.blk b12 (.cells ([iH 59 #[pt b3]]).toArray 139 (0,0))])),(gW.sub (sQ sR)),_,_,_,_,_,_,rfl,?_⟩
 exact⟨b3,b6,b12,e,l,j,rfl,rfl,rfl,.inr aF,.inr aF,.inr aF,hd.mono (Le.z _ _)⟩
theorem NW(K:Vu)(s:kW)(hfn:s.aL.length<=1000)(hnn:∀f∈s.aL,f.names.length<=1000)(w:World)(hK:Le K (Kw w))(hs:ld K s):Calls Tryz.prog 52 #[.agg (q9 s)] w (jj fun u w'=>∃(f1 f2 f3:FuncId) (a1 a2 a3:Array Value) (p:kW) (tb:JS) (tl:List (Nat×Rl)) (Zt Z:List a7),u= .agg #[iH f1 a1,iH f2 a2,iH f3 a3]/\yf TX (Kz K Z) (.base p tb) (iH f1 a1) (iH f2 a2) (iH f3 a3)/\p.sh=s.sh/\ahN p.sh tb/\(∀i,i<8->∀q,tb i=some q->q∈tl)/\vX 212 tl Zt/\Hp w w' (Zt++Z)):=by
 refine eH func52 rfl rfl fun hH=>SR<|gV hH (v:= .agg _) rfl<|fun b3 w1 aZ=>nu aZ (aW Nk)<|fun b6 w4 bP=>aa<|SR<|V (cM (cs:=[B _,_]) dL O O O (bp (bP.blk (i:=1) O)))<|xP 1 1 bP (Mo Ri O O O (l:=[s]) O az az O)<|fun b9 w7 eU=>Yy O eU (AY K (.slice (some ⟨b9,0,none⟩) 1 1) [s] (show 1<=1000 by decide) (by simpa using hfn) (by simpa using hnn) _ (hK.trans eU.kw) (Hp.oQ Mm eU (i:=0) (l:=[s]) O (show 1<=maxLen by decide)) ⟨fun x hx=>by rw[dY.1 hx];exact hs⟩) (an call51 O)<|fun v12 Bw Z15 cg aFk=>have dS:Hp _ Bw (_::_::_::Z15):=cg.awk (L:=[_,_,_]);?_
 obtain⟨p18,rfl,ays,atL⟩:=aFk
 refine nu dS (aW Tryz.zeroValue56)<|fun b23 Qu dm=>bt dm (i:=0) O (Iq atL O O O (dm.blk (i:=0) O) O)<|fun w24 og=>aa<|SR<|V (fA dL 0 O nS O)<|V (aC xg O O (og.cell (i:=3) O (v:=B _) O))<|V (fA dL 0 O nS O)<|bt (c':=#[B s.tuple,p18.fv]) og (i:=0) O (bQ (off:=0+0) O O (v:=B s.tuple) O O O (og.blk (i:=0) O) aF)<|fun w27 gk=>have WW:ld _ ⟨s.tuple,p18.fv,p18.aL⟩:=⟨atL.aL,atL.each⟩;aa<|SR<| ?_
 refine V (xV bC) ?_
 refine V (cM (cs:=[B _,_]) dL O O O (bp (gk.blk (i:=0) O)))<|bY O (NV ⟨s.tuple,p18.fv,p18.aL⟩ _ (WW.mono (gk.kz hK (fun x hx=>(mT (mT (mT (mT hx)))))))) (an call98 O)<| ?_
 rintro _ w33 ⟨ayt,ayu,atM,ajX,rfl,ayv,ayw,ayx,h37⟩
 have we:Hp _ w33 (_::_::_::_::((ajX++[_])++Z15)):=Hp.oK (A:=[_,_,_,_]) (Zf:=ajX++[_]) (R:=Z15) (gk.D4 h37)
 refine V (dx (vs:=[(0,iH _ _),(1,iH _ _),(2,iH _ _)]) O (Qr _ _ _ _ _ _))<|bt we (i:=2) O (dF O O O (by simp[Value.oneCell',pt,iH]) (we.blk (i:=2) O) O)<|fun w39 oy=>aa<|ai<|have iU:Hp _ w39 (_::_::_::([a7.blk b23 (.cells ([B s.tuple,p18.fv]).toArray 56 (0,0))]++((ajX++[_])++Z15))):=Hp.Jo (Z:=[a7.blk b23 (.cells ([B s.tuple,p18.fv]).toArray 56 (0,0))]) (L:=[_,_,_]) (L':=((ajX++[_])++Z15)) oy;tW O O iU (i:=1) O pF O O ⟨_,_,_,_,_,_,⟨s.tuple,p18.fv,p18.aL⟩,ayu,atM,ajX,([a7.blk b23 (.cells ([B s.tuple,p18.fv]).toArray 56 (0,0))]++([a7.blk ayt (.cells (U4 ayu).toArray 199 (0,0))]++Z15)),rfl,⟨b23,ayt,rfl,rfl,rfl,.inr aF,WW.mono (Le.zz fun x hx=>oN),.inr aF⟩,?_,ayv,ayw,ayx,?_⟩
 .have hq:=aJ Sh.aL ays;simp only[AB,tS,List.flatMap_nil,lY]at hq
  show(⟨s.tuple,p18.aL.map qk.fc⟩:Sh)=s.sh;rw[show p18.aL.map qk.fc=s.sh.aL from hq];rfl
 exact(iU.sub (sQ (sQ (sQ sR)))).perm (by rw[dG];exact wu _ _ _)
section
theorem ayy{K:Vu}{d:Wr}{e l j:Value}(h:yf TX K d e l j):ar2 Tryz.prog e:=by
 cases d with
 |base p tb=>obtain⟨B1,B2,rfl,rfl,rfl,-⟩:=h;exact⟨_,_,rfl,call95⟩
 |wrap m d=>obtain⟨b2,b3,b5,e',l',j',rfl,rfl,rfl,-⟩:=h;exact⟨_,_,rfl,call62⟩
theorem ajY(W0:World)(ids:List Nat)(tl:List (Nat×Rl))(hT:oG W0)(v:Value)(il:List dz)(u:Value)(vs:List El)(hil:il.length<=1000)(d:Wr):∀(n:Nat) (f:Ct) (Z R:List a7) (e l j:Value) (w:World),yf TX (Kz (Kw W0) R) d e l j->d.EX ids tl->kp (Ba fr) ids f tl Z->Fe n f->n+d.dep<=1000000000000->(∀Z' w',Hp W0 w' (Z'++R)->Sl w' v 10 il.length (il.flatMap j6))->(∀Z' w',Hp W0 w' (Z'++R)->Sl w' u 8 vs.length (vs.flatMap s8))->Hp W0 w (Z++R)->
  zM Tryz.prog e [v,u] w (jj fun x w'=>x= .tuple #[.agg (jv (fY d.sh.sh il vs).1),B (fY d.sh.sh il vs).2]/\∃Z',kp (Ba fr) ids (d.tick .e f) tl Z'/\Hp W0 w' (Z'++R)):=by
 induction d with
 |base p tb=>
  intro n f Z R e l j w hO hi hZ hf hn hs ht hH
  obtain⟨B1,B2,rfl,rfl,rfl,h4,h5,h6⟩:=hO
  have hk:=hH.kz (Le.refl _) (Z:=R) fun x hx=>bG _ hx
  refine⟨_,[pt B1],rfl,call95,?_⟩
  exact(Tc B1 p v il u vs hil w (hs Z w hH) (ht Z w hH) (h5.mono hk) (hk _ _ h4) (hT.hp hH)).mono fun x w' hx=>jj.mono (fun y w2 hy=>⟨hy.1,Z,hZ,hH.call hy.2⟩) hx
 |wrap m d ih=>
  intro n f Z R e l j w hO hi hZ hf hn hs ht hH
  obtain⟨b2,b3,b5,e',l',j',rfl,rfl,rfl,h5,h2,h3,hd⟩:=hO
  obtain⟨fe,ce,he,hfe⟩:=ayy hd
  subst he
  obtain⟨Y,hp,hq⟩:=hZ.pick hi.1 hH
  obtain⟨Z1,hz1,hp1⟩:=hq (Kd.e.up (f m))
  have hn':n+(d.dep+1)<=1000000000000:=hn
  refine⟨_,[pt b5,pt b3],rfl,call62,?_⟩
  refine CP W0 b5 b3 b2 m (f m) fe ce _ _ v u (fY d.sh.sh il vs).1 (fY d.sh.sh il vs).2 Y R (fun Z'=>kp (Ba fr) ids (d.tick .e (jE .e m f)) tl Z') (hf.ok J m) w hfe h5 h2 h3 (fun w1 A h=> ?_) (hH.perm (hp.append_right R))
  exact(ih (n+1) (jE .e m f) Z1 (A++R) _ _ _ w1 (hd.mono (Le.zz fun x hx=>bG _ hx)) hi.2 hz1 (hf.tick _ m) J (fun Z' w' h=>hs (Z'++A) w' (by rw[dG];exact h)) (fun Z' w' h=>ht (Z'++A) w' (by rw[dG];exact h)) (h.perm (hp1.append_right _))).get
theorem ayz{K:Vu}{d:Wr}{e l j:Value}(h:yf TX K d e l j):ar2 Tryz.prog l:=by
 cases d with
 |base p tb=>obtain⟨B1,B2,rfl,rfl,rfl,-⟩:=h;exact⟨_,_,rfl,call97⟩
 |wrap m d=>obtain⟨b2,b3,b5,e',l',j',rfl,rfl,rfl,-⟩:=h;exact⟨_,_,rfl,call64⟩
theorem ajZ(W0:World)(ids:List Nat)(tl:List (Nat×Rl))(hT:oG W0)(a b:El)(d:Wr):∀(n:Nat) (f:Ct) (Z R:List a7) (e l j:Value) (w:World),yf TX (Kz (Kw W0) R) d e l j->d.EX ids tl->kp (Ba fr) ids f tl Z->Fe n f->n+d.dep<=1000000000000->Hp W0 w (Z++R)->
  zM Tryz.prog l [.agg (jv a),.agg (jv b)] w (jj fun x w'=>x=B (cT a b)/\∃Z',kp (Ba fr) ids (d.tick .l f) tl Z'/\Hp W0 w' (Z'++R)):=by
 induction d with
 |base p tb=>
  intro n f Z R e l j w hO hi hZ hf hn hH
  obtain⟨B1,B2,rfl,rfl,rfl,h4,h5,h6⟩:=hO
  have hk:=hH.kz (Le.refl _) (Z:=R) fun x hx=>bG _ hx
  refine⟨_,[],rfl,call97,?_⟩
  exact(Wb a b w).mono fun x w' hx=>jj.mono (fun y w2 hy=>⟨hy.1,Z,hZ,hH.call hy.2⟩) hx
 |wrap m d ih=>
  intro n f Z R e l j w hO hi hZ hf hn hH
  obtain⟨b2,b3,b5,e',l',j',rfl,rfl,rfl,h5,h2,h3,hd⟩:=hO
  obtain⟨fe,ce,he,hfe⟩:=ayz hd
  subst he
  obtain⟨Y,hp,hq⟩:=hZ.pick hi.1 hH
  obtain⟨Z1,hz1,hp1⟩:=hq (Kd.l.up (f m))
  have hn':n+(d.dep+1)<=1000000000000:=hn
  refine⟨_,[pt b5,pt b3],rfl,call64,?_⟩
  refine CQ W0 b5 b3 b2 m (f m) fe ce _ _ a b (cT a b) Y R (fun Z'=>kp (Ba fr) ids (d.tick .l (jE .l m f)) tl Z') (hf.ok J m) w hfe h5 h2 h3 (fun w1 A h=> ?_) (hH.perm (hp.append_right R))
  exact(ih (n+1) (jE .l m f) Z1 (A++R) _ _ _ w1 (hd.mono (Le.zz fun x hx=>bG _ hx)) hi.2 hz1 (hf.tick _ m) J (h.perm (hp1.append_right _))).get
theorem ayA{K:Vu}{d:Wr}{e l j:Value}(h:yf TX K d e l j):ar2 Tryz.prog j:=by
 cases d with
 |base p tb=>obtain⟨B1,B2,rfl,rfl,rfl,-⟩:=h;exact⟨_,_,rfl,call141⟩
 |wrap m d=>obtain⟨b2,b3,b5,e',l',j',rfl,rfl,rfl,-⟩:=h;exact⟨_,_,rfl,call66⟩
theorem aj0(W0:World)(ids:List Nat)(tl:List (Nat×Rl))(hT:oG W0)(a b:El)(d:Wr):∀(n:Nat) (f:Ct) (Z R:List a7) (e l j:Value) (w:World),yf TX (Kz (Kw W0) R) d e l j->d.EX ids tl->kp (Ba fr) ids f tl Z->Fe n f->n+d.dep<=1000000000000->Hp W0 w (Z++R)->
  zM Tryz.prog j [.agg (jv a),.agg (jv b)] w (jj fun x w'=>x= .agg (jv (oS d.tb a b))/\∃Z',kp (Ba fr) ids (d.tick .j f) tl Z'/\Hp W0 w' (Z'++R)):=by
 induction d with
 |base p tb=>
  intro n f Z R e l j w hO hi hZ hf hn hH
  obtain⟨B1,B2,rfl,rfl,rfl,h4,h5,h6⟩:=hO
  have hk:=hH.kz (Le.refl _) (Z:=R) fun x hx=>bG _ hx
  refine⟨_,[pt B2],rfl,call141,?_⟩
  obtain⟨Zt,hzt,rfl⟩:=hZ
  refine(I1 W0 B2 tb tl Zt ((ids.map (fun m=>oT TX m (f m))++fr)++R) a b w hT hi.2 (Le.zz (fun x hx=>bG _ hx) _ _ h6) hzt (hH.perm (by rw[dG];exact wu _ _ _))).mono fun x w' hx=>jj.mono (fun y w2 hy=>⟨hy.1,?_⟩) hx
  obtain⟨-,Z',hz',h'⟩:=hy
  exact⟨_,⟨Z',hz',rfl⟩,h'.perm (by rw[dG (_++_) Z' R];exact wu _ _ _)⟩
 |wrap m d ih=>
  intro n f Z R e l j w hO hi hZ hf hn hH
  obtain⟨b2,b3,b5,e',l',j',rfl,rfl,rfl,h5,h2,h3,hd⟩:=hO
  obtain⟨fe,ce,he,hfe⟩:=ayA hd
  subst he
  obtain⟨Y,hp,hq⟩:=hZ.pick hi.1 hH
  obtain⟨Z1,hz1,hp1⟩:=hq (Kd.j.up (f m))
  have hn':n+(d.dep+1)<=1000000000000:=hn
  refine⟨_,[pt b5,pt b3],rfl,call66,?_⟩
  refine CR W0 b5 b3 b2 m (f m) fe ce _ _ a b (oS d.tb a b) Y R (fun Z'=>kp (Ba fr) ids (d.tick .j (jE .j m f)) tl Z') (hf.ok J m) w hfe h5 h2 h3 (fun w1 A h=> ?_) (hH.perm (hp.append_right R))
  exact(ih (n+1) (jE .j m f) Z1 (A++R) _ _ _ w1 (hd.mono (Le.zz fun x hx=>bG _ hx)) hi.2 hz1 (hf.tick _ m) J (h.perm (hp1.append_right _))).get
end
section
variable{W0 w:World}{ids:List Nat}{tl:List (Nat×Rl)}{d:Wr}{n m:Nat}{f:Ct}{Zf R A:List a7}{e l j:Value}{x:xx}{s:Sh}
end
section
variable{W0 w:World}{ids:List Nat}{tl:List (Nat×Rl)}{d:Wr}{n m:Nat}{f:Ct}{Zf R A:List a7}{e l j:Value}{x:xx}{s:Sh}
end
end
section
open Go Go.RowKit Go.Proofs.YtlhjdflgjbkpmaaGreatDoor.E Go.Proofs.YtlhjdflgjbkpmaaGreatDoor.M
set_option maxRecDepth 100000
open Go.Proofs.Tryz
abbrev FX:FTy:=(⟨(⟨134,243,193,3,35,8⟩:UT),111,35,1,3⟩:FTy)
theorem wT{nA nB nC nD nE nF nG nH nI nJ nK nL:Value}(F:Nat)(vW vU vT:Value)(cnt:Int)(W:List (BitVec 64))(w:World)(hb:w.heap[F]?=some (.cells #[nA,nB,nC,nD,nE,nF,nG,nH,vW,vU,vT,I cnt,nI,nJ,nK,nL] 111 (0,0)))(hW:Sl w vW 1 W.length (W.map U)):Calls Tryz.prog 133 #[.pointer (some ⟨F,8,none⟩)] w (Pure (I W.length) w):=by
 refine eH func133 rfl rfl fun hH=>SR<|va (v:=I 0) rfl<|aa<|ag<|SR<|aE (v:=Pn _ _) rfl<|V (kJ lC O O)<|aa<|cL rfl<|ak<|SR<|aE (v:=Pn _ _) rfl<|V (af O)<|V (fA lZ 0 O jh O)<|V (aC c8 O O (hH.eE hb O))<|V (aA (hW.hp hH) O c8 O)<|aI rfl<|aa<|ai<|oI O ?_ hH
 rfl
theorem yz{nA nB nC nD nE nF nG nH nI nJ nK nL:Value}(F:Nat)(vW vU vT:Value)(cnt:Int)(W:List (BitVec 64))(i:Int)(w:World)(hb:w.heap[F]?=some (.cells #[nA,nB,nC,nD,nE,nF,nG,nH,vW,vU,vT,I cnt,nI,nJ,nK,nL] 111 (0,0)))(hW:Sl w vW 1 W.length (W.map U)):Calls Tryz.prog 218 #[.pointer (some ⟨F,8,none⟩),I i] w (Pure (B (decide (0<=i/\i<W.length))) w):=by
 refine eH func218 rfl rfl fun hH=>SR<|va (v:=B false) rfl<|aa<|SR<|mI rfl<|V (dD O O)<|mB rfl<|bM 7 O (fun h2=> ?_) (fun h2=> ?_)
 .refine mI rfl<|aE (v:=Pn _ _) rfl<|aG O hH (wT _ _ _ _ _ _ _ (hH.ext hb) (hW.hp hH)) (an call133 O)<|fun w3 gy=>V (aM O O)<|mB rfl<|aB rfl<|aa<|ai<|oB O ?_ gy
  (simp;omega)
 refine aE (v:=B false) rfl<|aB rfl<|aa<|ai<|oB O ?_ hH
 (rw[gO J];done)
theorem G2{nA nB nC nD nE nF nG nH nI nJ nK nL:Value}(F:Nat)(vW vU vT:Value)(cnt:Int)(W:List (BitVec 64))(i:Int)(hi:0<=i/\i<W.length)(w:World)(hb:w.heap[F]?=some (.cells #[nA,nB,nC,nD,nE,nF,nG,nH,vW,vU,vT,I cnt,nI,nJ,nK,nL] 111 (0,0)))(hW:Sl w vW 1 W.length (W.map U)):Calls Tryz.prog 190 #[.pointer (some ⟨F,8,none⟩),I i] w (Pure (U (W.getD i.toNat 0)) w):=by
 refine eH func190 rfl rfl fun hH=>SR<|va (v:=U 0#64) rfl<|aa<|ag<|SR<|aE (v:=Pn _ _) rfl<|mI rfl<|aG O hH (yz _ _ _ _ _ _ _ _ (hH.ext hb) (hW.hp hH)) (aN call218 O O)<|fun w1 aZ=>V (uO O)<|aa<|aD O (fun h6=> ?_) (fun h6=> ?_)
 .refine SR<|va (v:=U 0#64) rfl<|aa<|ai<|oU O ?_ aZ
  omega
 refine ak<|SR<|aE (v:=Pn _ _) rfl<|V (af O)<|V (fA lZ 0 O jh O)<|V (aC c8 O O (aZ.eE hb O))<|mI rfl<|V (ah (hW.hp aZ) c8 dg O O J)<|V (aC dZ O O (Sl.atU (hW.hp aZ) J J))<|aU rfl<|aa<|ai<|oU O ?_ aZ
 rfl
theorem mv{nA nB nC nD nE nF nG nH nI nJ nK nL:Value}(F:Nat)(vW vU vT:Value)(cnt:Int)(W:List (BitVec 64))(us:List Value)(w:World)(hb:w.heap[F]?=some (.cells #[nA,nB,nC,nD,nE,nF,nG,nH,vW,vU,vT,I cnt,nI,nJ,nK,nL] 111 (0,0)))(hW:Sl w vW 1 W.length (W.map U))(hU:Sl w vU 1 us.length us):Calls Tryz.prog 90 #[.pointer (some ⟨F,8,none⟩)] w (Pure (I us.length) w):=by
 refine eH func90 rfl rfl fun hH=>SR<|va (v:=I 0) rfl<|aa<|ag<|SR<|aE (v:=Pn _ _) rfl<|V (kJ lC O O)<|aa<|cL rfl<|ak<|SR<|aE (v:=Pn _ _) rfl<|V (af O)<|V (fA lZ 1 O jV O)<|V (aC gR O O (hH.eE hb O))<|V (aA (hU.hp hH) O gR O)<|aI rfl<|aa<|ai<|oI O ?_ hH
 rfl
theorem di{nA nB nC nD nE nF nG nH nI nJ nK nL:Value}(F:Nat)(vW vU vT:Value)(cnt:Int)(W:List (BitVec 64))(i k:Int)(hi:0<=i/\i<1000000/\0<=k/\k<4/\4*i+k<W.length)(w:World)(hb:w.heap[F]?=some (.cells #[nA,nB,nC,nD,nE,nF,nG,nH,vW,vU,vT,I cnt,nI,nJ,nK,nL] 111 (0,0)))(hW:Sl w vW 1 W.length (W.map U)):Calls Tryz.prog 159 #[.pointer (some ⟨F,8,none⟩),I i,I k] w (Pure (I (W.getD (4*i+k).toNat 0).toInt) w):=by
 refine eH func159 rfl rfl fun hH=>SR<|va (v:=I 0) rfl<|aa<|SR<|aE (v:=Pn _ _) rfl<|V (af O)<|V (fA yR 0 O yX O)<|mI rfl<|V (ww O O J)<|mI rfl<|V (ax O O J)<|aG O hH (G2 _ _ _ _ _ _ _ J _ (hH.ext hb) (hW.hp hH)) (aN call190 O O)<|fun w1 aZ=>V (Ye dZ bf O)<|aI rfl<|aa<|ai<|oI O ?_ aZ
 rfl
theorem lm{nA nB nC nD nE nF nG nH nI nJ nK nL:Value}(F:Nat)(vW vU vT:Value)(cnt:Int)(nd:List qa)(hn:nd.length<=1000000)(w:World)(hb:w.heap[F]?=some (.cells #[nA,nB,nC,nD,nE,nF,nG,nH,vW,vU,vT,I cnt,nI,nJ,nK,nL] 111 (0,0)))(hW:Sl w vW 1 (bD nd).length ((bD nd).map U)):Calls Tryz.prog 89 #[.pointer (some ⟨F,8,none⟩)] w (Pure (I nd.length) w):=by
 have Z0:=ir nd
 refine eH func89 rfl rfl fun hH=>SR<|va (v:=I 0) rfl<|aa<|ag<|SR<|aE (v:=Pn _ _) rfl<|V (kJ Lg O O)<|aa<|cL rfl<|ak<|SR<|aE (v:=Pn _ _) rfl<|V (af O)<|V (fA hG 0 O uJ O)<|V (fA yR 0 O yX O)<|aG O hH (wT _ _ _ _ _ _ _ (hH.ext hb) (hW.hp hH)) (an call133 O)<|fun w1 aZ=>V (alz O O J J)<|aI rfl<|aa<|ai<|oI O ?_ aZ
 omega
theorem mw{nA nB nC nD nE nF nG nH nI nJ nK nL:Value}(F:Nat)(vW vU vT:Value)(cnt:Int)(nd:List qa)(i:Int)(hn:nd.length<=1000000)(w:World)(hb:w.heap[F]?=some (.cells #[nA,nB,nC,nD,nE,nF,nG,nH,vW,vU,vT,I cnt,nI,nJ,nK,nL] 111 (0,0)))(hW:Sl w vW 1 (bD nd).length ((bD nd).map U)):Calls Tryz.prog 158 #[.pointer (some ⟨F,8,none⟩),I i] w (Pure (B (decide (0<=i/\i<nd.length))) w):=by
 refine eH func158 rfl rfl fun hH=>SR<|va (v:=B false) rfl<|aa<|SR<|mI rfl<|V (dD O O)<|mB rfl<|bM 7 O (fun h2=> ?_) (fun h2=> ?_)
 .refine mI rfl<|aE (v:=Pn _ _) rfl<|aG O hH (lm _ _ _ _ _ _ nU _ (hH.ext hb) (hW.hp hH)) (an call89 O)<|fun w3 gy=>V (aM O O)<|mB rfl<|aB rfl<|aa<|ai<|oB O ?_ gy
  (simp;omega)
 refine aE (v:=B false) rfl<|aB rfl<|aa<|ai<|oB O ?_ hH
 (rw[gO J];done)
theorem Bo{nA nB nC nD nE nF nG nH nI nJ nK nL:Value}(F:Nat)(vW vU vT:Value)(cnt:Int)(W:List (BitVec 64))(w:World)(hb:w.heap[F]?=some (.cells #[nA,nB,nC,nD,nE,nF,nG,nH,vW,vU,vT,I cnt,nI,nJ,nK,nL] 111 (0,0)))(hW:Sl w vW 1 W.length (W.map U)):Calls Tryz.prog 123 #[.pointer (some ⟨F,8,none⟩)] w (Pure (I cnt) w):=by
 refine eH func123 rfl rfl fun hH=>SR<|va (v:=I 0) rfl<|aa<|ag<|SR<|aE (v:=Pn _ _) rfl<|V (kJ Lg O O)<|aa<|cL rfl<|ak<|SR<|aE (v:=Pn _ _) rfl<|V (af O)<|V (fA hG 3 O a8 O)<|V (aC bf O O (hH.eE hb (v:=I _) O))<|aI rfl<|aa<|ai<|oI O ?_ hH
 rfl
theorem CS{nA nB nC nD nE nF nG nH nI nJ nK nL:Value}(F:Nat)(vW vU vT:Value)(cnt:Int)(W:List (BitVec 64))(ts:List Int)(w:World)(hb:w.heap[F]?=some (.cells #[nA,nB,nC,nD,nE,nF,nG,nH,vW,vU,vT,I cnt,nI,nJ,nK,nL] 111 (0,0)))(hW:Sl w vW 1 W.length (W.map U))(hT:Sl w vT 1 ts.length (ts.map I)):Calls Tryz.prog 46 #[.pointer (some ⟨F,8,none⟩)] w (Pure (I ts.length) w):=by
 refine eH func46 rfl rfl fun hH=>SR<|va (v:=I 0) rfl<|aa<|ag<|SR<|aE (v:=Pn _ _) rfl<|V (kJ Lg O O)<|aa<|cL rfl<|ak<|SR<|aE (v:=Pn _ _) rfl<|V (af O)<|V (fA hG 2 O dB O)<|V (aC bz O O (hH.eE hb O))<|V (aA (hT.hp hH) O bz O)<|aI rfl<|aa<|ai<|oI O ?_ hH
 rfl
theorem oq{nA nB nC nD nE nF nG nH nI nJ nK nL:Value}(F:Nat)(vW vU vT:Value)(cnt:Int)(nd:List qa)(cl:List Nat)(i:Int)(hn:nd.length<=1000000)(hf:Fo nd cl)(hi:0<=i/\i<nd.length)(w:World)(hb:w.heap[F]?=some (.cells #[nA,nB,nC,nD,nE,nF,nG,nH,vW,vU,vT,I cnt,nI,nJ,nK,nL] 111 (0,0)))(hW:Sl w vW 1 (bD nd).length ((bD nd).map U)):Calls Tryz.prog 160 #[.pointer (some ⟨F,8,none⟩),I i] w (Pure (I (oJ nd cl i.toNat)) w):=by
 have Z0:=ir nd
 refine eH func160 rfl rfl fun hH=>SR<|va (v:=I 0) rfl<|aa<|ag<|ay<|bk (G:=Nat) (fun c s' w'=>(Fr (1::(rg 5 12 [])) _ s')/\(Hp w w' _)/\(s' 1=I (c:Int))/\(c<nd.length)/\(ct cl c=ct cl i.toNat)) (fun c=>nd.length-kA nd c) (i.toNat) ⟨Fr.refl _ _,hH,(aJ I (show i=((i.toNat:Nat):Int)by omega)),J,rfl⟩<| ?_
 rintro c sg1 w1 ⟨ug,iI,zT,hc,kD⟩
 have lX:=ug.w1 0
 have hcu:=amE hf hn hc
 refine ag<|SR<|aE lX<|V (af O)<|V (fA hG 0 O uJ O)<|aE zT<|aG O iI (di _ _ _ _ _ _ _ _ J _ (iI.ext hb) (hW.hp iI)) (bB tD O O (show _=I 0 from O))<|fun w2 uD=>aE zT<|V (ke O O)<|aa<|aD O (fun h5=> ?_) (fun h5=> ?_)
 .refine ak<|ay<|aq<|aE lX<|V (af O)<|V (fA hG 0 O uJ O)<|aE zT<|aG O uD (di _ _ _ _ _ _ _ _ J _ (uD.ext hb) (hW.hp uD)) (bB tD O O (show _=I 0 from O))<|fun w6 eN=>aI rfl<|aa<| ?_
  refine⟨r6 nd c,?_,ug.u4.u4.u4.u1,eN,(aJ I hcu),?_,?_⟩
  .have hne:r6 nd c≠c:=fun e=>‹_≠(c:Int)› (hcu.trans (by rw[e]));exact(Sn hf hc O).2.2 hne
  .exact(Sn hf hc kD).1
  exact(Sn hf hc kD).2.1
 refine aY (id:=0) rfl<|SR<|aE zT<|aI rfl<|aa<|ai<|oI O ?_ uD
 exact aJ (fun x:Nat=>(x:Int)) (ahw hf J hc J kD)
theorem CT{nA nB nC nD nE nF nG nH nI nJ nK nL:Value}(F:Nat)(vW vU vT:Value)(cnt:Int)(nd:List qa)(cl:List Nat)(i:Int)(hn:nd.length<=1000000)(hf:Fo nd cl)(w:World)(hb:w.heap[F]?=some (.cells #[nA,nB,nC,nD,nE,nF,nG,nH,vW,vU,vT,I cnt,nI,nJ,nK,nL] 111 (0,0)))(hW:Sl w vW 1 (bD nd).length ((bD nd).map U)):Calls Tryz.prog 128 #[.pointer (some ⟨F,8,none⟩),I i] w (Pure (I (fw cl i)) w):=by
 have Z0:=ir nd
 refine eH func128 rfl rfl fun hH=>SR<|va (v:=I 0) rfl<|aa<|ag<|SR<|aE (v:=Pn _ _) rfl<|mI rfl<|aG O hH (mw _ _ _ _ _ _ _ nU _ (hH.ext hb) (hW.hp hH)) (aN call158 O O)<|fun w1 aZ=>V (uO O)<|aa<|aD O (fun h6=> ?_) (fun h6=> ?_)
 .refine SR<|va (v:=I (-1)) rfl<|aa<|ai<|oI O ?_ aZ
  exact adC hf J
 refine ak<|ag<|ed aP aZ<|fun w7 eU=>have Z7:=eU;AQ 0 O Z7 (mV (Pn _ _) O)<|AQ 1 O Z7 (af O)<|AQ 2 O Z7 (fA hG 0 O uJ O)<|AQ 3 O Z7 (mV (Pn _ _) O)<|AQ 4 O Z7 (mV (I _) O)<|A1 5<|bX O aH O eU sR (oq _ _ _ _ _ nd cl _ nU nU J _ (eU.ext hb) (hW.hp eU)) (aN call160 O O)<|fun w9 bV=>A1 6<|bX O aH O bV sR (di _ _ _ _ _ _ _ _ (by have:=(o6 hf (i:=i.toNat) J).1;omega) _ (bV.ext hb) (hW.hp bV)) (bB tD O O (show _=I 3 from O))<|fun FK cJ=>AQ 7 O cJ (aV (I _) O)<|AD<|ai<|oI O ?_ cJ
 exact adD hf hn J
theorem DT{nA nB nC nD nE nF nG nH nI nJ nK nL:Value}(W0:World)(F:Nat)(vW vU vT:Value)(cnt:Int)(cW:Option (Nat×Array Value))(W:List (BitVec 64))(L:List a7)(b1 b2:Nat)(n:Int)(hn:0<=n/\n<=W.length)(w:World)(h1:a7.blk b1 (.cells #[.pointer (some ⟨F,8,none⟩)] 193 (0,0))∈L)(h2:a7.blk b2 (.cells #[I n] 3 (0,0))∈L)(yG:cO cW vW (W.map U))(hH:Hp W0 w (.blk F (.cells #[nA,nB,nC,nD,nE,nF,nG,nH,vW,vU,vT,I (cnt),nI,nJ,nK,nL] 111 (0,0))::cE cW vW 35 (W.map U)::L)):Calls Tryz.prog 134 #[.pointer (some ⟨b1,0,none⟩),.pointer (some ⟨b2,0,none⟩)] w (jj fun u w'=>u= .tuple #[]/\∃v' c',cO c' v' ((W.take n.toNat).map U)/\Hp W0 w' (.blk F (.cells #[nA,nB,nC,nD,nE,nF,nG,nH,v',vU,vT,I (cnt),nI,nJ,nK,nL] 111 (0,0))::cE c' v' 35 ((W.take n.toNat).map U)::L)):=by
 refine en func134 rfl rfl<|gK aP hH (sQ (sQ sR))<|fun w1 aZ=>have kH:=aZ.sub (sQ (sQ sR));AT 0 O kH (fun w hS=>aC lC O O (hS.oR h1 (v:=Pn _ _) O))<|AT 1 O kH (fun w hS=>aC lC O O (hS.oR h1 (v:=Pn _ _) O))<|AQ 2 O kH (af O)<|AQ 3 O kH (fA lZ 0 O jh O)<|AT 5 O kH (fun w hS=>aC bf O O (hS.oR h2 (v:=I _) O))<|AT 6 O kH (fun w hS=>aC bf O O (hS.oR h2 (v:=I _) O))<|A1 4<|cr O aH O aZ (sQ (sQ sR)) (aC c8 O O (aZ.cell (i:=0) O O))<|A1 7<|cr O aH O aZ (sQ (sQ sR)) (u9 (aZ.ye (i:=1) O yG) c8 dg O O O J)<|AQ 8 O kH (af O)<|AQ 9 O kH (fA lZ 0 O jh O)<|A1 10<|have hs1:=((aZ.ye (i:=1) O yG)).sV (n:=(n).toNat) J;?_
 obtain⟨c9,ayB,dJ⟩:=aZ.arR (i:=1) O yG (m:=(n).toNat) X7
 simp only[iM,kL,<-BI]at dJ ayB
 refine dU O aH dJ (j:=0) O (sQ (sQ sR)) (bQ O O (v:=(sV vW (n).toNat)) O (gY hs1).2 (gY hs1).1 (dJ.blk (i:=0) O) aF)<|fun Bv cm=>AD<|pK O ⟨rfl,(sV vW (n).toNat),c9,ayB,cm⟩
theorem DU{nA nB nC nD nE nF nG nH nI nJ nK nL:Value}(W0:World)(F:Nat)(vW vU vT:Value)(cnt:Int)(cW:Option (Nat×Array Value))(W:List (BitVec 64))(L:List a7)(b1 b2 b3:Nat)(i:Int)(b:BitVec 64)(hi:0<=i/\i<W.length)(w:World)(h1:a7.blk b1 (.cells #[U b] 35 (0,0))∈L)(h2:a7.blk b2 (.cells #[.pointer (some ⟨F,8,none⟩)] 193 (0,0))∈L)(h3:a7.blk b3 (.cells #[I i] 3 (0,0))∈L)(yG:cO cW vW (W.map U))(hH:Hp W0 w (.blk F (.cells #[nA,nB,nC,nD,nE,nF,nG,nH,vW,vU,vT,I (cnt),nI,nJ,nK,nL] 111 (0,0))::cE cW vW 35 (W.map U)::L)):Calls Tryz.prog 243 #[.pointer (some ⟨b1,0,none⟩),.pointer (some ⟨b2,0,none⟩),.pointer (some ⟨b3,0,none⟩)] w (jj fun u w'=>u= .tuple #[]/\∃v' c',cO c' v' ((W.set i.toNat b).map U)/\Hp W0 w' (.blk F (.cells #[nA,nB,nC,nD,nE,nF,nG,nH,v',vU,vT,I (cnt),nI,nJ,nK,nL] 111 (0,0))::cE c' v' 35 ((W.set i.toNat b).map U)::L)):=by
 refine en func243 rfl rfl<|gK aP hH (sP (sQ sR))<|fun w1 aZ=>have kH:=aZ.sub (sP (sQ sR));AT 0 O kH (fun w hS=>aC lC O O (hS.oR (mT h2) (v:=Pn _ _) O))<|AQ 1 O kH (af O)<|AQ 2 O kH (fA lZ 0 O jh O)<|tV 3 O kH c8 0 O O rfl<|AT 4 O kH (fun w hS=>aC bf O O (hS.oR (mT h3) (v:=I _) O))<|AT 5 O kH (fun w hS=>aC dZ O O (hS.oR (mT h1) (v:=U _) O))<|A1 6<|cr O aH O aZ (sP (sQ sR)) (ah (aZ.ye (i:=1) O yG) c8 dg O O J)<|A1 7<|ahC (u:=U _) O aH aZ (i:=1) O yG (fun _ _=>(sP (sQ sR))) X7 O O O O rfl<|fun c7 w9 hk8 bV=> ?_
 simp only[iM,kL,Gl]at bV hk8
 refine AD<|pK O ⟨rfl,vW,c7,hk8,bV⟩
theorem qZ{nA nB nC nD nE nF nG nH nI nJ nK nL:Value}(W0:World)(F:Nat)(vW vU vT:Value)(cnt:Int)(cW cU:Option (Nat×Array Value))(W:List (BitVec 64))(ul:List (Value×jD))(L:List a7)(b:BitVec 64)(Z0:W.length<=4000000)(Oo:ul.length<=4000000)(w:World)(yG:cO cW vW (W.map U))(JC:cO cU vU (ul.map Prod.fst))(hH:Hp W0 w (.blk F (.cells #[nA,nB,nC,nD,nE,nF,nG,nH,vW,vU,vT,I (cnt),nI,nJ,nK,nL] 111 (0,0))::cE cW vW 35 (W.map U)::cE cU vU 1 (ul.map Prod.fst)::L)):Calls Tryz.prog 91 #[.pointer (some ⟨F,8,none⟩),U b] w (jj fun u w'=>u=I W.length/\∃(v':Value) (c':Option (Nat×Array Value)) (v2:Value) (c2:Option (Nat×Array Value)) (yA:List (Value×jD)) (Lb:List a7),cO c' v' ((W++[b]).map U)/\cO c2 v2 (yA.map Prod.fst)/\yA.map Prod.snd=ul.map Prod.snd++[jD.add W.length]/\yA.take ul.length=ul/\yA.length<=ul.length+1/\(∀x∈yA.drop ul.length,o9 (⟨134,243,193,3,35,8⟩:UT) F Lb x)/\Hp W0 w' (.blk F (.cells #[nA,nB,nC,nD,nE,nF,nG,nH,v',v2,vT,I (cnt),nI,nJ,nK,nL] 111 (0,0))::cE c' v' 35 ((W++[b]).map U)::cE c2 v2 1 (yA.map Prod.fst)::(Lb++L))):=by
 refine en func91 rfl rfl<|SR<|gV hH (v:=Pn _ _) rfl<|fun b3 w1 aZ=>va (v:=I 0) rfl<|aa<|ag<|SR<|lP lC aZ 0 O O rfl<|V (kJ lC O O)<|aa<|cL rfl<|ak<|SR<|lP lC aZ 0 O O rfl<|V (af O)<|V (fA lZ 0 O jh O)<|lV c8 aZ 1 O O rfl<|V (aA (aZ.ye (i:=2) O yG) O c8 O)<|nu aZ (aW Tryz.zeroValue3)<|fun b6 w4 bP=>bt bP (i:=0) O (bQ O O (v:=I _) O O O (bP.blk (i:=0) O) az)<|fun w7 eU=>aa<|ag<|gK aP eU (sP (sP (sQ (sQ sR))))<|fun w9 bV=>have zZ:=bV.sub (sP (sP (sQ (sQ sR))));tP 0 O zZ lC 1 O O rfl<|tP 1 O zZ lC 1 O O rfl<|AQ 2 O zZ (af O)<|AQ 3 O zZ (fA lZ 0 O jh O)<|AQ 5 O zZ (mV (U _) O)<|gD 4 6 aP ?_ ?_
 .refine cr O aH O bV (sP (sP (sQ (sQ sR)))) (aC c8 O O (bV.cell (i:=2) O O))<|A1 6<|cK O aH O bV (sP (sP (sQ (sQ sR)))) (f:=fun b=> .slice (some ⟨b,0,none⟩) 1 1) (cA c8 O O (sz:=1) (vs:=[U _]) O O az az O O)<|fun b15 Bw cg=> ?_
  (try simp only[o4]at cg)
  refine A1 7<|Cj (y0:=U b) O aH O cg (i:=4) O yG (fun _ _=>(sQ (sP (sP (sQ (sQ sR)))))) (cg.dV (i:=0) (n:=1) (sz:=1) O O az) O O c8 O O O (bytes:=8) O O O oM oM<|fun v18 VV cS=> ?_
  rw[P0]at cS
  refine AQ 8 O (cS.sub (sQ (sP (sP (sQ (sQ sR)))))) (af O)<|AQ 9 O (cS.sub (sQ (sP (sP (sQ (sQ sR)))))) (fA lZ 0 O jh O)<|A1 10<|dU O aH cS (j:=3) O (sQ (sP (sP (sQ (sQ sR))))) (bQ O O (v:=v18) O (gY (cS.ye (i:=4) O trivial)).2 (gY (cS.ye (i:=4) O trivial)).1 (cS.blk (i:=3) O) aF)<|fun w23 mK=>AD<|ag<|gK aP mK (sP (sP (sP (sQ (sP (sQ sR))))))<|fun w25 kG=>have J2:=kG.sub (sP (sP (sP (sQ (sP (sQ sR))))));tP 0 O J2 lC 2 O O rfl<|tP 1 O J2 lC 2 O O rfl<|AQ 2 O J2 (af O)<|AQ 3 O J2 (fA lZ 1 O jV O)<| ?_
  refine AQ 5 O J2 (nV bC bC) ?_
  refine gD 4 6 aP ?_ ?_
  .refine cr O aH O kG (sP (sP (sP (sQ (sP (sQ sR)))))) (aC gR O O (kG.cell (i:=3) O O))<|A1 6<|cK O aH O kG (sP (sP (sP (sQ (sP (sQ sR)))))) (f:=fun b=> .slice (some ⟨b,0,none⟩) 1 1) (cA gR O O (sz:=1) (vs:=[.func _ _ _]) O O az az O O)<|fun b31 w29 jf=> ?_
   (try simp only[o4]at jf)
   refine A1 7<|Cj (y0:= .func (.func 134) #[] #[.pointer (some ⟨b3,0,none⟩),.pointer (some ⟨b6,0,none⟩)]) rfl aH rfl jf (i:=6) O JC (fun _ _=>(sQ (sP (sP (sP (sQ (sP (sQ sR)))))))) (jf.dV (i:=0) (n:=1) (sz:=1) O O az) O O gR O O O (bytes:=8) O O O oM oM<|fun v34 w35 oe=> ?_
   rw[uC (jD.add W.length)]at oe
   refine AQ 8 O (oe.sub (sQ (sP (sP (sP (sQ (sP (sQ sR)))))))) (af O)<|AQ 9 O (oe.sub (sQ (sP (sP (sP (sQ (sP (sQ sR)))))))) (fA lZ 1 O jV O)<|A1 10<|dU O aH oe (j:=4) O (sQ (sP (sP (sP (sQ (sP (sQ sR))))))) (bQ O O (v:=v34) O (gY (oe.A6 (i:=6) O trivial)).2 (gY (oe.A6 (i:=6) O trivial)).1 (oe.blk (i:=4) O) aF)<|fun w39 oy=>AD<|SR<|lI bf oy 2 O O rfl<|aI rfl<|aa<|ai<|iY O (v:=I W.length) O ⟨rfl,v18,none,v34,none,(ul++[(.func (.func 134) #[] #[.pointer (some ⟨b3,0,none⟩),.pointer (some ⟨b6,0,none⟩)],jD.add W.length)]),[a7.blk b3 (.cells #[.pointer (some ⟨F,8,none⟩)] 193 (0,0)),a7.blk b6 (.cells #[I W.length] 3 (0,0))],trivial,trivial,aF,aF,aF,?_,(oy.pj [4,4,4,3,2]).sub (sP (sP (sP (sP (sP (sQ (sQ sR)))))))⟩
   intro x hx;rw[EJ,dY]at hx;subst hx;exact⟨_,_,rfl,aF,aF⟩
  refine cK O aH O kG (sP (sP (sP (sQ (sP (sQ sR)))))) (f:=fun b=> .slice (some ⟨b,0,none⟩) 1 1) (cA gR O O (sz:=1) (vs:=[.func _ _ _]) O O az az O O)<|fun b43 w41 yx=> ?_
  (try simp only[o4]at yx)
  refine A1 4<|cr O aH O yx (sQ (sP (sP (sP (sQ (sP (sQ sR))))))) (aC gR O O (yx.cell (i:=4) O O))<|A1 7<|Cj (y0:= .func (.func 134) #[] #[.pointer (some ⟨b3,0,none⟩),.pointer (some ⟨b6,0,none⟩)]) rfl aH rfl yx (i:=6) O JC (fun _ _=>(sQ (sP (sP (sP (sQ (sP (sQ sR)))))))) (yx.dV (i:=0) (n:=1) (sz:=1) O O az) O O gR O O O (bytes:=8) O O O oM oM<|fun v48 w49 eT=> ?_
  rw[uC (jD.add W.length)]at eT
  refine AQ 8 O (eT.sub (sQ (sP (sP (sP (sQ (sP (sQ sR)))))))) (af O)<|AQ 9 O (eT.sub (sQ (sP (sP (sP (sQ (sP (sQ sR)))))))) (fA lZ 1 O jV O)<|A1 10<|dU O aH eT (j:=4) O (sQ (sP (sP (sP (sQ (sP (sQ sR))))))) (bQ O O (v:=v48) O (gY (eT.A6 (i:=6) O trivial)).2 (gY (eT.A6 (i:=6) O trivial)).1 (eT.blk (i:=4) O) aF)<|fun w53 gH=>AD<|SR<|lI bf gH 2 O O rfl<|aI rfl<|aa<|ai<|iY O (v:=I W.length) O ⟨rfl,v18,none,v48,none,(ul++[(.func (.func 134) #[] #[.pointer (some ⟨b3,0,none⟩),.pointer (some ⟨b6,0,none⟩)],jD.add W.length)]),[a7.blk b3 (.cells #[.pointer (some ⟨F,8,none⟩)] 193 (0,0)),a7.blk b6 (.cells #[I W.length] 3 (0,0))],trivial,trivial,aF,aF,aF,?_,(gH.pj [4,4,4,3,2]).sub (sP (sP (sP (sP (sP (sQ (sQ sR)))))))⟩
  intro x hx;rw[EJ,dY]at hx;subst hx;exact⟨_,_,rfl,aF,aF⟩
 refine cK O aH O bV (sP (sP (sQ (sQ sR)))) (f:=fun b=> .slice (some ⟨b,0,none⟩) 1 1) (cA c8 O O (sz:=1) (vs:=[U _]) O O az az O O)<|fun b57 w55 oZ=> ?_
 (try simp only[o4]at oZ)
 refine A1 4<|cr O aH O oZ (sQ (sP (sP (sQ (sQ sR))))) (aC c8 O O (oZ.cell (i:=3) O O))<|A1 7<|Cj (y0:=U b) O aH O oZ (i:=4) O yG (fun _ _=>(sQ (sP (sP (sQ (sQ sR)))))) (oZ.dV (i:=0) (n:=1) (sz:=1) O O az) O O c8 O O O (bytes:=8) O O O oM oM<|fun v62 w63 uz=> ?_
 rw[P0]at uz
 refine AQ 8 O (uz.sub (sQ (sP (sP (sQ (sQ sR)))))) (af O)<|AQ 9 O (uz.sub (sQ (sP (sP (sQ (sQ sR)))))) (fA lZ 0 O jh O)<|A1 10<|dU O aH uz (j:=3) O (sQ (sP (sP (sQ (sQ sR))))) (bQ O O (v:=v62) O (gY (uz.ye (i:=4) O trivial)).2 (gY (uz.ye (i:=4) O trivial)).1 (uz.blk (i:=3) O) aF)<|fun w67 mM=>AD<|ag<|gK aP mM (sP (sP (sP (sQ (sP (sQ sR))))))<|fun w69 vE=>have NY:=vE.sub (sP (sP (sP (sQ (sP (sQ sR))))));tP 0 O NY lC 2 O O rfl<|tP 1 O NY lC 2 O O rfl<|AQ 2 O NY (af O)<|AQ 3 O NY (fA lZ 1 O jV O)<| ?_
 refine AQ 5 O NY (nV bC bC) ?_
 refine gD 4 6 aP ?_ ?_
 .refine cr O aH O vE (sP (sP (sP (sQ (sP (sQ sR)))))) (aC gR O O (vE.cell (i:=3) O O))<|A1 6<|cK O aH O vE (sP (sP (sP (sQ (sP (sQ sR)))))) (f:=fun b=> .slice (some ⟨b,0,none⟩) 1 1) (cA gR O O (sz:=1) (vs:=[.func _ _ _]) O O az az O O)<|fun b75 w73 Ak=> ?_
  (try simp only[o4]at Ak)
  refine A1 7<|Cj (y0:= .func (.func 134) #[] #[.pointer (some ⟨b3,0,none⟩),.pointer (some ⟨b6,0,none⟩)]) rfl aH rfl Ak (i:=6) O JC (fun _ _=>(sQ (sP (sP (sP (sQ (sP (sQ sR)))))))) (Ak.dV (i:=0) (n:=1) (sz:=1) O O az) O O gR O O O (bytes:=8) O O O oM oM<|fun v78 w79 tK=> ?_
  rw[uC (jD.add W.length)]at tK
  refine AQ 8 O (tK.sub (sQ (sP (sP (sP (sQ (sP (sQ sR)))))))) (af O)<|AQ 9 O (tK.sub (sQ (sP (sP (sP (sQ (sP (sQ sR)))))))) (fA lZ 1 O jV O)<|A1 10<|dU O aH tK (j:=4) O (sQ (sP (sP (sP (sQ (sP (sQ sR))))))) (bQ O O (v:=v78) O (gY (tK.A6 (i:=6) O trivial)).2 (gY (tK.A6 (i:=6) O trivial)).1 (tK.blk (i:=4) O) aF)<|fun w83 nr=>AD<|SR<|lI bf nr 2 O O rfl<|aI rfl<|aa<|ai<|iY O (v:=I W.length) O ⟨rfl,v62,none,v78,none,(ul++[(.func (.func 134) #[] #[.pointer (some ⟨b3,0,none⟩),.pointer (some ⟨b6,0,none⟩)],jD.add W.length)]),[a7.blk b3 (.cells #[.pointer (some ⟨F,8,none⟩)] 193 (0,0)),a7.blk b6 (.cells #[I W.length] 3 (0,0))],trivial,trivial,aF,aF,aF,?_,(nr.pj [4,4,4,3,2]).sub (sP (sP (sP (sP (sP (sQ (sQ sR)))))))⟩
  intro x hx;rw[EJ,dY]at hx;subst hx;exact⟨_,_,rfl,aF,aF⟩
 refine cK O aH O vE (sP (sP (sP (sQ (sP (sQ sR)))))) (f:=fun b=> .slice (some ⟨b,0,none⟩) 1 1) (cA gR O O (sz:=1) (vs:=[.func _ _ _]) O O az az O O)<|fun b87 w85 wj=> ?_
 (try simp only[o4]at wj)
 refine A1 4<|cr O aH O wj (sQ (sP (sP (sP (sQ (sP (sQ sR))))))) (aC gR O O (wj.cell (i:=4) O O))<|A1 7<|Cj (y0:= .func (.func 134) #[] #[.pointer (some ⟨b3,0,none⟩),.pointer (some ⟨b6,0,none⟩)]) rfl aH rfl wj (i:=6) O JC (fun _ _=>(sQ (sP (sP (sP (sQ (sP (sQ sR)))))))) (wj.dV (i:=0) (n:=1) (sz:=1) O O az) O O gR O O O (bytes:=8) O O O oM oM<|fun v92 w93 wm=> ?_
 rw[uC (jD.add W.length)]at wm
 refine AQ 8 O (wm.sub (sQ (sP (sP (sP (sQ (sP (sQ sR)))))))) (af O)<|AQ 9 O (wm.sub (sQ (sP (sP (sP (sQ (sP (sQ sR)))))))) (fA lZ 1 O jV O)<|A1 10<|dU O aH wm (j:=4) O (sQ (sP (sP (sP (sQ (sP (sQ sR))))))) (bQ O O (v:=v92) O (gY (wm.A6 (i:=6) O trivial)).2 (gY (wm.A6 (i:=6) O trivial)).1 (wm.blk (i:=4) O) aF)<|fun w97 G0=>AD<|SR<|lI bf G0 2 O O rfl<|aI rfl<|aa<|ai<|iY O (v:=I W.length) O ⟨rfl,v62,none,v92,none,(ul++[(.func (.func 134) #[] #[.pointer (some ⟨b3,0,none⟩),.pointer (some ⟨b6,0,none⟩)],jD.add W.length)]),[a7.blk b3 (.cells #[.pointer (some ⟨F,8,none⟩)] 193 (0,0)),a7.blk b6 (.cells #[I W.length] 3 (0,0))],trivial,trivial,aF,aF,aF,?_,(G0.pj [4,4,4,3,2]).sub (sP (sP (sP (sP (sP (sQ (sQ sR)))))))⟩
 intro x hx;rw[EJ,dY]at hx;subst hx;exact⟨_,_,rfl,aF,aF⟩
theorem G3{nA nB nC nD nE nF nG nH nI nJ nK nL:Value}(W0:World)(F:Nat)(vW vU vT:Value)(cnt:Int)(cW cU:Option (Nat×Array Value))(W:List (BitVec 64))(ul:List (Value×jD))(L:List a7)(i:Int)(b:BitVec 64)(Z0:W.length<=4000000)(Oo:ul.length<=4000000)(hi:0<=i/\i<W.length)(w:World)(yG:cO cW vW (W.map U))(JC:cO cU vU (ul.map Prod.fst))(hH:Hp W0 w (.blk F (.cells #[nA,nB,nC,nD,nE,nF,nG,nH,vW,vU,vT,I (cnt),nI,nJ,nK,nL] 111 (0,0))::cE cW vW 35 (W.map U)::cE cU vU 1 (ul.map Prod.fst)::L)):Calls Tryz.prog 217 #[.pointer (some ⟨F,8,none⟩),I i,U b] w (jj fun u w'=>u=B true/\∃(v':Value) (c':Option (Nat×Array Value)) (v2:Value) (c2:Option (Nat×Array Value)) (yA:List (Value×jD)) (Lb:List a7),cO c' v' ((W.set i.toNat b).map U)/\cO c2 v2 (yA.map Prod.fst)/\yA.map Prod.snd=Iw W (ul.map Prod.snd) i.toNat b/\yA.take ul.length=ul/\yA.length<=ul.length+1/\(∀x∈yA.drop ul.length,o9 (⟨134,243,193,3,35,8⟩:UT) F Lb x)/\Hp W0 w' (.blk F (.cells #[nA,nB,nC,nD,nE,nF,nG,nH,v',v2,vT,I (cnt),nI,nJ,nK,nL] 111 (0,0))::cE c' v' 35 ((W.set i.toNat b).map U)::cE c2 v2 1 (yA.map Prod.fst)::(Lb++L))):=by
 refine en func217 rfl rfl<|SR<|gV hH (v:=Pn _ _) rfl<|fun b3 w1 aZ=>gV aZ (v:=I _) rfl<|fun b6 w4 bP=>va (v:=B false) rfl<|aa<|ag<|SR<|lP lC bP 1 O O rfl<|lI bf bP 0 O O rfl<|aG O bP (yz _ _ _ _ _ _ _ _ (bP.blk (i:=2) O) (bP.ye (i:=3) O yG)) (aN call218 O O)<|fun w7 eU=>V (bO (bT (hi)))<|aa<|cL rfl<|ak<|ag<|ed aP eU<|fun FK cJ=>have Z9:=cJ;tP 0 O Z9 lC 1 O O rfl<|AQ 1 O Z9 (af O)<|AQ 2 O Z9 (fA lZ 0 O jh O)<|tV 3 O Z9 c8 2 O O rfl<|tI 4 O Z9 bf 0 O O rfl<|AT 5 O Z9 (fun w hS=>ah (hS.ye (i:=3) O yG) c8 dg O O J)<|AT 6 O Z9 (fun w hS=>aC dZ O O (Sl.atU (hS.ye (i:=3) O yG) J J))<|A1 7<|cK O aH O cJ sR (f:=fun b=> .pointer (some ⟨b,0,none⟩)) (aW Tryz.zeroValue35)<|fun b15 Bw cg=>A1 8<|dU O aH cg (j:=0) O (sQ sR) (bQ O O (v:=U _) O O O (cg.blk (i:=0) O) az)<|fun J5 dS=>AD<|ag<|SR<|V (aC dZ O O (dS.cell (i:=0) O (v:=U _) O))<|mU rfl<|V (uN O O)<|aa<|aD O (fun J1=> ?_) (fun J1=> ?_)
 .refine ag<|gK aP dS (sP (sP (sP (sP (sQ sR)))))<|fun w20 fB=>have oo:=fB.sub (sP (sP (sP (sP (sQ sR)))));tP 0 O oo lC 2 O O rfl<|AQ 1 O oo (af O)<|AQ 2 O oo (fA lZ 0 O jh O)<|tV 3 O oo c8 3 O O rfl<|tI 4 O oo bf 1 O O rfl<|AQ 5 O oo (mV (U _) O)<|A1 6<|cr O aH O fB (sP (sP (sP (sP (sQ sR))))) (ah (fB.ye (i:=4) O yG) c8 dg O O J)<|A1 7<|ahC (u:=U _) O aH fB (i:=4) O yG (fun _ _=>(sP (sP (sP (sP (sQ sR)))))) X7 O O O O rfl<|fun c26 w28 atO gG=> ?_
  simp only[iM,kL,Gl]at gG atO
  refine AD<|gK aP gG (sP (sP (sP (sQ (sP (sQ sR))))))<|fun w30 mo=>have IW:=mo.sub (sP (sP (sP (sQ (sP (sQ sR))))));tP 0 O IW lC 2 O O rfl<|tP 1 O IW lC 2 O O rfl<|AQ 2 O IW (af O)<|AQ 3 O IW (fA lZ 1 O jV O)<| ?_
  refine AQ 5 O IW (LF bC bC bC) ?_
  refine gD 4 6 aP ?_ ?_
  .refine cr O aH O mo (sP (sP (sP (sQ (sP (sQ sR)))))) (aC gR O O (mo.cell (i:=3) O O))<|A1 6<|cK O aH O mo (sP (sP (sP (sQ (sP (sQ sR)))))) (f:=fun b=> .slice (some ⟨b,0,none⟩) 1 1) (cA gR O O (sz:=1) (vs:=[.func _ _ _]) O O az az O O)<|fun b36 w34 tJ=> ?_
   (try simp only[o4]at tJ)
   refine A1 7<|Cj (y0:= .func (.func 243) #[] #[.pointer (some ⟨b15,0,none⟩),.pointer (some ⟨b3,0,none⟩),.pointer (some ⟨b6,0,none⟩)]) rfl aH rfl tJ (i:=6) O JC (fun _ _=>(sQ (sP (sP (sP (sQ (sP (sQ sR)))))))) (tJ.dV (i:=0) (n:=1) (sz:=1) O O az) O O gR O O O (bytes:=8) O O O oM oM<|fun v39 w40 iU=> ?_
   rw[uC (jD.set i.toNat (W.getD i.toNat 0))]at iU
   refine AQ 8 O (iU.sub (sQ (sP (sP (sP (sQ (sP (sQ sR)))))))) (af O)<|AQ 9 O (iU.sub (sQ (sP (sP (sP (sQ (sP (sQ sR)))))))) (fA lZ 1 O jV O)<|A1 10<|dU O aH iU (j:=4) O (sQ (sP (sP (sP (sQ (sP (sQ sR))))))) (bQ O O (v:=v39) O (gY (iU.A6 (i:=6) O trivial)).2 (gY (iU.A6 (i:=6) O trivial)).1 (iU.blk (i:=4) O) aF)<|fun w44 nn=>AD<|SR<|va (v:=B true) rfl<|aa<|ai<|iY O (v:=B true) O ⟨rfl,vW,c26,v39,none,(ul++[(.func (.func 243) #[] #[.pointer (some ⟨b15,0,none⟩),.pointer (some ⟨b3,0,none⟩),.pointer (some ⟨b6,0,none⟩)],jD.set i.toNat (W.getD i.toNat 0))]),[a7.blk b15 (.cells #[U (W.getD i.toNat 0)] 35 (0,0)),a7.blk b3 (.cells #[.pointer (some ⟨F,8,none⟩)] 193 (0,0)),a7.blk b6 (.cells #[I i] 3 (0,0))],atO,trivial,?_,aF,aF,?_,(nn.pj [4,4,4,1,2,1]).sub (sP (sP (sP (sP (sP (sP (sQ sR)))))))⟩
   ·(rw[Iw,aR ‹_≠b›];simp;done)
   (intro x hx;rw[EJ,dY]at hx;subst hx;exact⟨_,_,_,rfl,aF,aF,by simp[fW hi.1]⟩)
  refine cK O aH O mo (sP (sP (sP (sQ (sP (sQ sR)))))) (f:=fun b=> .slice (some ⟨b,0,none⟩) 1 1) (cA gR O O (sz:=1) (vs:=[.func _ _ _]) O O az az O O)<|fun b48 w46 oC=> ?_
  (try simp only[o4]at oC)
  refine A1 4<|cr O aH O oC (sQ (sP (sP (sP (sQ (sP (sQ sR))))))) (aC gR O O (oC.cell (i:=4) O O))<|A1 7<|Cj (y0:= .func (.func 243) #[] #[.pointer (some ⟨b15,0,none⟩),.pointer (some ⟨b3,0,none⟩),.pointer (some ⟨b6,0,none⟩)]) rfl aH rfl oC (i:=6) O JC (fun _ _=>(sQ (sP (sP (sP (sQ (sP (sQ sR)))))))) (oC.dV (i:=0) (n:=1) (sz:=1) O O az) O O gR O O O (bytes:=8) O O O oM oM<|fun v53 w54 jg=> ?_
  rw[uC (jD.set i.toNat (W.getD i.toNat 0))]at jg
  refine AQ 8 O (jg.sub (sQ (sP (sP (sP (sQ (sP (sQ sR)))))))) (af O)<|AQ 9 O (jg.sub (sQ (sP (sP (sP (sQ (sP (sQ sR)))))))) (fA lZ 1 O jV O)<|A1 10<|dU O aH jg (j:=4) O (sQ (sP (sP (sP (sQ (sP (sQ sR))))))) (bQ O O (v:=v53) O (gY (jg.A6 (i:=6) O trivial)).2 (gY (jg.A6 (i:=6) O trivial)).1 (jg.blk (i:=4) O) aF)<|fun w58 Bm=>AD<|SR<|va (v:=B true) rfl<|aa<|ai<|iY O (v:=B true) O ⟨rfl,vW,c26,v53,none,(ul++[(.func (.func 243) #[] #[.pointer (some ⟨b15,0,none⟩),.pointer (some ⟨b3,0,none⟩),.pointer (some ⟨b6,0,none⟩)],jD.set i.toNat (W.getD i.toNat 0))]),[a7.blk b15 (.cells #[U (W.getD i.toNat 0)] 35 (0,0)),a7.blk b3 (.cells #[.pointer (some ⟨F,8,none⟩)] 193 (0,0)),a7.blk b6 (.cells #[I i] 3 (0,0))],atO,trivial,?_,aF,aF,?_,(Bm.pj [4,4,4,1,2,1]).sub (sP (sP (sP (sP (sP (sP (sQ sR)))))))⟩
  ·(rw[Iw,aR ‹_≠b›];simp;done)
  (intro x hx;rw[EJ,dY]at hx;subst hx;exact⟨_,_,_,rfl,aF,aF,by simp[fW hi.1]⟩)
 refine ak<|SR<|va (v:=B true) rfl<|aa<|ai<| ?_
 rw[MJ (Q1.1 ‹¬_≠b›)]
 refine iY O (v:=B true) O ⟨rfl,vW,cW,vU,cU,ul,[],yG,JC,?_,aF,aF,?_,(dS.pj [3,3,3]).sub (sP (sP (sP (sQ (sQ (sQ sR))))))⟩
 ·(rw[Iw,aS (Q1.1 ‹¬_≠b›)])
 (intro x hx;simp at hx)
theorem j9{nA nB nC nD nE nF nG nH nI nJ nK nL:Value}(W0:World)(F:Nat)(vW vU vT:Value)(cnt:Int)(cW cU:Option (Nat×Array Value))(W:List (BitVec 64))(ul:List (Value×jD))(L:List a7)(i k to:Int)(Z0:W.length<=4000000)(Oo:ul.length<=4000000)(hi:0<=i/\i<1000000/\0<=k/\k<4/\4*i+k<W.length)(w:World)(yG:cO cW vW (W.map U))(JC:cO cU vU (ul.map Prod.fst))(hH:Hp W0 w (.blk F (.cells #[nA,nB,nC,nD,nE,nF,nG,nH,vW,vU,vT,I (cnt),nI,nJ,nK,nL] 111 (0,0))::cE cW vW 35 (W.map U)::cE cU vU 1 (ul.map Prod.fst)::L)):Calls Tryz.prog 189 #[.pointer (some ⟨F,8,none⟩),I i,I k,I to] w (jj fun u w'=>u= .tuple #[]/\∃(v':Value) (c':Option (Nat×Array Value)) (v2:Value) (c2:Option (Nat×Array Value)) (yA:List (Value×jD)) (Lb:List a7),cO c' v' ((W.set (4*i+k).toNat (BitVec.ofInt 64 to)).map U)/\cO c2 v2 (yA.map Prod.fst)/\yA.map Prod.snd=Iw W (ul.map Prod.snd) (4*i+k).toNat (BitVec.ofInt 64 to)/\yA.take ul.length=ul/\yA.length<=ul.length+1/\(∀x∈yA.drop ul.length,o9 (⟨134,243,193,3,35,8⟩:UT) F Lb x)/\Hp W0 w' (.blk F (.cells #[nA,nB,nC,nD,nE,nF,nG,nH,v',v2,vT,I (cnt),nI,nJ,nK,nL] 111 (0,0))::cE c' v' 35 ((W.set (4*i+k).toNat (BitVec.ofInt 64 to)).map U)::cE c2 v2 1 (yA.map Prod.fst)::(Lb++L))):=by
 refine en func189 rfl rfl<|aq<|aE (v:=Pn _ _) rfl<|V (af O)<|V (fA yR 0 O yX O)<|mI rfl<|V (ww O O J)<|mI rfl<|V (ax O O J)<|mI rfl<|V (ju bf dZ O)<|bY O (G3 _ _ _ _ _ _ _ _ _ _ _ _ _ J J J _ yG JC hH) (bB call217 O O O)<| ?_
 rintro _ w3 ⟨rfl,v6,c7,u8,e9,aFo,aFp,aFq,aFr,aFs,atP,aFt,aFu,h4⟩
 refine aa<|pK O ⟨rfl,v6,c7,u8,e9,aFo,aFp,aFq,aFr,aFs,atP,aFt,aFu,h4⟩
theorem aj1{nA nB nC nD nE nF nG nH nI nJ nK nL:Value}{W0 w:World}{F:Nat}{vW vU vT:Value}{cnt:Int}{cW:Option (Nat×Array Value)}{W:List (BitVec 64)}{L:List a7}(x:Value×jD)(hx:o9 (⟨134,243,193,3,35,8⟩:UT) F L x)(hok:match x.2 with| .add n=>n<=W.length| .set i _=>i<W.length)(yG:cO cW vW (W.map U))(hH:Hp W0 w (.blk F (.cells #[nA,nB,nC,nD,nE,nF,nG,nH,vW,vU,vT,I (cnt),nI,nJ,nK,nL] 111 (0,0))::cE cW vW 35 (W.map U)::L)):
  ∃(f:FuncId) (cs:List Value),x.1= .func (.func f) #[] cs.toArray/\(∀args w,(callFunc f args).run Tryz.prog w= .ok (.enter f args) w)/\Calls Tryz.prog f cs.toArray w (jj fun u w'=>u= .tuple #[]/\∃v' c',cO c' v' ((Sm W x.2).map U)/\Hp W0 w' (.blk F (.cells #[nA,nB,nC,nD,nE,nF,nG,nH,v',vU,vT,I (cnt),nI,nJ,nK,nL] 111 (0,0))::cE c' v' 35 ((Sm W x.2).map U)::L)):=by
 obtain⟨v,u⟩:=x
 cases u with
 |add n=>
  obtain⟨b1,b2,h0,h1,h2⟩:=hx
  have hc:=DT W0 F vW vU vT cnt cW W L b1 b2 n ⟨J,by exact Int.ofNat_le.2 hok⟩ w h1 h2 yG hH
  rw[ef]at hc
  exact⟨_,[_,_],h0,call134,hc⟩
 |set i b=>
  obtain⟨b1,b2,b3,h0,h1,h2,h3⟩:=hx
  have hc:=DU W0 F vW vU vT cnt cW W L b1 b2 b3 i b ⟨J,by exact Int.ofNat_lt.2 hok⟩ w h1 h2 h3 yG hH
  rw[ef]at hc
  exact⟨_,[_,_,_],h0,call243,hc⟩
theorem FB{nA nB nC nD nE nF nG nH nI nJ nK nL:Value}(W0:World)(F:Nat)(vW vU vT:Value)(cnt:Int)(cW cU:Option (Nat×Array Value))(W:List (BitVec 64))(ul:List (Value×jD))(L:List a7)(m:Int)(Z0:W.length<=4000000)(Oo:ul.length<=4000000)(hm:0<=m/\m<=ul.length)(w:World)(hI:∀x∈ul,o9 (⟨134,243,193,3,35,8⟩:UT) F L x)(hok:MG W.length (ul.map Prod.snd))(yG:cO cW vW (W.map U))(JC:cO cU vU (ul.map Prod.fst))(hH:Hp W0 w (.blk F (.cells #[nA,nB,nC,nD,nE,nF,nG,nH,vW,vU,vT,I (cnt),nI,nJ,nK,nL] 111 (0,0))::cE cW vW 35 (W.map U)::cE cU vU 1 (ul.map Prod.fst)::L)):Calls Tryz.prog 92 #[.pointer (some ⟨F,8,none⟩),I m] w (jj fun u w'=>u=B true/\∃(v':Value) (c':Option (Nat×Array Value)) (v2:Value) (c2:Option (Nat×Array Value)),cO c' v' ((js W (ul.map Prod.snd) m.toNat).map U)/\cO c2 v2 ((ul.take m.toNat).map Prod.fst)/\Hp W0 w' (.blk F (.cells #[nA,nB,nC,nD,nE,nF,nG,nH,v',v2,vT,I (cnt),nI,nJ,nK,nL] 111 (0,0))::cE c' v' 35 ((js W (ul.map Prod.snd) m.toNat).map U)::cE c2 v2 1 ((ul.take m.toNat).map Prod.fst)::L)):=by
 have hlm:(ul.map Prod.fst).length=ul.length:=gB ..
 refine en func92 rfl rfl<|SR<|va (v:=B false) rfl<|aa<|ag<|SR<|aE (v:=Pn _ _) rfl<|V (kJ lC O O)<|mB rfl<|bZ O rfl<|mI rfl<|aE (v:=Pn _ _) rfl<|V (af O)<|V (fA lZ 1 O jV O)<|lV gR hH 0 O O rfl<|V (aA (hH.A6 (i:=2) O JC) O gR O)<|V (cD O O)<|mB rfl<|aa<|aD O (fun h2=> ?_) (fun h2=> ?_)
 .refine SR<|va (v:=B false) rfl<|aa<|ai<| ?_
  exfalso;omega
 refine ak<|ag<|SR<|aE (v:=Pn _ _) rfl<|V (af O)<|V (fA lZ 1 O jV O)<|lV gR hH 0 O O rfl<|V (aA (hH.A6 (i:=2) O JC) O gR O)<|V (fF O O J)<|aI rfl<|aa<|ay<|have e0:js W (ul.map Prod.snd) (ul.length:Int).toNat=W:=(by rw[ef,<-gB (f:=Prod.snd)];exact Dv);have e1:ul.take (ul.length:Int).toNat=ul:=aF;bk (G:=Int×Value×(Option (Nat×Array Value))×Value×(Option (Nat×Array Value))) (fun⟨k,v1,c1,u1,c2⟩ s' w'=>(Fr (5::(rg 23 24 [])) _ s')/\(Hp W0 w' (.blk F (.cells #[nA,nB,nC,nD,nE,nF,nG,nH,v1,u1,vT,I (cnt),nI,nJ,nK,nL] 111 (0,0))::cE c1 v1 35 ((js W (ul.map Prod.snd) k.toNat).map U)::cE c2 u1 1 ((ul.take k.toNat).map Prod.fst)::_))/\(s' 5=I (k-1))/\(m<=k)/\(k<=ul.length)/\(cO c1 v1 ((js W (ul.map Prod.snd) k.toNat).map U))/\(cO c2 u1 ((ul.take k.toNat).map Prod.fst))) (fun⟨k,v1,c1,u1,c2⟩=>(k-m).toNat) ((ul.length,vW,cW,vU,cU)) ⟨Fr.refl _ _,(by rw[e0,e1];exact hH),(aJ I J),J,J,RJ,(by rw[e1];exact JC)⟩<| ?_
 rintro⟨k,v1,c1,u1,c2⟩ sg3 w3 ⟨fr3,uD,Kc,k0,k1,Au,Du⟩
 obtain⟨Bc,atQ⟩:=fr3.w2 0 1
 refine ag<|SR<|aE Kc<|aE atQ<|V (FO O O)<|V (dD O O)<|aa<|aD O (fun h5=> ?_) (fun h5=> ?_)
 .refine ak<|ag<|ay<|SR<|aE Bc<|V (af O)<|V (fA lZ 1 O jV O)<|lV gR uD 0 O O rfl<|aE Kc<|V (ah (uD.A6 (i:=2) O Du) gR sizeOf1 O O (by(simp only[gB,eP];omega)))<|V (aC underlying1 O O ((uD.A6 (i:=2) O Du).cell _ _ (amH J J)))<|have hkl:(k-1).toNat<ul.length:=J;have hL1:Hp W0 w3 (.blk F (.cells #[nA,nB,nC,nD,nE,nF,nG,nH,v1,u1,vT,I (cnt),nI,nJ,nK,nL] 111 (0,0))::cE c1 v1 35 ((js W (ul.map Prod.snd) k.toNat).map U)::(cE c2 u1 1 ((ul.take k.toNat).map Prod.fst)::L)):=uD;?_
  obtain⟨f6,cs7,hv8,hf9,aFv⟩:=aj1 (ul[(k-1).toNat]) ((hI _ (nM hkl)).mono fun e he=>mT he) (arT hok (by simpa using hkl) J) Au hL1
  refine bY O aFv (LZ hf9 ((show _=_ from O).trans ((ahD J hkl).trans hv8))) ?_
  rintro _ SY ⟨rfl,v11,c12,aeq,KQ⟩
  rw[arS J hkl]at aeq KQ
  refine aa<|aq<|aE Bc<|aE Bc<|V (af O)<|V (fA lZ 1 O jV O)<|lV gR KQ 0 O O rfl<|aE Kc<|aE Kc<|V (u9 (KQ.A6 (i:=2) O Du) gR sizeOf1 O O O X3)<|V (af O)<|V (fA lZ 1 O jV O)<|have hs1:=((KQ.A6 (i:=2) O Du)).sV (n:=(k-1).toNat) X3;?_
  obtain⟨c18,aaa,cS⟩:=KQ.arR (i:=2) O Du (m:=(k-1).toNat) X3
  simp only[iM,kL,<-BI,BG,show min (k-1).toNat k.toNat=(k-1).toNat by omega]at cS aaa
  refine bt cS (i:=0) O (bQ O O (v:=(sV u1 (k-1).toNat)) O (gY hs1).2 (gY hs1).1 (cS.blk (i:=0) O) aF)<|fun Qu dm=>aa<|aq<|aE Kc<|V (fF O O J)<|aI rfl<|aa<| ?_
  refine⟨(k-1,v11,c12,(sV u1 (k-1).toNat),c18),aT,fr3.u4.u4.u4.u4.u4.u4.u1,(Hp.conv dm aO),(aJ I aO),J,J,?_,?_⟩
  .exact aeq
  exact aaa
 refine aY (id:=0) rfl<|SR<|va (v:=B true) rfl<|aa<|ai<|have ek:k=m:=J;?_
 subst ek
 exact iY O (v:=B true) O ⟨rfl,v1,c1,u1,c2,Au,Du,uD⟩
def Tryz.Td:Go.Shelf.Ren:=⟨fun|189=>161|125=>192|257=>191|128=>228|129=>229|294=>219|295=>220|296=>221|297=>222|298=>223|299=>224|216=>225|300=>226|301=>227|328=>244|329=>245|330=>246|331=>247|332=>248|215=>249|343=>257|n=>n,fun|28=>99|3=>3|46=>59|0=>0|51=>201|53=>35|4=>4|183=>247|182=>246|131=>174|5=>5|9=>9|218=>260|222=>264|228=>270|229=>271|n=>n,fun|n=>n⟩
theorem Tryz.aj2:Go.Proofs.Lays.n189 Tryz.prog Tryz.Td:={
 mixed:=aP
 f125:=func192.trans (aJ some aP)
 f128:=func228.trans (aJ some aP)
 f129:=func229.trans (aJ some aP)
 f189:=func161.trans (aJ some aP)
 f215:=func249.trans (aJ some aP)
 f216:=func225.trans (aJ some aP)
 f257:=func191.trans (aJ some aP)
 f294:=func219.trans (aJ some aP)
 f295:=func220.trans (aJ some aP)
 f296:=func221.trans (aJ some aP)
 f297:=func222.trans (aJ some aP)
 f298:=func223.trans (aJ some aP)
 f299:=func224.trans (aJ some aP)
 f300:=func226.trans (aJ some aP)
 f301:=func227.trans (aJ some aP)
 f328:=func244.trans (aJ some aP)
 f329:=func245.trans (aJ some aP)
 f330:=func246.trans (aJ some aP)
 f331:=func247.trans (aJ some aP)
 f332:=func248.trans (aJ some aP)
 f343:=func257.trans (aJ some aP)
 t0:=underlying0
 a0:=isAgg0
 z0:=sizeOf0
 v0:=Tryz.zeroValue0
 t3:=bf
 a3:=isAgg3
 z3:=a8
 v3:=Tryz.zeroValue3
 t4:=xg
 a4:=isAgg4
 z4:=nS
 v4:=Tryz.zeroValue4
 t5:=underlying5
 a5:=isAgg5
 z5:=sizeOf5
 v5:=Tryz.zeroValue5
 t9:=ic
 a9:=isAgg9
 z9:=jX
 v9:=Tryz.zeroValue9
 t28:=bz
 a28:=isAgg99
 z28:=dB
 v28:=Tryz.zeroValue99
 t46:=yU
 a46:=isAgg59
 z46:=sizeOf59
 v46:=Tryz.zeroValue59
 t51:=underlying201
 a51:=isAgg201
 z51:=sizeOf201
 v51:=Tryz.zeroValue201
 t53:=dZ
 a53:=isAgg35
 z53:=dg
 v53:=Tryz.zeroValue35
 t131:=underlying174
 a131:=isAgg174
 z131:=sizeOf174
 v131:=Tryz.zeroValue174
 t182:=underlying246
 a182:=isAgg246
 z182:=sizeOf246
 v182:=Tryz.zeroValue246
 t183:=underlying247
 a183:=isAgg247
 z183:=sizeOf247
 v183:=Tryz.zeroValue247
 t218:=underlying260
 a218:=isAgg260
 z218:=sizeOf260
 v218:=Tryz.zeroValue260
 t222:=underlying264
 a222:=isAgg264
 z222:=sizeOf264
 v222:=Tryz.zeroValue264
 t228:=underlying270
 a228:=isAgg270
 z228:=sizeOf270
 v228:=Tryz.zeroValue270
 t229:=underlying271
 a229:=isAgg271
 z229:=sizeOf271
 v229:=Tryz.zeroValue271}
section
open Go.Sort Go.Shelf
theorem atS(blk cap:Nat)(zs:List Int)(w:World)(hH:Holds (Value.int .i64) w blk 0 zs.toArray)(hblk:blk<w.heap.size)(hsz:zs.length<4611686018427387904):
  Calls Tryz.prog 161 #[.slice (some ⟨blk,0,none⟩) zs.length cap] w fun e w'=>e= .returned (.tuple #[])/\∃n os,w'=grow (putRow (Value.int .i64) (Sort.ahead w n) blk 0 (zs.mergeSort fun x y=>decide (x<=y)).toArray) os:=
 calls_of_every_depth fun D=>AnyS.slices_Sort_int_alone Tryz.aj2 D blk 0 cap zs w hH hblk hsz
theorem aab{w0 w:World}{L:List a7}{i:Nat}{v:Value}{e:TypeId}{zs:List Int}(hH:Hp w0 w L)(hi:L[i]?=some (.row v e 1 zs.length (zs.map I)))(hn:0<zs.length)(hs:zs.length<=4000000):
  Calls Tryz.prog 161 #[v] w (jj fun u w'=>u= .tuple #[]/\Hp w0 w' (L.set i (.row v e 1 zs.length ((zs.mergeSort fun x y=>decide (x<=y)).map I)))):=by
 obtain⟨hl,h2⟩:=hH.get hi
 rcases h2 with⟨rfl,q⟩|⟨gb,cap,cur,rfl,hb,hg,hnc,hm,hsz,ht⟩
 .omega
 have hlt:gb<w.heap.size:=(BA.1 hg).1
 have hlen:(zs.mergeSort fun x y=>decide (x<=y)).length=zs.length:=List.length_mergeSort _
 refine Calls.mono (atS gb cap zs w (holds_of_blockI hg (by rw[lE]at ht;exact ht)) hlt J) fun en w' ⟨he,n,os,hw⟩=> ?_
 subst he
 refine⟨rfl,?_⟩
 subst hw
 have h3:=ownsRow_sortedI (w:=w) (base:=w0.heap.size) (os:=os) (n:=n) (ss:=zs) (ts:=zs.mergeSort fun x y=>decide (x<=y)) hlen hb hg hnc hm hsz
 exact hH.xW hi h3 (grownBy_sortedI _) (.inr (.inl O))
end
theorem Bp{nA nB nC nD nE nF nG nH nI nJ nK nL:Value}(F:Nat)(vW vU vT:Value)(cnt:Int)(nd:List qa)(cl:List Nat)(i:Int)(hn:nd.length<=1000000)(hf:Fo nd cl)(w:World)(hb:w.heap[F]?=some (.cells #[nA,nB,nC,nD,nE,nF,nG,nH,vW,vU,vT,I cnt,nI,nJ,nK,nL] 111 (0,0)))(hW:Sl w vW 1 (bD nd).length ((bD nd).map U)):Calls Tryz.prog 129 #[.pointer (some ⟨F,8,none⟩),I i] w (qB 3 1 (bJ cl i).length ((bJ cl i).map I) w):=by
 have Z0:=ir nd
 refine eH func129 rfl rfl fun hH=>SR<|va (v:= .slice none 0 0) rfl<|have iI:=hH.fx 3 1;aa<|YX<|ag<|SR<|aE (v:=Pn _ _) rfl<|mI rfl<|aG O iI (mw _ _ _ _ _ _ _ nU _ (iI.ext hb) (hW.hp iI)) (aN call158 O O)<|fun w2 uD=>V (uO O)<|aa<|aD O (fun h7=> ?_) (fun h7=> ?_)
 .refine SR<|va (v:= .slice none 0 0) rfl<|have eU:=uD.fx 3 1;aa<|ai<|JM O O eU (i:=0) O ((by rw[PZ hf J];rfl)) ((by rw[PZ hf J];rfl))
 refine ak<|SR<|va (v:= .slice none 0 0) rfl<|have iJ:=uD.fx 3 1;aa<|SR<|mI rfl<|aI rfl<|aa<|ag<|YY<|ag<|ay<|have hin:0<=i/\i<nd.length:=J;?_
 obtain⟨t,ht,hmt⟩:=hf.ring i.toNat J
 have ZX:(i.toNat::t).length<=nd.length:=UR ht.2 fun k hk=>((hmt k).1 hk).1
 refine bk (G:=Nat×(List Nat)×(List Nat)×Value) (fun⟨a,o,m,v5⟩ s' w'=>(Fr (5::6::(rg 12 12 [])) _ s')/\(Hp w w' (.row v5 3 1 (o.length) ((o.map Int.ofNat).map I)::_))/\(s' 5=v5)/\(s' 6=I (a:Int))/\(i.toNat::t=o++a::m)/\(a<nd.length)/\(o.length+1<=nd.length)) (fun⟨a,o,m,v5⟩=>m.length) ((i.toNat,[],t,(.slice none 0 0:Value))) ⟨Fr.refl _ _,iJ,rfl,(aJ I (show i=((i.toNat:Nat):Int)by omega)),rfl,J,(by simp at ZX⊢;omega)⟩ ?_
 rintro⟨a,o,m,v5⟩ ZQ GJ ⟨sw,bV,NK,GU,he,ha,ho⟩
 obtain⟨Ek,ajB⟩:=sw.w2 0 1
 have hnx:=aa6 hf hn ha
 have hst:=Ix ht he
 refine ay<|SR<|aE NK<|aE GU<|xP 1 1 bV (cA bz O O (sz:=1) (vs:=[I _]) O O az az O O)<|fun KR FK cJ=> ?_
 (try simp only[o4]at cJ)
 refine jI O cJ (i:=1) O (cJ.dV (i:=0) (n:=1) (sz:=1) O O az) O O bz O O (size:=1) (bytes:=8) O O O az iF J gC<|fun v14 SY cI=> ?_
 refine V (run_assign bC) ?_
 refine aa<|SR<|aE Ek<|V (af O)<|V (fA hG 0 O uJ O)<|aE GU<|aG O cI (di _ _ _ _ _ _ _ _ J _ (cI.ext hb) (hW.hp cI)) (bB tD O O (show _=I 2 from O))<|fun OM dQ=>aI rfl<|aa<|SR<|mI rfl<|aE ajB<|V (bN O O)<|aa<|aD O (fun KP=> ?_) (fun KP=> ?_)
 .refine aY (id:=0) rfl<|SR<| ?_
  refine V (run_move bC) ?_
  have hzl:((o++[a]).map Int.ofNat).length<=4000000:=by rw[gB,cZ,gN];omega
  rw[show(o.map Int.ofNat).map I++[I (a:Int)]=((o++[a]).map Int.ofNat).map I by simp,show o.length+1=((o++[a]).map Int.ofNat).length by simp]at dQ
  refine bY O (aab (zs:=((o++[a]).map Int.ofNat)) (i:=1) (v:=v14) dQ O aF hzl) (an call161 O) ?_
  rintro _ Qu ⟨rfl,dm⟩
  refine aa<|SR<| ?_
  refine V (run_move bC) ?_
  refine V (run_assign bC) ?_
  refine aa<|ai<|JM O O dm (i:=1) O ((by rw[<-MK hf hin ht hmt he J,List.length_mergeSort])) ((by rw[<-MK hf hin ht hmt he J]))
 refine ak ?_
 refine⟨(sW nd a,o++[a],m.tail,v14),?_,sw.u4.u4.u4.u1.u1,(Hp.conv (dQ.sub (sQ sR)) aF),rfl,(aJ I (aa6 hf hn ha)),?_,?_,?_⟩
 .exact(zJ ht hmt he (fun e=>‹¬_=i› J)).2.2.2
 .exact(zJ ht hmt he (fun e=>‹¬_=i› J)).1
 .exact(zJ ht hmt he (fun e=>‹¬_=i› J)).2.1
 (have:=(zJ ht hmt he (fun e=>‹¬_=i› J)).2.2.1;have:=UR ht.2 (fun k hk=>((hmt k).1 hk).1);omega)
set_option maxHeartbeats 1000000 in
theorem DV{nA nB nC nD nE nF nG nH nI nJ nK nL:Value}(W0:World)(F:Nat)(vW vU vT:Value)(cnt:Int)(cW cU:Option (Nat×Array Value))(nd:List qa)(ul:List (Value×jD))(ts:List Int)(L:List a7)(hn:nd.length<=100000)(Oo:ul.length<=1000000)(hts:ts.length<=1000000)(TJ: -1000000<=cnt/\cnt<=1000000)(w:World)(yG:cO cW vW ((bD nd).map U))(JC:cO cU vU (ul.map Prod.fst))(hH:Hp W0 w (.blk F (.cells #[nA,nB,nC,nD,nE,nF,nG,nH,vW,vU,vT,I (cnt),nI,nJ,nK,nL] 111 (0,0))::cE cW vW 35 ((bD nd).map U)::cE cU vU 1 (ul.map Prod.fst):: .row vT 3 1 ts.length (ts.map I)::L)):Calls Tryz.prog 47 #[.pointer (some ⟨F,8,none⟩)] w (jj fun u w'=>u=I nd.length/\∃(v1:Value) (c1:Option (Nat×Array Value)) (u1:Value) (c2:Option (Nat×Array Value)) (t1:Value) (lT:List (Value×jD)) (Lb:List a7),cO c1 v1 ((bD (nd++[rf nd.length])).map U)/\cO c2 u1 (lT.map Prod.fst)/\lT.map Prod.snd=Oz (ul.map Prod.snd) (bD nd).length/\lT.take ul.length=ul/\(∀x∈lT.drop ul.length,o9 (⟨134,243,193,3,35,8⟩:UT) F Lb x)/\Hp W0 w' (.blk F (.cells #[nA,nB,nC,nD,nE,nF,nG,nH,v1,u1,t1,I (cnt+1),nI,nJ,nK,nL] 111 (0,0))::cE c1 v1 35 ((bD (nd++[rf nd.length])).map U)::cE c2 u1 1 (lT.map Prod.fst):: .row t1 3 1 (ts++[(ul.length:Int)]).length ((ts++[(ul.length:Int)]).map I)::(Lb++L))):=by
 have Z0:=ir nd
 refine en func47 rfl rfl<|SR<|va (v:=I 0) rfl<|aa<|ag<|SR<|aE (v:=Pn _ _) rfl<|V (kJ Lg O O)<|aa<|cL rfl<|ak<|SR<|aE (v:=Pn _ _) rfl<|aG O hH (lm _ _ _ _ _ _ J _ (hH.blk (i:=0) O) (hH.ye (i:=1) O yG)) (an call89 O)<|fun w1 aZ=>aI rfl<|aa<|ag<|gK aP aZ (sQ (sP (sP (sQ sR))))<|fun w3 gy=>have Er:=gy.sub (sQ (sP (sP (sQ sR))));AQ 0 O Er (mV (Pn _ _) O)<|AQ 1 O Er (mV (Pn _ _) O)<|AQ 2 O Er (af O)<|AQ 3 O Er (fA hG 2 O dB O)<|AQ 5 O Er (mV (Pn _ _) O)<|AQ 6 O Er (af O)<|AQ 7 O Er (fA hG 0 O uJ O)<|AQ 8 O Er (fA yR 0 O yX O)<|gD 4 9 aP ?_ ?_
 .refine cr O aH O gy (sQ (sP (sP (sQ sR)))) (aC bz O O (gy.cell (i:=0) O O))<|A1 9<|bX O aH O gy (sQ (sP (sP (sQ sR)))) (mv _ _ _ _ _ _ _ _ (gy.blk (i:=0) O) (gy.ye (i:=1) O yG) (gy.A6 (i:=2) O JC)) (an call90 O)<|fun w7 eU=>A1 10<|cK O aH O eU (sQ (sP (sP (sQ sR)))) (f:=fun b=> .slice (some ⟨b,0,none⟩) 1 1) (cA bz O O (sz:=1) (vs:=[I _]) O O az az O O)<|fun VT w9 bV=> ?_
  (try simp only[o4]at bV)
  refine A1 11<|lJ O aH O bV (j:=4) O (fun _=>(sQ (sQ (sP (sP (sQ sR)))))) (bV.dV (i:=0) (n:=1) (sz:=1) O O az) O O bz O O (size:=1) (bytes:=8) O O O az iF J gC<|fun v14 Bv cm=>AQ 12 O (cm.sub (sQ (sQ (sP (sP (sQ sR)))))) (af O)<|AQ 13 O (cm.sub (sQ (sQ (sP (sP (sQ sR)))))) (fA hG 2 O dB O)<|A1 14<|dU O aH cm (j:=1) O (sQ (sQ (sP (sP (sQ sR))))) (bQ O O (v:=v14) O (bj (cm.get (i:=4) O)).1 (bj (cm.get (i:=4) O)).2 (cm.blk (i:=1) O) aF)<|fun OM dQ=>AD<|ag<|SR<|mI rfl<|mI rfl<|mI rfl<|xP 4 4 dQ (cA bz O O (sz:=1) (vs:=[I _,I 1,I _,I _]) O O az az O O)<|fun b21 VV cS=> ?_
  (try simp only[o4]at cS)
  refine V (aA (cS.dV (i:=0) (n:=4) (sz:=1) O O az) O bz O)<|aE (v:=I 0) rfl<|aa<|ay<|have e0:((bD nd)++(FH (rf nd.length)).take (0:Int).toNat)=(bD nd):=aF;bk (G:=Int×Value×(Option (Nat×Array Value))×Value×(Option (Nat×Array Value))×(List (Value×jD))×(List a7)) (fun⟨k,v1,c1,u1,c2,lT,Z1⟩ s' w'=>(Fr (5::(rg 29 12 [])) _ s')/\(Hp W0 w' (_::_:: .blk F (.cells #[nA,nB,nC,nD,nE,nF,nG,nH,v1,u1,v14,I (cnt),nI,nJ,nK,nL] 111 (0,0))::cE c1 v1 35 (((bD nd)++(FH (rf nd.length)).take k.toNat).map U)::cE c2 u1 1 (lT.map Prod.fst)::_::Z1))/\(s' 29=I k)/\(0<=k)/\(k<=4)/\(cO c1 v1 (((bD nd)++(FH (rf nd.length)).take k.toNat).map U))/\(cO c2 u1 (lT.map Prod.fst))/\(lT.map Prod.snd=ul.map Prod.snd++ML (bD nd).length k)/\(lT.take ul.length=ul)/\(∃Lb,Z1=Lb++L/\∀x∈lT.drop ul.length,o9 (⟨134,243,193,3,35,8⟩:UT) F Lb x)/\(lT.length<=ul.length+k.toNat)) (fun⟨k,v1,c1,u1,c2,lT,Z1⟩=>(4-k).toNat) ((0,vW,cW,vU,cU,ul,L)) ⟨Fr.refl _ _,(by rw[e0];exact cS),rfl,J,J,RJ,JC,(by simp[ML]),(EG ..),⟨[],rfl,aF⟩,J⟩<| ?_
  rintro⟨k,v1,c1,u1,c2,lT,Z1⟩ axK OO ⟨J7,dm,aac,h0,h4,Au,Du,hms,hpt,hzz,anW⟩
  obtain⟨ap3,ayC,atT,atV⟩:=J7.w4 0 3 27 28
  refine SR<|V (aM aac atV)<|aa<|ag<|aD O (fun AM=> ?_) (fun AM=> ?_)
  .refine ak<|ag<|ay<|SR<|V (ah (dm.dV (i:=0) (n:=4) (sz:=1) O O az) bz a8 atT aac J)<|V (aC bf O O ((dm.dV (i:=0) (n:=4) (sz:=1) O O az).cell _ _ (YZ h0 ‹k<_›)))<|aI rfl<|aa<|aq<|aE ap3<|V (af O)<|V (fA hG 0 O uJ O)<|V (fA yR 0 O yX O)<|mI rfl<|V (ju bf dZ O)<|bY O (qZ _ _ _ _ _ _ _ _ _ _ _ _ XW J _ Au Du (dm.pj [2,2,2])) (aN call91 O O)<| ?_
   rintro _ w27 ⟨rfl,v30,c31,u32,e33,atW,ayD,aFx,aFy,aFz,ayE,aFA,ayF,h28⟩
   have gG:=Hp.mh (A:=[_,_,_]) (R:=[_,_,_]) h28
   simp only[gf,eC]at gG
   have yx:=gG.pk [3,3]
   refine aa<|aq<|V (ax aac O J)<|mI rfl<|aa<| ?_
   refine⟨(k+1,v30,c31,u32,e33,atW,(ayD++Z1)),aT,J7.u4.u4.u4.u1,(Hp.conv yx XX),(aJ I aO),J,J,?_,?_,?_,?_,?_,?_⟩
   ·(rw[Ki h0 ‹k<_›,<-dG];exact aFx)
   .exact aFy
   ·(rw[aFz,hms,Iz h0,<-dG,cZ,eP];congr 3;(have:(FH (rf nd.length)).length=4:=rfl);omega)
   ·(obtain⟨Lb0,rfl,Wp⟩:=hzz;exact(pc hpt ayE Wp ayF).1)
   ·(obtain⟨Lb0,rfl,Wp⟩:=hzz;exact⟨ayD++Lb0,by rw[dG],(pc hpt ayE Wp ayF).2⟩)
   (have:=aFA;omega)
  refine aY (id:=0) rfl<|SR<|aE ap3<|V (af O)<|V (fA hG 3 O a8 O)<|lI bf dm 2 O O rfl<|V (ax O O J)<|V (af O)<|V (fA hG 3 O a8 O)<|bt dm (i:=2) O (bQ O O (v:=I _) O O O (dm.blk (i:=2) O) aF)<|fun w43 vC=>aa<|SR<|aE ayC<|aI rfl<|aa<|ai<|have ek:k=4:=J;?_
  subst ek
  obtain⟨Lb0,rfl,Wp⟩:=hzz
  exact iY O (v:=I nd.length) O ⟨rfl,v1,c1,u1,c2,v14,lT,Lb0,X6,Du,(hms.trans Y0),hpt,Wp,(by rw[pZ,show(ts++[(ul.length:Int)]).length=ts.length+1 by simp,show(ts++[(ul.length:Int)]).map I=ts.map I++[I ((ul.map Prod.fst).length:Int)]by simp];exact(vC.pj [2,2,2,2]).sub (sP (sP (sP (sP (sQ (sQ sR)))))))⟩
 refine bX O aH O gy (sQ (sP (sP (sQ sR)))) (mv _ _ _ _ _ _ _ _ (gy.blk (i:=0) O) (gy.ye (i:=1) O yG) (gy.A6 (i:=2) O JC)) (an call90 O)<|fun w45 sx=>gD 4 10 aP ?_ ?_
 .refine cr O aH O sx (sQ (sP (sP (sQ sR)))) (aC bz O O (sx.cell (i:=0) O O))<|A1 10<|cK O aH O sx (sQ (sP (sP (sQ sR)))) (f:=fun b=> .slice (some ⟨b,0,none⟩) 1 1) (cA bz O O (sz:=1) (vs:=[I _]) O O az az O O)<|fun b51 w49 eT=> ?_
  (try simp only[o4]at eT)
  refine A1 11<|lJ O aH O eT (j:=4) O (fun _=>(sQ (sQ (sP (sP (sQ sR)))))) (eT.dV (i:=0) (n:=1) (sz:=1) O O az) O O bz O O (size:=1) (bytes:=8) O O O az iF J gC<|fun v54 w52 jU=>AQ 12 O (jU.sub (sQ (sQ (sP (sP (sQ sR)))))) (af O)<|AQ 13 O (jU.sub (sQ (sQ (sP (sP (sQ sR)))))) (fA hG 2 O dB O)<|A1 14<|dU O aH jU (j:=1) O (sQ (sQ (sP (sP (sQ sR))))) (bQ O O (v:=v54) O (bj (jU.get (i:=4) O)).1 (bj (jU.get (i:=4) O)).2 (jU.blk (i:=1) O) aF)<|fun w57 vD=>AD<|ag<|SR<|mI rfl<|mI rfl<|mI rfl<|xP 4 4 vD (cA bz O O (sz:=1) (vs:=[I _,I 1,I _,I _]) O O az az O O)<|fun b61 w59 G4=> ?_
  (try simp only[o4]at G4)
  refine V (aA (G4.dV (i:=0) (n:=4) (sz:=1) O O az) O bz O)<|aE (v:=I 0) rfl<|aa<|ay<|have e0:((bD nd)++(FH (rf nd.length)).take (0:Int).toNat)=(bD nd):=aF;bk (G:=Int×Value×(Option (Nat×Array Value))×Value×(Option (Nat×Array Value))×(List (Value×jD))×(List a7)) (fun⟨k,v1,c1,u1,c2,lT,Z1⟩ s' w'=>(Fr (5::(rg 29 12 [])) _ s')/\(Hp W0 w' (_::_:: .blk F (.cells #[nA,nB,nC,nD,nE,nF,nG,nH,v1,u1,v54,I (cnt),nI,nJ,nK,nL] 111 (0,0))::cE c1 v1 35 (((bD nd)++(FH (rf nd.length)).take k.toNat).map U)::cE c2 u1 1 (lT.map Prod.fst)::_::Z1))/\(s' 29=I k)/\(0<=k)/\(k<=4)/\(cO c1 v1 (((bD nd)++(FH (rf nd.length)).take k.toNat).map U))/\(cO c2 u1 (lT.map Prod.fst))/\(lT.map Prod.snd=ul.map Prod.snd++ML (bD nd).length k)/\(lT.take ul.length=ul)/\(∃Lb,Z1=Lb++L/\∀x∈lT.drop ul.length,o9 (⟨134,243,193,3,35,8⟩:UT) F Lb x)/\(lT.length<=ul.length+k.toNat)) (fun⟨k,v1,c1,u1,c2,lT,Z1⟩=>(4-k).toNat) ((0,vW,cW,vU,cU,ul,L)) ⟨Fr.refl _ _,(by rw[e0];exact G4),rfl,J,J,RJ,JC,(by simp[ML]),(EG ..),⟨[],rfl,aF⟩,J⟩<| ?_
  rintro⟨k,v1,c1,u1,c2,lT,Z1⟩ aNQ w62 ⟨ayH,tL,aad,h0,h4,Au,Du,hms,hpt,hzz,anW⟩
  obtain⟨ap4,ayI,atY,atZ⟩:=ayH.w4 0 3 27 28
  refine SR<|V (aM aad atZ)<|aa<|ag<|aD O (fun h64=> ?_) (fun h64=> ?_)
  .refine ak<|ag<|ay<|SR<|V (ah (tL.dV (i:=0) (n:=4) (sz:=1) O O az) bz a8 atY aad J)<|V (aC bf O O ((tL.dV (i:=0) (n:=4) (sz:=1) O O az).cell _ _ (YZ h0 ‹k<_›)))<|aI rfl<|aa<|aq<|aE ap4<|V (af O)<|V (fA hG 0 O uJ O)<|V (fA yR 0 O yX O)<|mI rfl<|V (ju bf dZ O)<|bY O (qZ _ _ _ _ _ _ _ _ _ _ _ _ XW J _ Au Du (tL.pj [2,2,2])) (aN call91 O O)<| ?_
   rintro _ w67 ⟨rfl,v70,c71,u72,e73,aFB,aer,aFC,aFD,aFE,ayJ,aFF,ayK,h68⟩
   have OX:=Hp.mh (A:=[_,_,_]) (R:=[_,_,_]) h68
   simp only[gf,eC]at OX
   have tM:=OX.pk [3,3]
   refine aa<|aq<|V (ax aad O J)<|mI rfl<|aa<| ?_
   refine⟨(k+1,v70,c71,u72,e73,aFB,(aer++Z1)),aT,ayH.u4.u4.u4.u1,(Hp.conv tM XX),(aJ I aO),J,J,?_,?_,?_,?_,?_,?_⟩
   ·(rw[Ki h0 ‹k<_›,<-dG];exact aFC)
   .exact aFD
   ·(rw[aFE,hms,Iz h0,<-dG,cZ,eP];congr 3;(have:(FH (rf nd.length)).length=4:=rfl);omega)
   ·(obtain⟨Lb0,rfl,Wp⟩:=hzz;exact(pc hpt ayJ Wp ayK).1)
   ·(obtain⟨Lb0,rfl,Wp⟩:=hzz;exact⟨aer++Lb0,by rw[dG],(pc hpt ayJ Wp ayK).2⟩)
   (have:=aFF;omega)
  refine aY (id:=0) rfl<|SR<|aE ap4<|V (af O)<|V (fA hG 3 O a8 O)<|lI bf tL 2 O O rfl<|V (ax O O J)<|V (af O)<|V (fA hG 3 O a8 O)<|bt tL (i:=2) O (bQ O O (v:=I _) O O O (tL.blk (i:=2) O) aF)<|fun w83 nr=>aa<|SR<|aE ayI<|aI rfl<|aa<|ai<|have ek:k=4:=J;?_
  subst ek
  obtain⟨Lb0,rfl,Wp⟩:=hzz
  exact iY O (v:=I nd.length) O ⟨rfl,v1,c1,u1,c2,v54,lT,Lb0,X6,Du,(hms.trans Y0),hpt,Wp,(by rw[pZ,show(ts++[(ul.length:Int)]).length=ts.length+1 by simp,show(ts++[(ul.length:Int)]).map I=ts.map I++[I ((ul.map Prod.fst).length:Int)]by simp];exact(nr.pj [2,2,2,2]).sub (sP (sP (sP (sP (sQ (sQ sR)))))))⟩
 refine cK O aH O sx (sQ (sP (sP (sQ sR)))) (f:=fun b=> .slice (some ⟨b,0,none⟩) 1 1) (cA bz O O (sz:=1) (vs:=[I _]) O O az az O O)<|fun b87 w85 wj=> ?_
 (try simp only[o4]at wj)
 refine A1 4<|cr O aH O wj (sQ (sQ (sP (sP (sQ sR))))) (aC bz O O (wj.cell (i:=1) O O))<|A1 11<|lJ O aH O wj (j:=4) O (fun _=>(sQ (sQ (sP (sP (sQ sR)))))) (wj.dV (i:=0) (n:=1) (sz:=1) O O az) O O bz O O (size:=1) (bytes:=8) O O O az iF J gC<|fun v92 w90 I2=>AQ 12 O (I2.sub (sQ (sQ (sP (sP (sQ sR)))))) (af O)<|AQ 13 O (I2.sub (sQ (sQ (sP (sP (sQ sR)))))) (fA hG 2 O dB O)<|A1 14<|dU O aH I2 (j:=1) O (sQ (sQ (sP (sP (sQ sR))))) (bQ O O (v:=v92) O (bj (I2.get (i:=4) O)).1 (bj (I2.get (i:=4) O)).2 (I2.blk (i:=1) O) aF)<|fun w95 vG=>AD<|ag<|SR<|mI rfl<|mI rfl<|mI rfl<|xP 4 4 vG (cA bz O O (sz:=1) (vs:=[I _,I 1,I _,I _]) O O az az O O)<|fun b99 w97 G0=> ?_
 (try simp only[o4]at G0)
 refine V (aA (G0.dV (i:=0) (n:=4) (sz:=1) O O az) O bz O)<|aE (v:=I 0) rfl<|aa<|ay<|have e0:((bD nd)++(FH (rf nd.length)).take (0:Int).toNat)=(bD nd):=aF;bk (G:=Int×Value×(Option (Nat×Array Value))×Value×(Option (Nat×Array Value))×(List (Value×jD))×(List a7)) (fun⟨k,v1,c1,u1,c2,lT,Z1⟩ s' w'=>(Fr (5::(rg 29 12 [])) _ s')/\(Hp W0 w' (_::_:: .blk F (.cells #[nA,nB,nC,nD,nE,nF,nG,nH,v1,u1,v92,I (cnt),nI,nJ,nK,nL] 111 (0,0))::cE c1 v1 35 (((bD nd)++(FH (rf nd.length)).take k.toNat).map U)::cE c2 u1 1 (lT.map Prod.fst)::_::Z1))/\(s' 29=I k)/\(0<=k)/\(k<=4)/\(cO c1 v1 (((bD nd)++(FH (rf nd.length)).take k.toNat).map U))/\(cO c2 u1 (lT.map Prod.fst))/\(lT.map Prod.snd=ul.map Prod.snd++ML (bD nd).length k)/\(lT.take ul.length=ul)/\(∃Lb,Z1=Lb++L/\∀x∈lT.drop ul.length,o9 (⟨134,243,193,3,35,8⟩:UT) F Lb x)/\(lT.length<=ul.length+k.toNat)) (fun⟨k,v1,c1,u1,c2,lT,Z1⟩=>(4-k).toNat) ((0,vW,cW,vU,cU,ul,L)) ⟨Fr.refl _ _,(by rw[e0];exact G0),rfl,J,J,RJ,JC,(by simp[ML]),(EG ..),⟨[],rfl,aF⟩,J⟩<| ?_
 rintro⟨k,v1,c1,u1,c2,lT,Z1⟩ aKf at1 ⟨ap5,vF,Te,h0,h4,Au,Du,hms,hpt,hzz,anW⟩
 obtain⟨aj4,at2,anX,anY⟩:=ap5.w4 0 3 27 28
 refine SR<|V (aM Te anY)<|aa<|ag<|aD O (fun aFG=> ?_) (fun aFG=> ?_)
 .refine ak<|ag<|ay<|SR<|V (ah (vF.dV (i:=0) (n:=4) (sz:=1) O O az) bz a8 anX Te J)<|V (aC bf O O ((vF.dV (i:=0) (n:=4) (sz:=1) O O az).cell _ _ (YZ h0 ‹k<_›)))<|aI rfl<|aa<|aq<|aE aj4<|V (af O)<|V (fA hG 0 O uJ O)<|V (fA yR 0 O yX O)<|mI rfl<|V (ju bf dZ O)<|bY O (qZ _ _ _ _ _ _ _ _ _ _ _ _ XW J _ Au Du (vF.pj [2,2,2])) (aN call91 O O)<| ?_
  rintro _ at3 ⟨rfl,aFH,aFI,aFJ,aFK,ayL,ap6,aj5,ayM,ayN,ap7,ayO,ap8,at4⟩
  have QG:=Hp.mh (A:=[_,_,_]) (R:=[_,_,_]) at4
  simp only[gf,eC]at QG
  have ayP:=QG.pk [3,3]
  refine aa<|aq<|V (ax Te O J)<|mI rfl<|aa<| ?_
  refine⟨(k+1,aFH,aFI,aFJ,aFK,ayL,(ap6++Z1)),aT,ap5.u4.u4.u4.u1,(Hp.conv ayP XX),(aJ I aO),J,J,?_,?_,?_,?_,?_,?_⟩
  ·(rw[Ki h0 ‹k<_›,<-dG];exact aj5)
  .exact ayM
  ·(rw[ayN,hms,Iz h0,<-dG,cZ,eP];congr 3;(have:(FH (rf nd.length)).length=4:=rfl);omega)
  ·(obtain⟨Lb0,rfl,Wp⟩:=hzz;exact(pc hpt ap7 Wp ap8).1)
  ·(obtain⟨Lb0,rfl,Wp⟩:=hzz;exact⟨ap6++Lb0,by rw[dG],(pc hpt ap7 Wp ap8).2⟩)
  (have:=ayO;omega)
 refine aY (id:=0) rfl<|SR<|aE aj4<|V (af O)<|V (fA hG 3 O a8 O)<|lI bf vF 2 O O rfl<|V (ax O O J)<|V (af O)<|V (fA hG 3 O a8 O)<|bt vF (i:=2) O (bQ O O (v:=I _) O O O (vF.blk (i:=2) O) aF)<|fun aFL aj6=>aa<|SR<|aE at2<|aI rfl<|aa<|ai<|have ek:k=4:=J;?_
 subst ek
 obtain⟨Lb0,rfl,Wp⟩:=hzz
 exact iY O (v:=I nd.length) O ⟨rfl,v1,c1,u1,c2,v92,lT,Lb0,X6,Du,(hms.trans Y0),hpt,Wp,(by rw[pZ,show(ts++[(ul.length:Int)]).length=ts.length+1 by simp,show(ts++[(ul.length:Int)]).map I=ts.map I++[I ((ul.map Prod.fst).length:Int)]by simp];exact(aj6.pj [2,2,2,2]).sub (sP (sP (sP (sP (sQ (sQ sR)))))))⟩
set_option maxHeartbeats 1000000 in
theorem Bq{nA nB nC nD nE nF nG nH nI nJ nK nL:Value}(W0:World)(F:Nat)(vW vU vT:Value)(cnt:Int)(cW cU:Option (Nat×Array Value))(nd:List qa)(ul:List (Value×jD))(ts:List Int)(L:List a7)(cl:List Nat)(i j:Int)(hn:nd.length<=100000)(Oo:ul.length<=1000000)(hts:ts.length<=1000000)(TJ: -1000000<=cnt/\cnt<=1000000)(hf:Fo nd cl)(w:World)(yG:cO cW vW ((bD nd).map U))(JC:cO cU vU (ul.map Prod.fst))(hH:Hp W0 w (.blk F (.cells #[nA,nB,nC,nD,nE,nF,nG,nH,vW,vU,vT,I (cnt),nI,nJ,nK,nL] 111 (0,0))::cE cW vW 35 ((bD nd).map U)::cE cU vU 1 (ul.map Prod.fst):: .row vT 3 1 ts.length (ts.map I)::L)):Calls Tryz.prog 156 #[.pointer (some ⟨F,8,none⟩),I i,I j] w (jj fun u w'=>(u=B false/\¬ID nd.length cl i j/\Hp W0 w' (.blk F (.cells #[nA,nB,nC,nD,nE,nF,nG,nH,vW,vU,vT,I (cnt),nI,nJ,nK,nL] 111 (0,0))::cE cW vW 35 ((bD nd).map U)::cE cU vU 1 (ul.map Prod.fst):: .row vT 3 1 ts.length (ts.map I)::L))\/(u=B true/\∃(a b:Nat),UnP nd cl i j a b/\∃(v1:Value) (c1:Option (Nat×Array Value)) (u1:Value) (c2:Option (Nat×Array Value)) (t1:Value) (lT:List (Value×jD)) (Lb:List a7),cO c1 v1 ((bD (o8 nd a b)).map U)/\cO c2 u1 (lT.map Prod.fst)/\l7 (bD nd) (ul.map Prod.snd) (bD (o8 nd a b)) (lT.map Prod.snd)/\lT.take ul.length=ul/\lT.length<=ul.length+5/\(∀x∈lT.drop ul.length,o9 (⟨134,243,193,3,35,8⟩:UT) F Lb x)/\Hp W0 w' (.blk F (.cells #[nA,nB,nC,nD,nE,nF,nG,nH,v1,u1,t1,I (cnt-1),nI,nJ,nK,nL] 111 (0,0))::cE c1 v1 35 ((bD (o8 nd a b)).map U)::cE c2 u1 1 (lT.map Prod.fst):: .row t1 3 1 (ts++[(ul.length:Int)]).length ((ts++[(ul.length:Int)]).map I)::(Lb++L)))):=by
 have Z0:=ir nd
 refine en func156 rfl rfl<|SR<|va (v:=B false) rfl<|aa<|ag<|SR<|aE (v:=Pn _ _) rfl<|mI rfl<|aG O hH (mw _ _ _ _ _ _ _ J _ (hH.blk (i:=0) O) (hH.ye (i:=1) O yG)) (aN call158 O O)<|fun w1 aZ=>V (uO O)<|mB rfl<|bM 16 O (fun h6=> ?_) (fun h6=> ?_)
 .refine aE (v:=B true) rfl<|aa<|cC rfl<|SR<|va (v:=B false) rfl<|aa<|ai<|iY O (v:=B false) O (.inl ⟨rfl,(by exact ar5 J),aZ⟩)
 refine aE (v:=Pn _ _) rfl<|mI rfl<|aG O aZ (mw _ _ _ _ _ _ _ J _ (aZ.blk (i:=0) O) (aZ.ye (i:=1) O yG)) (aN call158 O O)<|fun w7 eU=>V (uO O)<|mB rfl<|aa<|aD O (fun h12=> ?_) (fun h12=> ?_)
 .refine SR<|va (v:=B false) rfl<|aa<|ai<|iY O (v:=B false) O (.inl ⟨rfl,(by exact ar6 J),eU⟩)
 refine ak<|SR<|aE (v:=Pn _ _) rfl<|mI rfl<|aG O eU (oq _ _ _ _ _ nd cl _ J nU J _ (eU.blk (i:=0) O) (eU.ye (i:=1) O yG)) (aN call160 O O)<|fun Bw cg=>aE (v:=Pn _ _) rfl<|mI rfl<|aG O cg (oq _ _ _ _ _ nd cl _ J nU J _ (cg.blk (i:=0) O) (cg.ye (i:=1) O yG)) (aN call160 O O)<|fun SY cI=>aI rfl<|aI rfl<|aa<|ag<|SR<|mI rfl<|mI rfl<|V (bN O O)<|aa<|aD O (fun pS=> ?_) (fun pS=> ?_)
 .refine SR<|va (v:=B false) rfl<|aa<|ai<|iY O (v:=B false) O (.inl ⟨rfl,(by exact ar7 hf J J J),cI⟩)
 refine ak<|SR<|aE (v:=Pn _ _) rfl<|V (af O)<|V (fA hG 0 O uJ O)<|va (v:=Pn _ _) rfl<|aa<|E4 (G:=(Value)) cI (rg 34 13 []) (fun(L:List a7) (t1:(Value))=>((L).set 0 (.blk F (.cells #[nA,nB,nC,nD,nE,nF,nG,nH,vW,vU,t1,I (cnt),nI,nJ,nK,nL] 111 (0,0)))).set 3 (.row t1 3 1 (ts.length+1) (ts.map I++[I ((ul.map Prod.fst).length:Int)]))) (fun(t1:(Value)) s'=>True) ?_ ?_
 .refine gK aP cI (sQ (sP (sP (sQ sR))))<|fun VV cS=>have Aa:=cS.sub (sQ (sP (sP (sQ sR))));AQ 0 O Aa (mV (Pn _ _) O)<|AQ 1 O Aa (mV (Pn _ _) O)<|AQ 2 O Aa (af O)<|AQ 3 O Aa (fA hG 2 O dB O)<|AQ 5 O Aa (mV (Pn _ _) O)<|AQ 6 O Aa (af O)<|AQ 7 O Aa (fA yR 0 O yX O)<|gD 4 8 aP ?_ ?_
  .refine cr O aH O cS (sQ (sP (sP (sQ sR)))) (aC bz O O (cS.cell (i:=0) O O))<|A1 8<|bX O aH O cS (sQ (sP (sP (sQ sR)))) (mv _ _ _ _ _ _ _ _ (cS.blk (i:=0) O) (cS.ye (i:=1) O yG) (cS.A6 (i:=2) O JC)) (an call90 O)<|fun w23 mK=>A1 9<|cK O aH O mK (sQ (sP (sP (sQ sR)))) (f:=fun b=> .slice (some ⟨b,0,none⟩) 1 1) (cA bz O O (sz:=1) (vs:=[I _]) O O az az O O)<|fun b27 w25 kG=> ?_
   (try simp only[o4]at kG)
   refine A1 10<|lJ O aH O kG (j:=4) O (fun _=>(sQ (sQ (sP (sP (sQ sR)))))) (kG.dV (i:=0) (n:=1) (sz:=1) O O az) O O bz O O (size:=1) (bytes:=8) O O O az iF J gC<|fun v30 w28 gG=>AQ 11 O (gG.sub (sQ (sQ (sP (sP (sQ sR)))))) (af O)<|AQ 12 O (gG.sub (sQ (sQ (sP (sP (sQ sR)))))) (fA hG 2 O dB O)<|A1 13<|dU O aH gG (j:=1) O (sQ (sQ (sP (sP (sQ sR))))) (bQ O O (v:=v30) O (bj (gG.get (i:=4) O)).1 (bj (gG.get (i:=4) O)).2 (gG.blk (i:=1) O) aF)<|fun w33 ni=>AD<| ?_
   refine⟨((Fr.refl _ _)).u4.u4.u4.u1,v30,(Hp.conv (ni.sub (sQ sR)) aO),trivial⟩
  refine bX O aH O cS (sQ (sP (sP (sQ sR)))) (mv _ _ _ _ _ _ _ _ (cS.blk (i:=0) O) (cS.ye (i:=1) O yG) (cS.A6 (i:=2) O JC)) (an call90 O)<|fun w35 oe=>gD 4 9 aP ?_ ?_
  .refine cr O aH O oe (sQ (sP (sP (sQ sR)))) (aC bz O O (oe.cell (i:=0) O O))<|A1 9<|cK O aH O oe (sQ (sP (sP (sQ sR)))) (f:=fun b=> .slice (some ⟨b,0,none⟩) 1 1) (cA bz O O (sz:=1) (vs:=[I _]) O O az az O O)<|fun b41 w39 oy=> ?_
   (try simp only[o4]at oy)
   refine A1 10<|lJ O aH O oy (j:=4) O (fun _=>(sQ (sQ (sP (sP (sQ sR)))))) (oy.dV (i:=0) (n:=1) (sz:=1) O O az) O O bz O O (size:=1) (bytes:=8) O O O az iF J gC<|fun v44 w42 kZ=>AQ 11 O (kZ.sub (sQ (sQ (sP (sP (sQ sR)))))) (af O)<|AQ 12 O (kZ.sub (sQ (sQ (sP (sP (sQ sR)))))) (fA hG 2 O dB O)<|A1 13<|dU O aH kZ (j:=1) O (sQ (sQ (sP (sP (sQ sR))))) (bQ O O (v:=v44) O (bj (kZ.get (i:=4) O)).1 (bj (kZ.get (i:=4) O)).2 (kZ.blk (i:=1) O) aF)<|fun w47 nj=>AD<| ?_
   refine⟨((Fr.refl _ _)).u4.u4.u4.u1,v44,(Hp.conv (nj.sub (sQ sR)) aO),trivial⟩
  refine cK O aH O oe (sQ (sP (sP (sQ sR)))) (f:=fun b=> .slice (some ⟨b,0,none⟩) 1 1) (cA bz O O (sz:=1) (vs:=[I _]) O O az az O O)<|fun b51 w49 eT=> ?_
  (try simp only[o4]at eT)
  refine A1 4<|cr O aH O eT (sQ (sQ (sP (sP (sQ sR))))) (aC bz O O (eT.cell (i:=1) O O))<|A1 10<|lJ O aH O eT (j:=4) O (fun _=>(sQ (sQ (sP (sP (sQ sR)))))) (eT.dV (i:=0) (n:=1) (sz:=1) O O az) O O bz O O (size:=1) (bytes:=8) O O O az iF J gC<|fun v56 w54 jg=>AQ 11 O (jg.sub (sQ (sQ (sP (sP (sQ sR)))))) (af O)<|AQ 12 O (jg.sub (sQ (sQ (sP (sP (sQ sR)))))) (fA hG 2 O dB O)<|A1 13<|dU O aH jg (j:=1) O (sQ (sQ (sP (sP (sQ sR))))) (bQ O O (v:=v56) O (bj (jg.get (i:=4) O)).1 (bj (jg.get (i:=4) O)).2 (jg.blk (i:=1) O) aF)<|fun w59 G4=>AD<| ?_
  refine⟨((Fr.refl _ _)).u4.u4.u4.u1,v56,(Hp.conv (G4.sub (sQ sR)) aO),trivial⟩
 rintro t1 aNV w61 aFM Ag-
 obtain⟨ayQ,aKh,aj7,aj8,aj9⟩:=aFM.w5 0 6 7 8 9
 refine E4 (G:=(Nat)×(Nat)) Ag (7::8::(rg 47 9 [])) (fun(L:List a7) (⟨a,b⟩:(Nat)×(Nat))=>L) (fun(⟨a,b⟩:(Nat)×(Nat)) s'=>(s' 7=I (a:Int))/\(s' 8=I (b:Int))/\(UnP nd cl i j a b)) ?_ ?_
 .refine SR<|aE aj9<|aE aj7<|aG O Ag (di _ _ _ _ _ _ _ _ afd _ (Ag.blk (i:=0) O) (Ag.ye (i:=1) O yG)) (bB tD O O (show _=I 1 from O))<|fun w62 pT=>aE aj9<|aE aj8<|aG O pT (di _ _ _ _ _ _ _ _ afd _ (pT.blk (i:=0) O) (pT.ye (i:=1) O yG)) (bB tD O O (show _=I 1 from O))<|fun w64 Bl=>V (aM O O)<|aa<|aD O (fun h67=> ?_) (fun h67=> ?_)
  .refine aq<|aE aj8<|aE aj7<|aI rfl<|aI rfl<|aa<| ?_
   refine⟨((Fr.refl _ _)).u4.u4.u1.u1.u1,(oJ nd cl j.toNat,oJ nd cl i.toNat),Bl,(aJ I aO),(aJ I aO),?_⟩
   exact(U9 hf J J J).swap
  refine ak ?_
  refine⟨((Fr.refl _ _)).u4.u1.u1.u1,(oJ nd cl i.toNat,oJ nd cl j.toNat),Bl,(jW aj7 (aJ I aO)),(jW aj8 (aJ I aO)),?_⟩
  exact U9 hf J J J
 rintro⟨a,b⟩ aNW w68 aFN mM ⟨N0,Wq,hP⟩
 obtain⟨ayR,CU⟩:=aFN.t2 0 ayQ 9 aj9
 have ha:=hP.ha
 have hb:=hP.hb
 have hab:=hP.ab
 have sa:=hf.small ha
 have sb:=hf.small hb
 have ta:=hf.ahR ha hP.ua
 have tb:=hf.ahR hb hP.ub
 refine SR<|aE CU<|aE Wq<|aE N0<|bY O (j9 _ _ _ _ _ _ _ _ _ _ _ _ _ _ J J J _ yG JC mM) (jm call189 O O (show _=I 0 from O) O)<| ?_
 rintro _ w71 ⟨rfl,v74,c75,u76,e77,ayS,aNZ,anZ,aFO,aFP,aFQ,aN0,aFR,h72⟩
 have wh:=Hp.mh (A:=[_,_,_]) (R:=[_]) h72
 simp only[gf,eC]at wh
 have l1:(ko nd b a).length=nd.length:=by simp[ko,m4,rh,vc]
 have pU:=ir (ko nd b a)
 have lt1:l7 (bD nd) (ul.map Prod.snd) (bD (ko nd b a)) (ayS.map Prod.snd):=by rw[aFP,<-ahy (nd:=nd) hb];exact l7.set J
 rw[ahy hb]at anZ wh
 have la1:=lt1
 have dr1:=And.intro aFQ aFR
 refine aa<|SR<|aE CU<|aE N0<|aE CU<|aE N0<|aG O wh (di _ _ _ _ _ _ _ _ J _ (wh.blk (i:=0) O) (wh.ye (i:=1) O anZ)) (bB tD O O (show _=I 1 from O))<|fun w86 IX=>have c64:=apb (nd:=(ko nd b a)) (a:=a) (v:=kA nd a) (by rw[l1];exact ha) US J;aE CU<|aE Wq<|aG O IX (di _ _ _ _ _ _ _ _ J _ (IX.blk (i:=0) O) (IX.ye (i:=1) O anZ)) (bB tD O O (show _=I 1 from O))<|fun w88 I3=>have c67:=apb (nd:=(ko nd b a)) (a:=b) (v:=kA nd b) (by rw[l1];exact hb) US J;V (ax (aJ I c64) (aJ I c67) J)<|bY O (j9 _ _ _ _ _ _ _ _ _ _ _ _ _ _ J J J _ anZ aFO I3) (jm call189 O O (show _=I 1 from O) (aJ I (show _=((kA nd a+kA nd b:Nat):Int)from by omega)))<| ?_
 rintro _ w92 ⟨rfl,v95,c96,u97,e98,ayT,aka,ab2,ayU,ayV,ayW,aKj,ayX,h93⟩
 have wm:=Hp.mh (A:=[_,_,_]) (R:=[_]) h93
 simp only[gf,eC]at wm
 have l2:(m4 (ko nd b a) a (kA nd a+kA nd b)).length=nd.length:=by simp[ko,m4,rh,vc]
 have JW:=ir (m4 (ko nd b a) a (kA nd a+kA nd b))
 have lt2:l7 (bD (ko nd b a)) (ayS.map Prod.snd) (bD (m4 (ko nd b a) a (kA nd a+kA nd b))) (ayT.map Prod.snd):=by rw[ayV,<-ahz (nd:=(ko nd b a)) (by rw[l1];exact ha)];exact l7.set J
 rw[ahz (by rw[l1];exact ha)]at ab2 wm
 have la2:=la1.trans lt2
 have dr2:=pc dr1.1 ayW dr1.2 ayX
 refine aa<|SR<|aE CU<|aE N0<|aE CU<|aE N0<|aG O wm (di _ _ _ _ _ _ _ _ J _ (wm.blk (i:=0) O) (wm.ye (i:=1) O ab2)) (bB tD O O (show _=I 3 from O))<|fun ayY Ws=>have c74:=apd (nd:=(m4 (ko nd b a) a (kA nd a+kA nd b))) (a:=a) (v:=qq nd a) (by rw[l2];exact ha) (UY.trans UW) J;aE CU<|aE Wq<|aG O Ws (di _ _ _ _ _ _ _ _ J _ (Ws.blk (i:=0) O) (Ws.ye (i:=1) O ab2)) (bB tD O O (show _=I 3 from O))<|fun ayZ G1=>have c77:=apd (nd:=(m4 (ko nd b a) a (kA nd a+kA nd b))) (a:=b) (v:=qq nd b) (by rw[l2];exact hb) (UY.trans UW) J;V (uP (aJ I c74) (aJ I c77))<|bY O (j9 _ _ _ _ _ _ _ _ _ _ _ _ _ _ J J J _ ab2 ayU G1) (jm call189 O O (show _=I 3 from O) (aJ I (show _=((min (qq nd a) (qq nd b):Nat):Int)from by omega)))<| ?_
 rintro _ aFU ⟨rfl,aOb,aOc,aOd,aOe,ap9,aKl,ab3,ay0,ay1,ay2,aKm,ay3,at5⟩
 have JD:=Hp.mh (A:=[_,_,_]) (R:=[_]) at5
 simp only[gf,eC]at JD
 have l3:(rh (m4 (ko nd b a) a (kA nd a+kA nd b)) a (min (qq nd a) (qq nd b))).length=nd.length:=by simp[ko,m4,rh,vc]
 have wl3:=ir (rh (m4 (ko nd b a) a (kA nd a+kA nd b)) a (min (qq nd a) (qq nd b)))
 have lt3:l7 (bD (m4 (ko nd b a) a (kA nd a+kA nd b))) (ayT.map Prod.snd) (bD (rh (m4 (ko nd b a) a (kA nd a+kA nd b)) a (min (qq nd a) (qq nd b)))) (ap9.map Prod.snd):=by rw[ay1,<-ahA (nd:=(m4 (ko nd b a) a (kA nd a+kA nd b))) (by rw[l2];exact ha)];exact l7.set J
 rw[ahA (by rw[l2];exact ha)]at ab3 JD
 have la3:=la2.trans lt3
 have dr3:=pc dr2.1 ay2 dr2.2 ay3
 refine aa<|SR<|aE CU<|aE N0<|aG O JD (di _ _ _ _ _ _ _ _ J _ (JD.blk (i:=0) O) (JD.ye (i:=1) O ab3)) (bB tD O O (show _=I 2 from O))<|fun aFV Es=>have c82:=apc (nd:=(rh (m4 (ko nd b a) a (kA nd a+kA nd b)) a (min (qq nd a) (qq nd b)))) (a:=a) (v:=sW nd a) (by rw[l3];exact ha) (UZ.trans (UX.trans UU)) J;aE CU<|aE Wq<|aG O Es (di _ _ _ _ _ _ _ _ J _ (Es.blk (i:=0) O) (Es.ye (i:=1) O ab3)) (bB tD O O (show _=I 2 from O))<|fun aFW ab4=>have c85:=apc (nd:=(rh (m4 (ko nd b a) a (kA nd a+kA nd b)) a (min (qq nd a) (qq nd b)))) (a:=b) (v:=sW nd b) (by rw[l3];exact hb) (UZ.trans (UX.trans UU)) J;V (run_assign (aJ I c82))<|V (run_assign (aJ I c85))<|aa<|SR<|aE CU<|aE N0<|mI rfl<|bY O (j9 _ _ _ _ _ _ _ _ _ _ _ _ _ _ J J J _ ab3 ay0 ab4) (jm call189 O O (show _=I 2 from O) O)<| ?_
 rintro _ aOj ⟨rfl,aOk,aOl,aOm,aOn,aqa,aKo,aqb,ay4,ay5,ay6,aKp,ay7,aFX⟩
 have G5:=Hp.mh (A:=[_,_,_]) (R:=[_]) aFX
 simp only[gf,eC]at G5
 have l4:(vc (rh (m4 (ko nd b a) a (kA nd a+kA nd b)) a (min (qq nd a) (qq nd b))) a (sW nd b)).length=nd.length:=by simp[ko,m4,rh,vc]
 have wl4:=ir (vc (rh (m4 (ko nd b a) a (kA nd a+kA nd b)) a (min (qq nd a) (qq nd b))) a (sW nd b))
 have lt4:l7 (bD (rh (m4 (ko nd b a) a (kA nd a+kA nd b)) a (min (qq nd a) (qq nd b)))) (ap9.map Prod.snd) (bD (vc (rh (m4 (ko nd b a) a (kA nd a+kA nd b)) a (min (qq nd a) (qq nd b))) a (sW nd b))) (aqa.map Prod.snd):=by rw[ay5,<-Ss (nd:=(rh (m4 (ko nd b a) a (kA nd a+kA nd b)) a (min (qq nd a) (qq nd b)))) (by rw[l3];exact ha)];exact l7.set J
 rw[Ss (by rw[l3];exact ha)]at aqb G5
 have la4:=la3.trans lt4
 have dr4:=pc dr3.1 ay6 dr3.2 ay7
 refine aa<|SR<|aE CU<|aE Wq<|mI rfl<|bY O (j9 _ _ _ _ _ _ _ _ _ _ _ _ _ _ J J J _ aqb ay4 G5) (jm call189 O O (show _=I 2 from O) O)<| ?_
 rintro _ aOq ⟨rfl,v154,aFY,aFZ,aF0,aqc,aKr,akb,ay8,ay9,aza,aKs,azb,aF1⟩
 have JE:=Hp.mh (A:=[_,_,_]) (R:=[_]) aF1
 simp only[gf,eC]at JE
 have l5:(vc (vc (rh (m4 (ko nd b a) a (kA nd a+kA nd b)) a (min (qq nd a) (qq nd b))) a (sW nd b)) b (sW nd a)).length=nd.length:=by simp[ko,m4,rh,vc]
 have wl5:=ir (vc (vc (rh (m4 (ko nd b a) a (kA nd a+kA nd b)) a (min (qq nd a) (qq nd b))) a (sW nd b)) b (sW nd a))
 have lt5:l7 (bD (vc (rh (m4 (ko nd b a) a (kA nd a+kA nd b)) a (min (qq nd a) (qq nd b))) a (sW nd b))) (aqa.map Prod.snd) (bD (vc (vc (rh (m4 (ko nd b a) a (kA nd a+kA nd b)) a (min (qq nd a) (qq nd b))) a (sW nd b)) b (sW nd a))) (aqc.map Prod.snd):=by rw[ay9,<-Ss (nd:=(vc (rh (m4 (ko nd b a) a (kA nd a+kA nd b)) a (min (qq nd a) (qq nd b))) a (sW nd b))) (by rw[l4];exact hb)];exact l7.set J
 rw[Ss (by rw[l4];exact hb)]at akb JE
 have la5:=la4.trans lt5
 have dr5:=pc dr4.1 aza dr4.2 azb
 refine aa<|SR<|aE ayR<|V (af O)<|V (fA hG 3 O a8 O)<|lI bf JE 0 O O rfl<|V (fF O O J)<|V (af O)<|V (fA hG 3 O a8 O)<|bt JE (i:=0) O (bQ O O (v:=I _) O O O (JE.blk (i:=0) O) aF)<|fun aOs akc=>aa<|SR<|va (v:=B true) rfl<|aa<|ai<|have hE:=akc;?_
 rw[ahv ha hb hab]at hE akb la5
 refine iY O (v:=B true) O (.inr ⟨rfl,a,b,hP,v154,aFY,aFZ,aF0,t1,aqc,_,akb,ay8,la5,dr5.1,J,dr5.2,?_⟩)
 rw[show(ts++[(ul.length:Int)]).length=ts.length+1 by simp,show(ts++[(ul.length:Int)]).map I=ts.map I++[I ((ul.map Prod.fst).length:Int)]by simp];simp only[dG];exact hE
set_option maxHeartbeats 1000000 in
theorem CV{nA nB nC nD nE nF nG nH nI nJ nK nL:Value}(W0:World)(F:Nat)(vW vU vT:Value)(cnt:Int)(cW cU:Option (Nat×Array Value))(W:List (BitVec 64))(ul:List (Value×jD))(tn:List Nat)(cs:List (List Nat))(L:List a7)(m:Int)(Oo:ul.length<=1000000)(htn:tn.length<=100000)(hs:Hs W (ul.map Prod.snd) tn cs)(hok:MG W.length (ul.map Prod.snd))(hI:∀x∈ul,o9 (⟨134,243,193,3,35,8⟩:UT) F L x)(TJ:cnt=(leads (cs.headD []):Nat))(w:World)(yG:cO cW vW (W.map U))(JC:cO cU vU (ul.map Prod.fst))(hH:Hp W0 w (.blk F (.cells #[nA,nB,nC,nD,nE,nF,nG,nH,vW,vU,vT,I (cnt),nI,nJ,nK,nL] 111 (0,0))::cE cW vW 35 (W.map U)::cE cU vU 1 (ul.map Prod.fst):: .row vT 3 1 tn.length ((JT tn).map I)::L)):Calls Tryz.prog 49 #[.pointer (some ⟨F,8,none⟩),I m] w (jj fun u w'=>(u=B false/\(tn.length:Int)<m/\Hp W0 w' (.blk F (.cells #[nA,nB,nC,nD,nE,nF,nG,nH,vW,vU,vT,I (cnt),nI,nJ,nK,nL] 111 (0,0))::cE cW vW 35 (W.map U)::cE cU vU 1 (ul.map Prod.fst):: .row vT 3 1 tn.length ((JT tn).map I)::L))\/(u=B true/\m<=tn.length/\∃(v1:Value) (c1:Option (Nat×Array Value)) (u1:Value) (c2:Option (Nat×Array Value)) (t1:Value) (W1:List (BitVec 64)) (lT:List (Value×jD)) (Jv:List Nat) (Ff:List (List Nat)),Gr ul lT tn Jv cs Ff W1/\(Jv.length:Int)=max 0 m/\cO c1 v1 (W1.map U)/\cO c2 u1 (lT.map Prod.fst)/\Hp W0 w' (.blk F (.cells #[nA,nB,nC,nD,nE,nF,nG,nH,v1,u1,t1,I ((leads (Ff.headD []):Nat)),nI,nJ,nK,nL] 111 (0,0))::cE c1 v1 35 (W1.map U)::cE c2 u1 1 (lT.map Prod.fst):: .row t1 3 1 Jv.length ((JT Jv).map I)::L))):=by
 refine en func49 rfl rfl<|SR<|va (v:=B false) rfl<|aa<|ag<|SR<|aE (v:=Pn _ _) rfl<|V (kJ Lg O O)<|mB rfl<|bZ O rfl<|mI rfl<|aE (v:=Pn _ _) rfl<|V (af O)<|V (fA hG 2 O dB O)<|lV bz hH 0 O O rfl<|V (aA (hH.sl (i:=3) O) O bz O)<|V (cD O O)<|mB rfl<|aa<|aD O (fun h2=> ?_) (fun h2=> ?_)
 .refine SR<|va (v:=B false) rfl<|aa<|ai<|iY O (v:=B false) O (.inl ⟨rfl,J,hH⟩)
 refine ak<|ag<|SR<|aE (v:=Pn _ _) rfl<|V (af O)<|V (fA hG 2 O dB O)<|lV bz hH 0 O O rfl<|V (aA (hH.sl (i:=3) O) O bz O)<|V (fF O O J)<|aI rfl<|aa<|ay<| ?_
 rw[TJ]at hH
 refine bk (G:=(List (BitVec 64))×(List (Value×jD))×(List Nat)×(List (List Nat))×(Option (Nat×Array Value))×Value×(Option (Nat×Array Value))×Value×Value) (fun⟨W1,lT,Jv,Ff,c1,v1,c2,u1,t1⟩ s' w'=>(Fr (5::6::(rg 24 47 [])) _ s')/\(Hp W0 w' (.blk F (.cells #[nA,nB,nC,nD,nE,nF,nG,nH,v1,u1,t1,I ((leads (Ff.headD []):Nat)),nI,nJ,nK,nL] 111 (0,0))::cE c1 v1 35 (W1.map U)::cE c2 u1 1 (lT.map Prod.fst):: .row t1 3 1 Jv.length ((JT Jv).map I)::_))/\(s' 5=I ((Jv.length:Int)-1))/\(Gr ul lT tn Jv cs Ff W1)/\(cO c1 v1 (W1.map U))/\(cO c2 u1 (lT.map Prod.fst))/\(max 0 m<=(Jv.length:Int))) (fun⟨W1,lT,Jv,Ff,c1,v1,c2,u1,t1⟩=>Jv.length) ((W,ul,tn,cs,cW,vW,cU,vU,vT)) ⟨Fr.refl _ _,hH,rfl,(Gr.start hs hok),yG,JC,J⟩ ?_
 rintro⟨W1,lT,Jv,Ff,c1,v1,c2,u1,t1⟩ sg3 w3 ⟨fr3,uD,Kc,hb,Au,Du,xT⟩
 obtain⟨Bc,atQ⟩:=fr3.w2 0 1
 refine ag<|SR<|aE Kc<|aE atQ<|V (FO O O)<|V (dD O O)<|aa<|aD O (fun h5=> ?_) (fun h5=> ?_)
 .refine ak<|ag<|ay<|SR<| ?_
  obtain⟨t,tn2,cl,c3,cs2,rfl,rfl⟩:=ar8 hb.hs J
  obtain⟨nd1,nd2,e1,f1,e2,f2,hs2⟩:=amT hb.hs
  subst e1
  have q1:=f1.len
  have q2:=f2.len
  have n1:=hb.hs.Y5
  have n2:=hs2.Y5
  have cn:=hb.hs.cnt
  unfold Gk at cn
  have lc:=MP cl
  have lc3:=MP c3
  have tl:=hb.tn
  have ule:=hb.le
  have ZX:=hb.hs.le
  rw[gB]at ZX
  have hkk:((t::tn2).length:Int)=tn2.length+1:=aF
  have hkn:(((t::tn2).length:Int)-1).toNat=tn2.length:=J
  have pU:=ir nd1
  have JW:=ir nd2
  simp only[XG]at uD
  refine aE Bc<|aG O uD (lm _ _ _ _ _ _ J _ (uD.blk (i:=0) O) (uD.ye (i:=1) O Au)) (an call89 O)<|fun w6 eN=>aI rfl<|aa<|ag<|gK aP eN (sQ (sQ (sQ sR)))<|fun w8 iJ=>have N1:=iJ.sub (sQ (sQ (sQ sR)));AQ 0 O N1 (run_move Bc)<|AQ 1 O N1 (af O)<|AQ 2 O N1 (fA hG 0 O uJ O)<|AQ 3 O N1 (fA yR 0 O yX O)<|AQ 4 O N1 (run_move Bc)<|AQ 5 O N1 (af O)<|AQ 6 O N1 (fA hG 2 O dB O)<|AQ 8 O N1 (run_move Kc)<|A1 7<|cr O aH O iJ (sQ (sQ (sQ sR))) (aC bz O O (iJ.cell (i:=0) O O))<|AT 9 O N1 (fun w hS=>ah (hS.sl (i:=0) O) bz a8 O O J)<|AT 10 O N1 (fun w hS=>aC bf O O ((hS.sl (i:=0) O).cell _ _ (ar9 J)))<|A1 11<|xu O aH O (FB _ _ _ _ _ _ _ _ _ _ _ _ J J ⟨J,Int.ofNat_le.2 ZX⟩ _ (fun x hx=>(hI x (hb.sub x hx)).mono fun e he=>mT he) hb.ok Au Du iJ) (aN call92 O O) (fun u w' ⟨_,_,_,_,_,_,_,h⟩=>h.sub (sQ (sQ (sQ sR))))<| ?_
  rintro _ Np ⟨rfl,v15,c16,u17,e18,aaa,at6,fB⟩
  rw[ef,e2]at aaa
  rw[ef]at at6
  rw[ef,e2]at fB
  refine AD<|ag<|SR<|aE Bc<|aG O fB (lm _ _ _ _ _ _ J _ (fB.blk (i:=0) O) (fB.ye (i:=1) O aaa)) (an call89 O)<|fun OO eO=>mI rfl<|V (aM O O)<|aa<|aD O (fun GK=> ?_) (fun GK=> ?_)
  .refine aq<|aE Bc<|V (af O)<|V (fA hG 3 O a8 O)<|lI bf eO 0 O O rfl<|have at7:((leads c3:Nat):Int)=(leads cl:Int)-1:=J;V (fF O O J)<|V (af O)<|V (fA hG 3 O a8 O)<|bt eO (i:=0) O (bQ O O (v:=I _) O O O (eO.blk (i:=0) O) aF)<|fun V6 dK=>aa<|aq<|aE Bc<|aE Bc<|V (af O)<|V (fA hG 2 O dB O)<|lV bz dK 0 O O rfl<|aE Kc<|V (wx (dK.sl (i:=3) O) bz a8 O O J)<|have gk:=dK.amU (i:=3) O (m:=tn2.length) aF;?_
   rw[Vb]at gk
   refine V (af O)<|V (fA hG 2 O dB O)<|bt gk (i:=0) O (bQ O O (aJ (q7 t1) hkn) (bj (gk.get (i:=3) O)).1 (bj (gk.get (i:=3) O)).2 (gk.blk (i:=0) O) aF)<|fun w29 jf=>aa<|aq<|aE Kc<|V (fF O O J)<|aI rfl<|aa<| ?_
   refine⟨((bD nd2),(lT.take t),tn2,(c3::cs2),c16,v15,e18,u17,(q7 t1 tn2.length)),?_,fr3.u4.u4.u4.u4.u4.u4.u4.u4.u4.u4.u1.u1,(Hp.conv jf (by(simp only[XG];rw[at7];rfl))),(aJ I J),?_,?_,?_,J⟩
   ·(simp only[eR];omega)
   .exact hb.next e2
   .exact aaa
   exact at6
  refine aq<|aE Bc<|V (af O)<|V (fA hG 3 O a8 O)<|lI bf eO 0 O O rfl<|have at7:((leads c3:Nat):Int)=(leads cl:Int)+1:=J;V (ax O O J)<|V (af O)<|V (fA hG 3 O a8 O)<|bt eO (i:=0) O (bQ O O (v:=I _) O O O (eO.blk (i:=0) O) aF)<|fun w31 fJ=>aa<|aq<|aE Bc<|aE Bc<|V (af O)<|V (fA hG 2 O dB O)<|lV bz fJ 0 O O rfl<|aE Kc<|V (wx (fJ.sl (i:=3) O) bz a8 O O J)<|have jT:=fJ.amU (i:=3) O (m:=tn2.length) aF;?_
  rw[Vb]at jT
  refine V (af O)<|V (fA hG 2 O dB O)<|bt jT (i:=0) O (bQ O O (aJ (q7 t1) hkn) (bj (jT.get (i:=3) O)).1 (bj (jT.get (i:=3) O)).2 (jT.blk (i:=0) O) aF)<|fun w34 tJ=>aa<|aq<|aE Kc<|V (fF O O J)<|aI rfl<|aa<| ?_
  refine⟨((bD nd2),(lT.take t),tn2,(c3::cs2),c16,v15,e18,u17,(q7 t1 tn2.length)),?_,fr3.u4.u4.u4.u4.u4.u4.u4.u4.u4.u4.u1.u1,(Hp.conv tJ (by(simp only[XG];rw[at7];rfl))),(aJ I J),?_,?_,?_,J⟩
  ·(simp only[eR];omega)
  .exact hb.next e2
  .exact aaa
  exact at6
 refine aY (id:=0) rfl<|SR<|va (v:=B true) rfl<|aa<|ai<|iY O (v:=B true) O (.inr ⟨rfl,J,v1,c1,u1,c2,t1,W1,lT,Jv,Ff,hb,J,Au,Du,uD⟩)
section
variable{w0 w:World}{L:List a7}{F m:Nat}{cs:List (List Nat)}{vW vU vT:Value}{cW cU:Option (Nat×Array Value)}{W:List (BitVec 64)}{ul:List (Value×jD)}{ts:List Int}{cn:Int}{nA nB nC nD nE nF nG nH nI nJ nK nL:Value}
theorem ab5(h:wN FX F m cs vW vU cW cU W ul ts cn L)(hm:m<=100000)(hb:w.heap[F]?=some (.cells #[nA,nB,nC,nD,nE,nF,nG,nH,vW,vU,vT,I cn,nI,nJ,nK,nL] 111 (0,0)))(hW:Sl w vW 1 W.length (W.map U)):Calls Tryz.prog 123 #[.pointer (some ⟨F,8,none⟩)] w (Pure (I (leads (bq cs):Nat)) w):=by
 have TJ:=h.cn
 subst TJ
 exact Bo F vW vU vT _ _ w hb hW
end
section
variable{w0 w:World}{L:List a7}{F m:Nat}{cs:List (List Nat)}{vW vU vT:Value}{cW cU:Option (Nat×Array Value)}{W:List (BitVec 64)}{ul:List (Value×jD)}{ts:List Int}{cn:Int}{nA nB nC nD nE nF nG nH nI nJ nK nL:Value}
theorem FC(i:Int)(h:wN FX F m cs vW vU cW cU W ul ts cn L)(hm:m<=100000)(hb:w.heap[F]?=some (.cells #[nA,nB,nC,nD,nE,nF,nG,nH,vW,vU,vT,I cn,nI,nJ,nK,nL] 111 (0,0)))(hW:Sl w vW 1 W.length (W.map U)):Calls Tryz.prog 128 #[.pointer (some ⟨F,8,none⟩),I i] w (Pure (I (fw (bq cs) i)) w):=by
 obtain⟨nd,cl,Av,rfl,rfl,h2,h3,h4,h5,h6⟩:=h.now
 exact CT F vW vU vT _ nd cl i J h2 w hb hW
end
section
variable{w0 w:World}{L:List a7}{F m:Nat}{cs:List (List Nat)}{vW vU vT:Value}{cW cU:Option (Nat×Array Value)}{W:List (BitVec 64)}{ul:List (Value×jD)}{ts:List Int}{cn:Int}{nA nB nC nD nE nF nG nH nI nJ nK nL:Value}
theorem ab6(i:Int)(h:wN FX F m cs vW vU cW cU W ul ts cn L)(hm:m<=100000)(hb:w.heap[F]?=some (.cells #[nA,nB,nC,nD,nE,nF,nG,nH,vW,vU,vT,I cn,nI,nJ,nK,nL] 111 (0,0)))(hW:Sl w vW 1 W.length (W.map U)):Calls Tryz.prog 129 #[.pointer (some ⟨F,8,none⟩),I i] w (qB 3 1 (bJ (bq cs) i).length ((bJ (bq cs) i).map I) w):=by
 obtain⟨nd,cl,Av,rfl,rfl,h2,h3,h4,h5,h6⟩:=h.now
 exact Bp F vW vU vT _ nd cl i J h2 w hb hW
end
section
variable{w0 w:World}{L:List a7}{F m:Nat}{cs:List (List Nat)}{vW vU vT:Value}{cW cU:Option (Nat×Array Value)}{W:List (BitVec 64)}{ul:List (Value×jD)}{ts:List Int}{cn:Int}{nA nB nC nD nE nF nG nH nI nJ nK nL:Value}
theorem akd(h:wN FX F m cs vW vU cW cU W ul ts cn L)(hm:m<=100000)(hb:w.heap[F]?=some (.cells #[nA,nB,nC,nD,nE,nF,nG,nH,vW,vU,vT,I cn,nI,nJ,nK,nL] 111 (0,0)))(hW:Sl w vW 1 W.length (W.map U))(hT:Sl w vT 1 ts.length (ts.map I)):Calls Tryz.prog 46 #[.pointer (some ⟨F,8,none⟩)] w (Pure (I ((cs.length:Int)-1)) w):=by
 obtain⟨nd,cl,Av,rfl,rfl,h2,h3,h4,h5,h6⟩:=h.now
 have:=CS F vW vU vT _ _ ts w hb hW hT
 rwa[show((ts.length:Nat):Int)=((cl::Av).length:Int)-1 by omega]at this
end
section
variable{w0 w:World}{L:List a7}{F m:Nat}{cs:List (List Nat)}{vW vU vT:Value}{cW cU:Option (Nat×Array Value)}{W:List (BitVec 64)}{ul:List (Value×jD)}{ts:List Int}{cn:Int}{nA nB nC nD nE nF nG nH nI nJ nK nL:Value}
theorem azc(h:wN FX F m cs vW vU cW cU W ul ts cn L)(hm:m<=100000){R:List a7}(hH:Hp w0 w (.blk F (.cells #[nA,nB,nC,nD,nE,nF,nG,nH,vW,vU,vT,I (cn),nI,nJ,nK,nL] 111 (0,0))::cE cW vW 35 ((W).map U)::cE cU vU 1 ((ul).map Prod.fst):: .row vT 3 1 (ts).length ((ts).map I)::(R++L))):Calls Tryz.prog 47 #[.pointer (some ⟨F,8,none⟩)] w (jj fun u w'=>u=I (bq cs).length/\∃(N2 N3 WX:Value) (QH QI:Option (Nat×Array Value)) (W':List (BitVec 64)) (yA:List (Value×jD)) (ts':List Int) (QJ:Int) (Lb:List a7),wN FX F (m+1) (Sw cs) N2 N3 QH QI W' yA ts' QJ (Lb++L)/\Hp w0 w' (.blk F (.cells #[nA,nB,nC,nD,nE,nF,nG,nH,N2,N3,WX,I (QJ),nI,nJ,nK,nL] 111 (0,0))::cE QH N2 35 ((W').map U)::cE QI N3 1 ((yA).map Prod.fst):: .row WX 3 1 (ts').length ((ts').map I)::(Lb++(R++L)))):=by
 obtain⟨tn,rfl,i⟩:=h.fo
 have TJ:=h.cn
 subst TJ
 obtain⟨nd,cl,Av,rfl,rfl,h2,h3,h4,h5,h6⟩:=i.now
 have l1:=i.lu;have l2:=i.lt
 refine(DV w0 F vW vU vT _ cW cU nd ul (JT tn) (R++L) J J (by rw[wM];omega) afm w i.hW i.hU hH).mono fun e w' hr=>jj.mono ?_ hr
 rintro u w' ⟨rfl,v1,c1,u1,c2,t1,lT,Ke,k1,k2,k3,k4,k5,hh⟩
 have e5:(leads (bq (Sw (cl::Av))):Nat)=leads cl+1:=by rw[<-PV h2,h3];rfl
 have e6:((leads (bq (cl::Av)):Nat):Int)+1=((leads (bq (Sw (cl::Av))):Nat):Int):=by rw[e5];rfl
 have e7:(JT tn++[(ul.length:Int)])=JT (ul.length::tn):=(Gq ..).symm
 rw[e6,e7]at hh
 refine⟨by rw[h3];rfl,v1,u1,t1,c1,c2,bD (nd++[rf nd.length]),lT,JT (ul.length::tn),_,Ke,⟨⟨ul.length::tn,rfl,k1,k2,?_,?_,?_,?_,?_⟩,rfl⟩,hh⟩
 .have e1:=amA (W:=bD nd) (us:=ul.map Prod.snd) (a:=BitVec.ofNat 64 nd.length) (b:=BitVec.ofNat 64 1) (c:=BitVec.ofNat 64 nd.length) (d:=BitVec.ofNat 64 nd.length)
  have e2:bD (nd++[rf nd.length])=bD nd++[BitVec.ofNat 64 nd.length]++[BitVec.ofNat 64 1]++[BitVec.ofNat 64 nd.length]++[BitVec.ofNat 64 nd.length]:=by rw[pZ];simp[FH,rf]
  rw[<-e2]at e1
  have h:=Hs.more (jF:=cl++[nd.length]) i.hs O h2.add (.inl ⟨aF,PV h2⟩) e1.1 e1.2.1 e1.2.2
  rw[gB]at h
  rw[k3]
  show Hs _ _ _ ((cl++[cl.length])::cl::Av)
  rw[<-h3];exact h
 .have e2:bD (nd++[rf nd.length])=bD nd++[BitVec.ofNat 64 nd.length]++[BitVec.ofNat 64 1]++[BitVec.ofNat 64 nd.length]++[BitVec.ofNat 64 nd.length]:=by rw[pZ];simp[FH,rf]
  rw[k3,e2];exact amB i.ok
 .intro x hx
  rw[<-BB ul.length lT,k4]at hx
  rcases eI.1 hx with q|q
  .exact(i.un x q).mono fun e he=>bG _ he
  exact(k5 x q).mono fun e he=>dy _ he
 .have:=aJ List.length k3;simp[Oz]at this;omega
 simp;omega
end
section
variable{w0 w:World}{L:List a7}{F m:Nat}{cs:List (List Nat)}{vW vU vT:Value}{cW cU:Option (Nat×Array Value)}{W:List (BitVec 64)}{ul:List (Value×jD)}{ts:List Int}{cn:Int}{nA nB nC nD nE nF nG nH nI nJ nK nL:Value}
theorem an0(i j:Int)(h:wN FX F m cs vW vU cW cU W ul ts cn L)(hm:m<=100000){R:List a7}(hH:Hp w0 w (.blk F (.cells #[nA,nB,nC,nD,nE,nF,nG,nH,vW,vU,vT,I (cn),nI,nJ,nK,nL] 111 (0,0))::cE cW vW 35 ((W).map U)::cE cU vU 1 ((ul).map Prod.fst):: .row vT 3 1 (ts).length ((ts).map I)::(R++L))):Calls Tryz.prog 156 #[.pointer (some ⟨F,8,none⟩),I i,I j] w (jj fun u w'=>u=B (jc cs i j).2/\∃(N2 N3 WX:Value) (QH QI:Option (Nat×Array Value)) (W':List (BitVec 64)) (yA:List (Value×jD)) (ts':List Int) (QJ:Int) (Lb:List a7),wN FX F (m+(if(jc cs i j).2 then 1 else 0)) ((jc cs i j).1) N2 N3 QH QI W' yA ts' QJ (Lb++L)/\Hp w0 w' (.blk F (.cells #[nA,nB,nC,nD,nE,nF,nG,nH,N2,N3,WX,I (QJ),nI,nJ,nK,nL] 111 (0,0))::cE QH N2 35 ((W').map U)::cE QI N3 1 ((yA).map Prod.fst):: .row WX 3 1 (ts').length ((ts').map I)::(Lb++(R++L)))):=by
 obtain⟨tn,rfl,k⟩:=h.fo
 have TJ:=h.cn
 subst TJ
 obtain⟨nd,cl,Av,rfl,rfl,h2,h3,h4,h5,h6⟩:=k.now
 have l1:=k.lu;have l2:=k.lt
 refine(Bq w0 F vW vU vT _ cW cU nd ul (JT tn) (R++L) cl i j J J (by rw[wM];omega) afm h2 w k.hW k.hU hH).mono fun e w' hr=>jj.mono ?_ hr
 rintro u w' (⟨rfl,no,hh⟩|⟨rfl,a,b,p,v1,c1,u1,c2,t1,lT,Ke,k1,k2,la,k4,k6,k5,hh⟩)
 .rw[MQ (cs:=cl::Av) (by show¬ID cl.length cl i j;rw[<-h3];exact no)]
  exact⟨rfl,vW,vU,vT,cW,cU,bD nd,ul,JT tn,_,[],h,hh⟩
 rw[IF (cs:=cl::Av) (by have:=p.ok;show ID cl.length cl i j;rw[<-h3];exact this)]
 obtain⟨f1,f2⟩:=awZ h2 p
 have e5:((leads (bq (cl::Av)):Nat):Int)-1=((leads (bq (iy cl (ct cl i.toNat) (ct cl j.toNat)::cl::Av)):Nat):Int):=by
  have e1:leads (bq (cl::Av))=leads cl:=rfl
  have e2:leads (bq (iy cl (ct cl i.toNat) (ct cl j.toNat)::cl::Av))=leads (iy cl (ct cl i.toNat) (ct cl j.toNat)):=rfl
  omega
 have e7:(JT tn++[(ul.length:Int)])=JT (ul.length::tn):=(Gq ..).symm
 rw[e5,e7]at hh
 refine⟨rfl,v1,u1,t1,c1,c2,bD (o8 nd a b),lT,JT (ul.length::tn),_,Ke,⟨⟨ul.length::tn,rfl,k1,k2,?_,la.ok k.ok,?_,?_,?_⟩,rfl⟩,hh⟩
 .have h:=Hs.more (jF:=iy cl (ct cl i.toNat) (ct cl j.toNat)) k.hs O f1 (.inr ⟨IE,f2⟩) la.back.1 la.back.2 la.le
  rw[gB]at h;exact h
 .intro x hx
  rw[<-BB ul.length lT,k4]at hx
  rcases eI.1 hx with q|q
  .exact(k.un x q).mono fun e he=>bG _ he
  exact(k5 x q).mono fun e he=>dy _ he
 .show lT.length<=5*(m+1);omega
 show(ul.length::tn).length<=m+1;simp;omega
end
section
variable{w0 w:World}{L:List a7}{F m:Nat}{cs:List (List Nat)}{vW vU vT:Value}{cW cU:Option (Nat×Array Value)}{W:List (BitVec 64)}{ul:List (Value×jD)}{ts:List Int}{cn:Int}{nA nB nC nD nE nF nG nH nI nJ nK nL:Value}
theorem at8(i:Int)(h:wN FX F m cs vW vU cW cU W ul ts cn L)(hm:m<=100000){R:List a7}(hH:Hp w0 w (.blk F (.cells #[nA,nB,nC,nD,nE,nF,nG,nH,vW,vU,vT,I (cn),nI,nJ,nK,nL] 111 (0,0))::cE cW vW 35 ((W).map U)::cE cU vU 1 ((ul).map Prod.fst):: .row vT 3 1 (ts).length ((ts).map I)::(R++L))):Calls Tryz.prog 49 #[.pointer (some ⟨F,8,none⟩),I i] w (jj fun u w'=>u=B (Cl cs i).2/\∃(N2 N3 WX:Value) (QH QI:Option (Nat×Array Value)) (W':List (BitVec 64)) (yA:List (Value×jD)) (ts':List Int) (QJ:Int) (Lb:List a7),wN FX F (m) ((Cl cs i).1) N2 N3 QH QI W' yA ts' QJ (Lb++L)/\Hp w0 w' (.blk F (.cells #[nA,nB,nC,nD,nE,nF,nG,nH,N2,N3,WX,I (QJ),nI,nJ,nK,nL] 111 (0,0))::cE QH N2 35 ((W').map U)::cE QI N3 1 ((yA).map Prod.fst):: .row WX 3 1 (ts').length ((ts').map I)::(Lb++(R++L)))):=by
 obtain⟨tn,rfl,k⟩:=h.fo
 have TJ:=h.cn
 subst TJ
 obtain⟨nd,cl,Av,rfl,rfl,h2,h3,h4,h5,h6⟩:=k.now
 have l1:=k.lu;have l2:=k.lt
 rw[wM]at hH
 refine(CV w0 F vW vU vT _ cW cU (bD nd) ul tn (cl::Av) (R++L) i J J k.hs k.ok (fun x hx=>(k.un x hx).mono fun e he=>bG _ he) O w k.hW k.hU hH).mono fun e w' hr=>jj.mono ?_ hr
 rintro u w' (⟨rfl,no,hh⟩|⟨rfl,yes,v1,c1,u1,c2,t1,W1,lT,Jv,Ff,hb,htn,k1,k2,hh⟩)
 .rw[show Cl (cl::Av) i=(cl::Av,false)from aS J]
  rw[<-wM]at hh
  exact⟨rfl,vW,vU,vT,cW,cU,bD nd,ul,JT tn,_,[],h,hh⟩
 rw[show Cl (cl::Av) i=((cl::Av).drop ((cl::Av).length-1-(max 0 i).toNat),true)from aR J]
 have e1:Ff=(cl::Av).drop ((cl::Av).length-1-(max 0 i).toNat):=by rw[hb.cs];congr 1;omega
 rw[<-e1]
 have q1:=hb.le;have q2:=hb.tn
 rw[<-wM]at hh
 exact⟨rfl,v1,u1,t1,c1,c2,W1,lT,JT Jv,_,[],⟨⟨Jv,rfl,k1,k2,hb.hs,hb.ok,fun x hx=>k.un x (hb.sub x hx),J,J⟩,rfl⟩,hh⟩
end
end
section
open Go Go.RowKit Go.Proofs.YtlhjdflgjbkpmaaGreatDoor.E Go.Proofs.YtlhjdflgjbkpmaaGreatDoor.M
set_option maxRecDepth 100000
open Go.Proofs.Tryz
theorem Tf(a:Int):Tryz.prog.built 233 [(0,I a)]=some (Gt ⟨a,0⟩).toArray:=rfl
theorem aes{a b c d e:Value}(h1:a.cells=#[a])(h2:b.cells=#[b])(h3:c.cells=#[c])(h4:d.cells=#[d])(h5:e.cells=#[e]):Tryz.prog.built 222 [(0,a),(1,b),(2,c),(3,d),(7,e)]=some #[a,b,c,d,.slice none 0 0,.slice none 0 0,I 0,e]:=
 (show Tryz.prog.built 222 [(0,a),(1,b),(2,c),(3,d),(7,e)]=Instr.fill (#[(0,1),(1,1),(2,1),(3,1),(4,1),(5,1),(6,1),(7,1)][·]?) #[.slice none 0 0,.slice none 0 0,.slice none 0 0,.slice none 0 0,.slice none 0 0,.slice none 0 0,I 0,.slice none 0 0] [(0,a),(1,b),(2,c),(3,d),(7,e)]from O).trans (by simp only[Instr.fill,h1,h2,h3,h4,h5];rfl)
abbrev nE(n:Nat)(wr:Value)(vL:Value)(vt:Value)(vv:Value)(vy:Value)(vu:Value)(vq:Value)(sn:Int)(vW:Value)(vU:Value)(vT:Value)(cn:Int)(sk:Bool)(wy:BitVec 64)(vd:Value)(vm:Value)(cW:Option (Nat×Array Value))(cU:Option (Nat×Array Value))(W:List (BitVec 64))(ul:List (Value×jD))(ts:List Int)(au:List pg)(aX:List Int)(aj:List El)(a6:List (BitVec 64))(us:List jM)(qs:List dw)(lg:List (Value×lU))(tm:List Int)(L:List a7):List a7:= .blk n (.cells #[wr,vL,vt,vv,vy,vu,vq,I sn,vW,vU,vT,I cn,B sk,U wy,vd,vm] 111 (0,0))::cE cW vW 35 (W.map U)::cE cU vU 1 (ul.map Prod.fst)::jG I vT 3 ts::vh WT 13 vL 119 au::jG I vt 3 aX::vh s8 8 vv 37 aj::jG U vy 35 a6::jG jM.v vu 99 us::vh pQ 13 vq 128 qs::jG Prod.fst vd 1 lg::jG I vm 3 tm::L
abbrev wE(b:Nat)(ql qi:Value)(cq:Option (Nat×Array Value))(wl:List Int)(wi:List Bool)(L:List a7):List a7:= .blk b (.cells #[ql,qi] 156 (0,0))::qE cq ql 3 (wl.map I)::jG B qi 4 wi::L
abbrev NX:NTy:=⟨54,48,58,193,157,88,45,31,3,37,35,128⟩
theorem OY(b k c:Nat):Tryz.prog.built 156 [(1,.slice (some ⟨b,0,none⟩) k c)]=some #[.slice none 0 0,.slice (some ⟨b,0,none⟩) k c]:=rfl
abbrev NZ(n:Nat)(F:NF)(s:NP)(lg:List (Value×lU))(tm:List Int)(L:List a7):List a7:=(nE n (s.wr) (F.vL) (F.vt) (F.vv) (F.vy) (F.vu) (F.vq) (s.sn) (F.vW) (F.vU) (F.vT) (F.cn) (s.sk) (s.wy) (F.vd) (F.vm) (F.cW) (F.cU) (F.W) (F.ul) (F.ts) (s.au) (s.aX) (s.aj) (s.a6) (F.us) (s.qs) lg tm L)
structure azd(n m:Nat)(F:NF)(s:NP)(L:List a7):Prop where
 fo:wN FX n m s.cs F.vW F.vU F.cW F.cU F.W F.ul F.ts F.cn L
 us:pO F.us=s.us
def vJ(n m:Nat)(s:NP)(lg:List (Value×lU))(tm:List Int)(R L0 Z:List a7):Prop:=∃F L,azd n m F s L/\(∀b o,a7.blk b o∈L0->a7.blk b o∈L)/\Z=NZ n F s lg tm (F.us.map (dI 3)++(R++L))
def an1(W0:World)(n m:Nat)(R L0:List a7)(x:Value×lU)(s:NP):Prop:=∀lg tm Z w,vJ n m s lg tm R L0 Z->Hp W0 w Z->zM Tryz.prog x.1 [] w (jj fun u w'=>u= .tuple #[]/\∃Z',vJ n m (vp x.2 s) lg tm R L0 Z'/\Hp W0 w' Z')
theorem aet{x:Value}(h:x.cells=#[x]):Tryz.prog.built 111 [(0,x)]=some #[x,.slice none 0 0,.slice none 0 0,.slice none 0 0,.slice none 0 0,.slice none 0 0,.slice none 0 0,I 0,.slice none 0 0,.slice none 0 0,.slice none 0 0,I 0,B false,U 0,.slice none 0 0,.slice none 0 0]:=
 (show Tryz.prog.built 111 [(0,x)]=Instr.fill (#[(0,1),(1,1),(2,1),(3,1),(4,1),(5,1),(6,1),(7,1),(8,4),(12,1),(13,1),(14,1),(15,1)][·]?) #[.nilFunc,.slice none 0 0,.slice none 0 0,.slice none 0 0,.slice none 0 0,.slice none 0 0,.slice none 0 0,I 0,.slice none 0 0,.slice none 0 0,.slice none 0 0,I 0,B false,U 0,.slice none 0 0,.slice none 0 0] [(0,x)]from O).trans X4
theorem xK(p:kW)(e l j:Value)(d:Wr)(low:El):Tryz.prog.built 119 [(0,.agg (q9 p)),(1,.agg #[e,l,j]),(2,.agg (jv low))]=some (WT ⟨p,e,l,j,d,low⟩).toArray:=by
 rw[iv];kernel_rfl
def WrF(x:Value)(ids:List Nat):Prop:=x= .nilFunc\/∃(m:Nat) (f:FuncId) (r:Value),x= .func (.func f) #[r] #[]/\m∈ids/\(∀args w,(callFunc f args).run Tryz.prog w= .ok (.enter f args) w)/\∀(K:Vu) (d:Wr) (e l j:Value) (w:World),Le K (Kw w)->yf TX K d e l j->Calls Tryz.prog f #[r,.agg #[e,l,j]] w (Jp K (fun K' u=>∃f1 f2 f3 a1 a2 a3,u= .agg #[iH f1 a1,iH f2 a2,iH f3 a3]/\yf TX K' (.wrap m d) (iH f1 a1) (iH f2 a2) (iH f3 a3)) w)
theorem WrF.fn{x:Value}{ids:List Nat}(h:WrF x ids):x= .nilFunc\/∃f b c,x= .func f b c:=by
 rcases h with h|⟨m,f,r,h,_⟩
 .exact .inl h
 exact .inr ⟨_,_,_,h⟩
theorem WrF.yes{x:Value}{ids:List Nat}(h:WrF x ids)(hx:ait x=true):∃(m:Nat) (f:FuncId) (r:Value),x= .func (.func f) #[r] #[]/\m∈ids/\(∀args w,(callFunc f args).run Tryz.prog w= .ok (.enter f args) w)/\∀(K:Vu) (d:Wr) (e l j:Value) (w:World),Le K (Kw w)->yf TX K d e l j->Calls Tryz.prog f #[r,.agg #[e,l,j]] w (Jp K (fun K' u=>∃f1 f2 f3 a1 a2 a3,u= .agg #[iH f1 a1,iH f2 a2,iH f3 a3]/\yf TX K' (.wrap m d) (iH f1 a1) (iH f2 a2) (iH f3 a3)) w):=by
 rcases h with rfl|h
 .cases hx
 exact h
def WrD(x:Value)(d:Wr):Prop:=(ait x=false->d.dep=0)/\d.dep<=1
theorem Al{v u:Value}(k:Int)(l:List dz)(t:iw)(y:BitVec 64)(m:List Int)(h:v.cells=#[v])(h2:u.cells=#[u]):Tryz.prog.built 128 [(0,I k),(1,v),(2,.agg (jq t).toArray),(3,U y),(4,u)]=some (pQ ⟨k,v,l,t,y,u,m⟩).toArray:=
 (show Tryz.prog.built 128 [(0,I k),(1,v),(2,.agg (jq t).toArray),(3,U y),(4,u)]=Instr.fill (#[(0,1),(1,1),(2,9),(11,1),(12,1)][·]?) #[I 0,.slice none 0 0,I 0,U 0,U 0,U 0,U 0,U 0,U 0,U 0,U 0,U 0,.slice none 0 0] [(0,I k),(1,v),(2,.agg (jq t).toArray),(3,U y),(4,u)]from O).trans (by simp only[Instr.fill,h,h2];kernel_rfl)
def jA(fr:List a7)(W0:World)(n:Nat)(s:NP)(lg:List (Value×lU))(tm:List Int)(ids:List Nat)(f:Ct)(tl:List (Nat×Rl))(b c:Nat)(Z:List a7):Prop:=∃m L0 Zf,(m<=c+200*b/\lg.length<=c+4300000000*b/\tm.length<=c+b/\Fe (20000000*b) f)/\kp (Ba fr) ids f tl Zf/\Vs TX (Kz (Kw W0) L0) ids tl s.au/\Zb (Kz (Kw W0) L0) s.qs/\(∀x∈lg,mJ NX n L0 x)/\vJ n m s lg tm Zf L0 Z
theorem DD{α:Type}{l m:List α}(h:∀f:List α->Nat,(∀a b,f (a++b)=f a+f b)->f l=f m):l.Perm m:=by
 haveI:DecidableEq α:=fun a b=>Classical.propDecidable (a=b)
 rw[List.perm_iff_count]
 exact fun a=>h (List.count a) fun x y=>Xw
theorem xL{n:Nat}{F:NF}{s:NP}{lg:List (Value×lU)}{tm:List Int}(X:List a7):NZ n F s lg tm X=NZ n F s lg tm []++X:=rfl
theorem jA.at9{fr A R Z:List a7}{W0 w:World}{n:Nat}{s:NP}{lg:List (Value×lU)}{tm:List Int}{ids:List Nat}{f:Ct}{tl:List (Nat×Rl)}{b c:Nat}(h:jA fr W0 n s lg tm ids f tl b c Z)(hH:Hp W0 w (A++(Z++R))):∃Z2,jA (A++(R++fr)) W0 n s lg tm ids f tl b c Z2/\Hp W0 w Z2:=by
 obtain⟨m,L0,Zf,hb,⟨Zt,ht,rfl⟩,h1,h2,h3,F,L,hI,hL,rfl⟩:=h
 refine⟨_,⟨m,L0,_,hb,⟨Zt,ht,rfl⟩,h1,h2,h3,F,L,hI,hL,rfl⟩,hH.perm (DD fun g hg=> ?_)⟩
 rw[xL,xL (X:=F.us.map (dI 3)++((_++(A++(R++fr))++Zt)++L)),show ids.map (fun m=>oT (Ba (A++(R++fr))) m (f m))=ids.map fun m=>oT (Ba fr) m (f m)from O]
 simp only[hg]
 omega
theorem jA.out{fr A R Z:List a7}{W0 w:World}{n:Nat}{s:NP}{lg:List (Value×lU)}{tm:List Int}{ids:List Nat}{f:Ct}{tl:List (Nat×Rl)}{b c:Nat}(h:jA (A++(R++fr)) W0 n s lg tm ids f tl b c Z)(hH:Hp W0 w Z):∃Z2,jA fr W0 n s lg tm ids f tl b c Z2/\Hp W0 w (A++(Z2++R)):=by
 obtain⟨m,L0,Zf,hb,⟨Zt,ht,rfl⟩,h1,h2,h3,F,L,hI,hL,rfl⟩:=h
 refine⟨_,⟨m,L0,_,hb,⟨Zt,ht,rfl⟩,h1,h2,h3,F,L,hI,hL,rfl⟩,hH.perm (DD fun g hg=> ?_)⟩
 rw[xL,xL (X:=F.us.map (dI 3)++((_++fr++Zt)++L)),show ids.map (fun m=>oT (Ba (A++(R++fr))) m (f m))=ids.map fun m=>oT (Ba fr) m (f m)from O]
 simp only[hg]
 omega
theorem jA.azf{fr A X Z:List a7}{W0 w:World}{n:Nat}{s:NP}{lg:List (Value×lU)}{tm:List Int}{ids:List Nat}{f:Ct}{tl:List (Nat×Rl)}{b c:Nat}(h:jA fr W0 n s lg tm ids f tl b c Z)(hH:Hp W0 w (A++(Z++X))):∃m L0 Zf Z2,(m<=c+200*b/\lg.length<=c+4300000000*b/\tm.length<=c+b/\Fe (20000000*b) f)/\kp (Ba (A++([]++fr))) ids f tl Zf/\Vs TX (Kz (Kw W0) L0) ids tl s.au/\Zb (Kz (Kw W0) L0) s.qs/\(∀x∈lg,mJ NX n L0 x)/\vJ n m s lg tm Zf L0 Z2/\Hp W0 w Z2/\∀b o,a7.blk b o∈X->a7.blk b o∈L0:=by
 obtain⟨m,L0,Zf,hb,⟨Zt,ht,rfl⟩,h1,h2,h3,F,L,hI,hL,rfl⟩:=h
 have hm:∀b o,a7.blk b o∈L0->a7.blk b o∈X++L0:=fun b o hb=>bG _ hb
 refine⟨m,X++L0,_,_,hb,⟨Zt,ht,rfl⟩,h1.mono (Le.zb hm),h2.mono (Le.zb hm),fun x hx=>(h3 x hx).Eb hm,⟨F,X++L,⟨hI.fo.mono fun e he=>bG _ he,hI.us⟩,fun b o hb=> ?_,rfl⟩,hH.perm (DD fun g hg=> ?_),fun b o hb=>dy _ hb⟩
 .rcases eI.1 hb with q|q
  .exact dy _ q
  exact bG _ (hL b o q)
 rw[xL,xL (X:=F.us.map (dI 3)++((_++(A++([]++fr))++Zt)++(X++L))),show ids.map (fun m=>oT (Ba (A++([]++fr))) m (f m))=ids.map fun m=>oT (Ba fr) m (f m)from O]
 simp only[hg,eC]
 omega
theorem WrF.cells{x:Value}{ids:List Nat}(h:WrF x ids):x.cells=#[x]:=by
 rcases h with rfl|⟨m,f,cs,rfl,_⟩<;>rfl
theorem WrF.one{x:Value}{ids:List Nat}(h:WrF x ids):x.oneCell'=true:=by
 rcases h with rfl|⟨m,f,cs,rfl,_⟩<;>rfl
theorem jA.new{fr A Zn Zf:List a7}{W0 w:World}{n:Nat}{x:Value}{ids:List Nat}{f:Ct}(hn:vJ n 0 (NP.mk [] [] [] [] [] [] 0 [[]] false 0 x) [] [] [] [] Zn)(hz:kp (Ba fr) ids f [] Zf)(hf:Fe 0 f)(hH:Hp W0 w (Zn++(A++Zf))):∃Z,jA fr W0 n (npL [] x) [] [] ids f [] 0 0 Z/\Hp W0 w (A++(Z++[])):=by
 obtain⟨F,L,hI,hL,rfl⟩:=hn
 refine⟨_,⟨0,[],Zf,⟨J,aF,aF,hf⟩,hz,(fun x hx=>by cases hx),(fun x hx=>by cases hx),(fun x hx=>by cases hx),F,L,hI,(fun b o h=>oO),rfl⟩,hH.perm (DD fun g hg=> ?_)⟩
 have e:∀X,NZ n F (npL [] x) [] [] X=NZ n F (NP.mk [] [] [] [] [] [] 0 [[]] false 0 x) [] [] []++X:=fun X=>rfl
 rw[xL,e]
 simp only[hg]
 omega
theorem jA.more{fr Z:List a7}{W0:World}{n:Nat}{s:NP}{lg:List (Value×lU)}{tm:List Int}{ids:List Nat}{f:Ct}{tl:List (Nat×Rl)}{b c b' c':Nat}(h:jA fr W0 n s lg tm ids f tl b c Z)(hb:b<=b')(hc:c<=c'):jA fr W0 n s lg tm ids f tl b' c' Z:=by
 obtain⟨m,L0,Zf,⟨h1,h2,h3,h4⟩,h5⟩:=h
 exact⟨m,L0,Zf,⟨J,J,J,h4.mono J⟩,h5⟩
theorem aae(k:Int)(e:El):Tryz.prog.built 90 [(0,I k),(2,.agg (jv e))]=some (j6 ⟨k,0,e⟩).toArray:=by
 rw[iv];kernel_rfl
theorem N4(k v:Int):Tryz.prog.built 90 [(0,I k),(1,I v)]=some (j6 ⟨k,v,dH⟩).toArray:=aP
theorem CX(v:Int):Tryz.prog.built 39 [(0,I v)]=some (jq ⟨v,dH⟩).toArray:=aP
theorem N5(s:kE){v:Value}(l:List gp)(h:v.cells=#[v]):Tryz.prog.built 28 [(0,.agg (Ir s)),(1,v)]=some (D6 ⟨s,v,l⟩).toArray:=
 (show Tryz.prog.built 28 [(0,.agg (Ir s)),(1,v)]=Instr.fill (#[(0,2),(2,1)][·]?) #[.slice none 0 0,.slice none 0 0,.slice none 0 0] [(0,.agg (Ir s)),(1,v)]from O).trans X4
theorem aaf:Tryz.prog.built 76 []=some #[I 0,I 0,I 0]:=rfl
theorem ake{a b c a' b' c':Int}(h1:a=a')(h2:b=b')(h3:c=c'):EqT Tryz.prog 76 #[I a,I b,I c] #[I a',I b',I c'] true:=(asP ..).conv (by simp[h1,h2,h3])
theorem alv{p:kE}{l:List gp}{k:Nat}:VN p (l.take k) (l.take k).length=VN p l k:=by unfold VN;rw[EG]
variable{fr:List a7}
variable{W0 w:World}{n m:Nat}{cs:List (List Nat)}{wr:Value}{vL:Value}{vt:Value}{vv:Value}{vy:Value}{vu:Value}{vq:Value}{sn:Int}{vW:Value}{vU:Value}{vT:Value}{cn:Int}{sk:Bool}{wy:BitVec 64}{vd:Value}{vm:Value}{cW:Option (Nat×Array Value)}{cU:Option (Nat×Array Value)}{W:List (BitVec 64)}{ul:List (Value×jD)}{ts:List Int}{au:List pg}{aX:List Int}{aj:List El}{a6:List (BitVec 64)}{us:List jM}{qs:List dw}{lg:List (Value×lU)}{tm:List Int}{L:List a7}
theorem wU(W0:World)(b:Nat)(vg vo vl vn vs vf vq:Value)(cs:Option (Nat×Array Value))(od lo:List Int)(on:List Bool)(sk:List Int)(fr:List DI)(tm:Int)(kO:List Int)(L:List a7)(i:Int)(hl1:lo.length=od.length)(hl2:on.length=od.length)(hl3:kO.length=od.length)(hi:0<=i/\i<od.length)(ht:0<=tm/\tm<=1000000)(hsl:sk.length<=1000000)(hfl:fr.length<=1000000)(w:World)(hks:cO cs vs (sk.map I))(hH:Hp W0 w (.blk b (.cells #[vg,vo,vl,vn,vs,vf,I (tm),vq] 222 (0,0))::jG I vo 3 (od)::jG I vl 3 (lo)::jG B vn 4 (on)::cE cs vs 3 ((sk).map I)::vh Gt 2 vf 233 (fr)::jG I vq 3 (kO)::L)):Calls Tryz.prog 187 #[.pointer (some ⟨b,0,none⟩),I i] w (jj fun u w'=>u= .tuple #[]/\∃vs' vf':Value,Hp W0 w' (.blk b (.cells #[vg,vo,vl,vn,vs',vf',I (tm+1),vq] 222 (0,0))::jG I vo 3 (od.set i.toNat (tm+1))::jG I vl 3 (lo.set i.toNat (tm+1))::jG B vn 4 (on.set i.toNat true)::cE none vs' 3 ((sk++[i]).map I)::vh Gt 2 vf' 233 (fr++[⟨i,0⟩])::jG I vq 3 (kO)::L)):=by
 refine en func187 rfl rfl<|SR<|aE (v:=Pn _ _) rfl<|V (af O)<|V (fA fD 6 O a8 O)<|lI bf hH 0 O O rfl<|V (ax O O J)<|V (af O)<|V (fA fD 6 O a8 O)<|bt hH (i:=0) O (bQ O O (v:=I _) O O O (hH.blk (i:=0) O) aF)<|fun w1 aZ=> ?_
 simp only[iM,kL,m7,ia,Nat.reduceAdd]at aZ
 refine aa<|ag<|fT (z:=⟨none,_,_,_,_,none⟩) aP O aP aZ (sP (sQ (sQ sR)))<|fun w3 gy=>have Er:=gy.sub (sP (sQ (sQ sR)));AQ 0 O Er (mV (Pn _ _) O)<|AQ 1 O Er (af O)<|AQ 2 O Er (fA fD 1 O dB O)<|tV 3 O Er bz 0 O O rfl<|AQ 4 O Er (mV (I _) O)<|AQ 5 O Er (mV (Pn _ _) O)<|AQ 6 O Er (af O)<|AQ 7 O Er (fA fD 2 O dB O)<|tV 8 O Er bz 0 O O rfl<|AQ 9 O Er (mV (I _) O)<|AQ 10 O Er (mV (Pn _ _) O)<|AQ 11 O Er (af O)<|AQ 12 O Er (fA fD 3 O HD O)<|tV 13 O Er qv 0 O O rfl<|AQ 14 O Er (mV (I _) O)<|AQ 15 O Er (mV (Pn _ _) O)<|AQ 16 O Er (af O)<|AQ 17 O Er (fA fD 6 O a8 O)<|tI 18 O Er bf 0 O O rfl<|AQ 19 O Er (mV (Pn _ _) O)<|AQ 20 O Er (af O)<|AQ 21 O Er (fA fD 6 O a8 O)<|tI 22 O Er bf 0 O O rfl<|A1 23<|cr O aH O gy (sP (sQ (sQ sR))) (ah (gy.sl (i:=1) O) bz a8 O O J)<|A1 24<|Y6 O aH gy (i:=1) O (fun _=>(sP (sQ (sQ sR)))) J O O O O rfl<|fun w9 bV=>A1 25<|cr O aH O bV (sP (sQ (sQ sR))) (ah (bV.sl (i:=2) O) bz a8 O O J)<|A1 26<|Y6 O aH bV (i:=2) O (fun _=>(sP (sQ (sQ sR)))) J O O O O rfl<|fun SY cI=>AT 27 O (cI.sub (sP (sQ (sQ sR)))) (fun w hS=>ah (hS.sl (i:=1) O) qv nS O O J)<|AD<|qN (a:=true) cI (i:=3) O J O O O O rfl<|fun OM dQ=>aa<|SR<|aE (v:=Pn _ _) rfl<|aE (v:=Pn _ _) rfl<|V (af O)<|V (fA fD 4 O dB O)<|lV bz dQ 0 O O rfl<|mI rfl<|xP 1 1 dQ (cA bz O O (sz:=1) (vs:=[I _]) O O az az O O)<|fun b21 VV cS=> ?_
 (try simp only[o4]at cS)
 refine asd O cS (i:=5) O hks (cS.dV (i:=0) (n:=1) (sz:=1) O O az) O O bz O O (bytes:=8) O O O O J az<|fun v22 w23 mK=>V (af O)<|V (fA fD 4 O dB O)<|bt mK (i:=1) O (bQ O O (v:=v22) O (gY (mK.A6 (i:=5) O trivial)).2 (gY (mK.A6 (i:=5) O trivial)).1 (mK.blk (i:=1) O) aF)<|fun w25 kG=> ?_
 simp only[iM,kL,m7,ia,Nat.reduceAdd]at kG
 refine aa<|aq<|aE (v:=Pn _ _) rfl<|aE (v:=Pn _ _) rfl<|V (af O)<|V (fA fD 5 O pI O)<|lV mA kG 1 O O rfl<|mI rfl<|V (dx (vs:=[(0,I _)]) O (Tf _))<|xP 1 1 kG (n7 mH mA O O O (l:=[_]) O az az O)<|fun b29 w27 gk=>asc mH az O gk (i:=7) O (Hp.oQ mH gk (i:=0) (l:=[_]) O kU) O O mA O O (bytes:=16) O O O ah3 J az<|fun v30 w31 fJ=>V (af O)<|V (fA fD 5 O pI O)<|bt fJ (i:=2) O (bQ O O (v:=v30) O (bj (fJ.get (i:=7) O)).1 (bj (fJ.get (i:=7) O)).2 (fJ.blk (i:=2) O) aF)<|fun w33 ni=> ?_
 simp only[iM,kL,m7,ia,Nat.reduceAdd]at ni
 refine aa<|pK O ⟨rfl,v22,v30,(ni.sub (sQ (sQ sR)))⟩
theorem G6(W0:World)(b:Nat)(vg vo vl vn vs vf vq:Value)(cs:Option (Nat×Array Value))(od lo:List Int)(on:List Bool)(s1 s2:List Int)(a:Int)(fr:List DI)(tm:Int)(kO:List Int)(L:List a7)(hl1:lo.length=od.length)(hl2:on.length=od.length)(hl3:kO.length=od.length)(hsl:s1.length+s2.length<=1000000)(hna:a∉s2)(hin:∀x∈((a:Int)::s2),0<=x/\x<od.length)(w:World)(hks:cO cs vs ((s1++((a:Int)::s2)).map I))(hH:Hp W0 w (.blk b (.cells #[vg,vo,vl,vn,vs,vf,I (tm),vq] 222 (0,0))::jG I vo 3 (od)::jG I vl 3 (lo)::jG B vn 4 (on)::cE cs vs 3 (((s1++((a:Int)::s2))).map I)::vh Gt 2 vf 233 (fr)::jG I vq 3 (kO)::L)):Calls Tryz.prog 188 #[.pointer (some ⟨b,0,none⟩),I a] w (jj fun u w'=>u= .tuple #[]/\∃cs':Option (Nat×Array Value),cO cs' (sV vs s1.length) (s1.map I)/\Hp W0 w' (.blk b (.cells #[vg,vo,vl,vn,(sV vs s1.length),vf,I (tm),vq] 222 (0,0))::jG I vo 3 (od)::jG I vl 3 (lo)::jG B vn 4 (gx on ((a:Int)::s2) false)::cE cs' (sV vs s1.length) 3 ((s1).map I)::vh Gt 2 vf 233 (fr)::jG I vq 3 (gx kO ((a:Int)::s2) (Cp a ((a:Int)::s2)))::L)):=by
 have aOx:((a:Int)::s2).length=s2.length+1:=rfl
 refine en func188 rfl rfl<|SR<|aE (v:=Pn _ _) rfl<|V (af O)<|V (fA fD 4 O dB O)<|lV bz hH 0 O O rfl<|V (aA (hH.A6 (i:=4) O hks) O bz O)<|V (fF O O iP)<|aI rfl<|aa<|ag<|ay<|bk (G:=Int) (fun k s' w'=>(Fr (4::(rg 17 11 [])) _ s')/\(Hp W0 w' _)/\(s' 4=I k)/\((s1.length:Int)<=k)/\(k<=s1.length+s2.length)) (fun k=>(k-s1.length).toNat) (((s1++((a:Int)::s2)).length:Int)-1) ⟨Fr.refl _ _,hH,(aJ I aF),iP,iP⟩<| ?_
 rintro k sg1 w1 ⟨ug,iI,zR,k0,k1⟩
 obtain⟨lX,zT⟩:=ug.w2 0 1
 refine ag<|SR<|aE lX<|V (af O)<|V (fA fD 4 O dB O)<|lV bz iI 0 O O rfl<|aE zR<|V (ah (iI.A6 (i:=4) O hks) bz a8 O O iP)<|V (aC bf O O ((iI.A6 (i:=4) O hks).cell _ _ (eG iP)))<|aE zT<|V (ke O O)<|aa<|aD O (fun h3=> ?_) (fun h3=> ?_)
 .refine ak<|ay<|aq<|aE zR<|V (fF O O J)<|aI rfl<|aa<| ?_
  refine⟨k-1,?_,ug.u4.u4.u4,iI,(aJ I aO),?_,J⟩
  ·(have:=ahU ‹_≠a› k0;omega)
  (have:=ahU ‹_≠a› k0;omega)
 refine aY (id:=0) rfl<|SR<|aE lX<|V (af O)<|V (fA fD 4 O dB O)<|lV bz iI 0 O O rfl<|aE zR<|have ek:=ase hna (Q1.1 ‹¬_≠a›) k0 k1;V (gh (iI.A6 (i:=4) O hks) bz a8 O O iP)<| ?_
 refine V (run_assign bC) ?_
 refine aa<|SR<|aE zT<|aI rfl<|aa<|ag<|SR<| ?_
 refine V (run_move bC) ?_
 refine V (aA (Dx (s1:=s1) (a:=a) (s2:=s2) J (iI.A6 (i:=4) O hks)) O bz O)<|aE (v:=I 0) rfl<|aa<|ay<|bk (G:=Int) (fun q s' w'=>(Fr (6::(8::(rg 37 8 []))) _ s')/\(Hp W0 w' _)/\(s' 6=I (Cp a (((a:Int)::s2).take q.toNat)))/\(s' 37=I q)/\(0<=q)/\(q<=((a:Int)::s2).length)) (fun q=>(((a:Int)::s2).length-q).toNat) (0) ⟨Fr.refl _ _,iI,rfl,rfl,J,J⟩<| ?_
 rintro q sg4 w4 ⟨ux,gy,Fu,akf,q0,q1⟩
 obtain⟨GH,azh,azi⟩:=ux.w3 5 35 36
 obtain⟨aed,uy⟩:=ux.t2 0 lX 4 zR
 refine SR<|V (aM akf azi)<|aa<|ag<|aD O (fun h6=> ?_) (fun h6=> ?_)
 .refine ak<|ag<|ay<|SR<|V (ah (Dx (s1:=s1) (a:=a) (s2:=s2) J (gy.A6 (i:=4) O hks)) bz a8 azh akf J)<|V (aC bf O O ((Dx (s1:=s1) (a:=a) (s2:=s2) J (gy.A6 (i:=4) O hks)).cell _ _ (eG J)))<|aI rfl<|aa<|aq<|aE Fu<|mI rfl<|V (uP O O)<|aI rfl<|aa<|aq<|V (ax akf O J)<|mI rfl<|aa<| ?_
  refine⟨q+1,aT,ux.u4.u4.u1.u1,gy,(aJ I (adQ q0 J).symm),(aJ I aO),J,J⟩
 refine aY (id:=2) rfl<|ag<|SR<|aE GH<|V (aA (Dx (s1:=s1) (a:=a) (s2:=s2) J (gy.A6 (i:=4) O hks)) O bz O)<|aE (v:=I 0) rfl<|aa<|ay<|have hq:((a:Int)::s2).take q.toNat=((a:Int)::s2):=iV J;bk (G:=Int×(List Bool)×(List Int)) (fun⟨q2,JF,JG⟩ s' w'=>(Fr (10::(rg 47 18 [])) _ s')/\(Hp W0 w' (_::_::_::jG B vn 4 JF::_::_::jG I vq 3 JG::_))/\(s' 47=I q2)/\(0<=q2)/\(q2<=((a:Int)::s2).length)/\(JF=gx on (((a:Int)::s2).take q2.toNat) false)/\(JG=gx kO (((a:Int)::s2).take q2.toNat) (Cp a ((a:Int)::s2)))) (fun⟨q2,JF,JG⟩=>(((a:Int)::s2).length-q2).toNat) ((0,on,kO)) ⟨Fr.refl _ _,gy,rfl,J,J,rfl,rfl⟩<| ?_
 rintro⟨q2,JF,JG⟩ sg7 w7 ⟨FL,eN,akg,r0,r1,hon,hof⟩
 obtain⟨azj,azk⟩:=FL.w2 45 46
 obtain⟨FD,IV,ajG⟩:=FL.t3 0 aed 4 uy 6 Fu
 have l3:JF.length=od.length:=by rw[hon,iR];exact hl2
 have l4:JG.length=od.length:=by rw[hof,iR];exact hl3
 refine SR<|V (aM akg azk)<|aa<|ag<|aD O (fun h9=> ?_) (fun h9=> ?_)
 .refine ak<|ag<|ay<|SR<|V (ah (Dx (s1:=s1) (a:=a) (s2:=s2) J (eN.A6 (i:=4) O hks)) bz a8 azj akg J)<|V (aC bf O O ((Dx (s1:=s1) (a:=a) (s2:=s2) J (eN.A6 (i:=4) O hks)).cell _ _ (eG J)))<|aI rfl<|aa<|have hix:=hin _ (dh (d:=0) r0 ‹q2<_›);fT (z:=⟨none,_,_,_,_,none⟩) aP O aP eN (sP (sP (sP (sP (sP (sP (sQ sR)))))))<|fun GJ dJ=>have jz:=dJ.sub (sP (sP (sP (sP (sP (sP (sQ sR)))))));AQ 0 O jz (run_move FD)<|AQ 1 O jz (af O)<|AQ 2 O jz (fA fD 7 O dB O)<|tV 3 O jz bz 0 O O rfl<|AQ 4 O jz (mV (I _) O)<|AQ 5 O jz (run_move FD)<|AQ 6 O jz (af O)<|AQ 7 O jz (fA fD 3 O HD O)<|tV 8 O jz qv 0 O O rfl<|AQ 9 O jz (mV (I _) O)<|AQ 10 O jz (run_move ajG)<|A1 11<|cr O aH O dJ (sP (sP (sP (sP (sP (sP (sQ sR))))))) (ah (dJ.sl (i:=6) O) bz a8 O O J)<|A1 12<|Y6 O aH dJ (i:=6) O (fun _=>(sP (sP (sP (sP (sP (sP (sQ sR)))))))) J O O O O rfl<|fun J5 dS=>AT 13 O (dS.sub (sP (sP (sP (sP (sP (sP (sQ sR)))))))) (fun w hS=>ah (hS.sl (i:=3) O) qv nS O O J)<|AD<|qN (a:=false) dS (i:=3) O J O O O O rfl<|fun Ou gW=>aa<|aq<|V (ax akg O J)<|mI rfl<|aa<| ?_
  refine⟨(q2+1,_,_),aT,FL.u4.u4.u4.u4.u1.u1.u1,(Hp.conv gW aO),(aJ I aO),J,J,?_,?_⟩
  .rw[Co r0 J,<-hon]
  rw[Co r0 J,<-hof,hq]
 refine aY (id:=4) rfl<|aq<|aE FD<|aE FD<|V (af O)<|V (fA fD 4 O dB O)<|lV bz eN 0 O O rfl<|aE IV<|aE IV<|V (u9 (eN.A6 (i:=4) O hks) bz a8 O O O iP)<|V (af O)<|V (fA fD 4 O dB O)<|have hs1:=((eN.A6 (i:=4) O hks)).sV (n:=k.toNat) iP;?_
 obtain⟨c20,aua,dm⟩:=eN.arR (i:=4) O hks (m:=k.toNat) iP
 simp only[iM,kL,<-BI]at dm aua
 refine bt dm (i:=0) O (bQ O O (v:=sV vs k.toNat) O (gY hs1).2 (gY hs1).1 (dm.blk (i:=0) O) aF)<|fun w23 mK=> ?_
 simp only[iM,kL,m7,ia,Nat.reduceAdd]at mK
 refine aa<|have ek:k.toNat=s1.length:=J;?_
 rw[ek,uH]at mK aua
 have eq2:((a:Int)::s2).take q2.toNat=((a:Int)::s2):=iV J
 rw[eq2]at hon hof
 rw[hon,hof]at mK
 exact pK O ⟨rfl,c20,aua,mK⟩
set_option maxHeartbeats 2000000 in
theorem I4(W0:World)(b:Nat)(vg vo vl vn vs vf vq:Value)(cs:Option (Nat×Array Value))(gr:List jM)(od lo:List Int)(on:List Bool)(tm:Int)(kO:List Int)(nx:Nat->Nat)(K:Vu)(L:List a7)(i:Int)(hgn:gr.length<=100000)(hS:q5 (pO gr) od lo on tm kO [] nx)(hi:0<=i/\i<od.length)(h0:ov od i.toNat=0)(w:World)(hK:Le K (Kw W0))(hg:GrV K vg gr)(hks:cO cs vs (([]:List Int).map I))(hH:Hp W0 w (.blk b (.cells #[vg,vo,vl,vn,vs,vf,I (tm),vq] 222 (0,0))::jG I vo 3 (od)::jG I vl 3 (lo)::jG B vn 4 (on)::cE cs vs 3 ([].map I)::vh Gt 2 vf 233 []::jG I vq 3 (kO)::L)):Calls Tryz.prog 155 #[.pointer (some ⟨b,0,none⟩),I i] w (jj fun u w'=>u= .tuple #[]/\∃(Nh OZ:Value) (Ff:Option (Nat×Array Value)) (Wt:Nat->Nat) (Br lo1:List Int) (JF:List Bool) (KS:Int) (JG:List Int),q5 (pO gr) Br lo1 JF KS JG [] Wt/\cO Ff Nh (([]:List Int).map I)/\(ov Br i.toNat≠0/\∀k,ov od k≠0->ov Br k≠0)/\Hp W0 w' (.blk b (.cells #[vg,vo,vl,vn,Nh,OZ,I (KS),vq] 222 (0,0))::jG I vo 3 (Br)::jG I vl 3 (lo1)::jG B vn 4 (JF)::cE Ff Nh 3 (([]).map I)::vh Gt 2 OZ 233 ([])::jG I vq 3 (JG)::L)):=by
 have hr0:=hS.room
 rw[gd]at hr0
 refine en func155 rfl rfl<|YX<|SR<|aE (v:=Pn _ _) rfl<|mI rfl<|bY O (wU _ _ _ _ _ _ _ _ _ _ _ _ _ _ _ _ _ _ _ (by have:=hS.llo;have:=hS.TE;omega) (by have:=hS.lon;have:=hS.TE;omega) (by have:=hS.lof;have:=hS.TE;omega) hi J (by simp[fl,NI]) (by simp[pe]) _ hks hH) (aN call187 O O)<| ?_
 rintro _ w3 ⟨rfl,v5,v6,gy⟩
 have hS1:=hS.first (a:=i.toNat) (by rw[<-hS.TE];omega) h0
 rw[show i=((i.toNat:Nat):Int)by omega,show([]:List Int)++[((i.toNat:Nat):Int)]=NI (fl [(i.toNat,[])]).reverse from ah4 (F:=[]),show([]:List DI)++[⟨((i.toNat:Nat):Int),0⟩]=pe [(i.toNat,[])] nx from ah5 (F:=[]) (hS.nx0 _ h0)]at gy
 simp only[ef]at gy
 refine aa<|ag<|YY<|ay<| ?_
 refine bk (G:=TD×(Nat->Nat)×Value×Value×(Option (Nat×Array Value))×(List Int)×(List Int)×(List Bool)×Int×(List Int)) (fun⟨F,Wt,Nh,OZ,Ff,Br,lo1,JF,KS,JG⟩ s' w'=>(Fr (rg 4 5 (rg 12 173 [])) _ s')/\(Hp W0 w' (.blk b (.cells #[vg,vo,vl,vn,Nh,OZ,I (KS),vq] 222 (0,0))::jG I vo 3 (Br)::jG I vl 3 (lo1)::jG B vn 4 (JF)::cE Ff Nh 3 ((NI (fl F).reverse).map I)::vh Gt 2 OZ 233 (pe F Wt)::jG I vq 3 (JG)::_))/\(q5 (pO gr) Br lo1 JF KS JG F Wt)/\(cO Ff Nh ((NI (fl F).reverse).map I))/\(ov Br i.toNat≠0/\∀k,ov od k≠0->ov Br k≠0)) (fun⟨F,Wt,Nh,OZ,Ff,Br,lo1,JF,KS,JG⟩=>2*Br.count 0+F.length) (([(i.toNat,[])],nx,v5,v6,none,od.set i.toNat (tm+1),lo.set i.toNat (tm+1),on.set i.toNat true,tm+1,kO)) ⟨Fr.refl _ _,gy,hS1,trivial,⟨by rw[zO J];unfold n9;rw[aS O];omega,fun k hk=>by rw[zO J];unfold n9;split<;>omega⟩⟩ ?_
 rintro⟨F,Wt,Nh,OZ,Ff,Br,lo1,JF,KS,JG⟩ sg7 w7 ⟨FL,eN,hS,aah,hdn⟩
 have FD:=FL.w1 0
 refine ag<|SR<|aE FD<|V (af O)<|V (fA fD 5 O pI O)<|lV mA eN 0 O O rfl<|V (aA (eN.sl (i:=5) O) O mA O)<|V (cD O O)<|aa<|aD O (fun h9=> ?_) (fun h9=> ?_)
 .refine ak<|ay<|ag<| ?_
  obtain⟨a,sg,F0,rfl⟩:=asm (F:=F) (nx:=Wt) J
  have han:=hS.EX
  rw[gd]at han
  have q0:=hS.TE;rw[gd]at q0
  have q1:=hS.llo;rw[gd]at q1
  have q2:=hS.lon;rw[gd]at q2
  have q3:=hS.lof;rw[gd]at q3
  have hrm:=hS.room
  rw[gd]at hrm
  have hst:=abj hS
  rw[gd]at hst
  have hfs:=amY hS
  simp only[eR]at hfs
  have hlen:((pe ((a,sg)::F0) Wt).length:Int)-1=F0.length:=by rw[ot];simp
  have hfa:(pe ((a,sg)::F0) Wt).getD (F0.length:Int).toNat JU=⟨a,Wt a⟩:=SC
  refine ed aP eN<|fun GJ dJ=>have jz:=dJ;AQ 0 O jz (run_move FD)<|AQ 1 O jz (af O)<|AQ 2 O jz (fA fD 5 O pI O)<|tV 3 O jz mA 0 O O rfl<|AQ 4 O jz (run_move FD)<|AQ 5 O jz (af O)<|AQ 6 O jz (fA fD 5 O pI O)<|tV 7 O jz mA 0 O O rfl<|AT 8 O jz (fun w hS=>aA (hS.sl (i:=5) O) O mA O)<|AQ 9 O jz (fF O O J)<|AT 10 O jz (fun w hS=>ah (hS.sl (i:=5) O) mA Ll O (aJ I hlen) J)<|AQ 11 O jz (aV (Pn _ _) O)<|AD<|SR<|aE (v:=Pn _ _) rfl<|V (af O)<|V (fA EK 0 O a8 O)<|V (fQ (dv:=JU) (off:=0) mH (dJ.sl (i:=5) O) bf O O J O)<|V (run_assign (show _=I (a:Int)from aJ (fun x:DI=>I x.node) hfa))<|aa<|ag<|ay<|bk (G:=(Nat->Nat)×(List Int)) (fun⟨vK,KT⟩ s' w'=>(Fr (6::(rg 33 83 [])) _ s')/\(Hp W0 w' (_::_::jG I vl 3 KT::_::_::vh Gt 2 OZ 233 (pe ((a,sg)::F0) vK)::_))/\(q5 (pO gr) Br KT JF KS JG ((a,sg)::F0) vK)) (fun⟨vK,KT⟩=>(gr.getD (a:Int).toNat cY).l.length-vK a) ((Wt,lo1)) ⟨Fr.refl _ _,dJ,hS⟩<| ?_
  rintro⟨vK,KT⟩ aeg Bv ⟨oz,cJ,hS⟩
  obtain⟨Ef,mL⟩:=oz.w2 4 5
  have k8:=oz.t1 0 FD
  have hlen:((pe ((a,sg)::F0) vK).length:Int)-1=F0.length:=by rw[ot];simp
  have hfa:(pe ((a,sg)::F0) vK).getD (F0.length:Int).toNat JU=⟨a,vK a⟩:=SC
  have q1:=hS.llo;rw[gd]at q1
  have hml:=(hg.row (k:=(a:Int)) J J).small
  unfold maxLen at hml
  refine ag<|ag<|ed aP cJ<|fun Bw cg=>have xJ:=cg;AQ 0 O xJ (run_move Ef)<|AQ 1 O xJ (af O)<|AQ 2 O xJ (fA EK 1 O a8 O)<|AT 3 O xJ (fun w hS=>fQ (dv:=JU) (off:=1) mH (hS.sl (i:=5) O) bf O O J O)<|AQ 4 O xJ (run_move k8)<|AQ 5 O xJ (af O)<|AQ 6 O xJ (fA fD 0 O yY O)<|tV 7 O xJ o5 0 O O rfl<|AQ 8 O xJ (run_move mL)<|AT 9 O xJ (fun w hS=>ah (hg.1.mono (Le.trans hK hS.kw)).sl o5 dB O O J)<|AT 10 O xJ (fun w hS=>aC bz O O ((hg.1.mono (Le.trans hK hS.kw)).sl.cell _ _ (hg.at J)))<|AT 11 O xJ (fun w hS=>aA ((hg.row (k:=(a:Int)) J J).mono (Le.trans hK hS.kw)).sl O bz O)<|AQ 12 O xJ (aM (show _=I (vK a:Int)from aJ (fun x:DI=>I x.next) hfa) O)<|AD<|aD O (fun wc=> ?_) (fun wc=> ?_)
  .refine ak<|ay<|ag<|ed aP cg<|fun OM dQ=>have qo:=dQ;AQ 0 O qo (run_move k8)<|AQ 1 O qo (af O)<|AQ 2 O qo (fA fD 0 O yY O)<|tV 3 O qo o5 0 O O rfl<|AQ 4 O qo (run_move mL)<|AT 5 O qo (fun w hS=>ah (hg.1.mono (Le.trans hK hS.kw)).sl o5 dB O O J)<|AT 6 O qo (fun w hS=>aC bz O O ((hg.1.mono (Le.trans hK hS.kw)).sl.cell _ _ (hg.at J)))<|AQ 7 O qo (run_move Ef)<|AQ 8 O qo (af O)<|AQ 9 O qo (fA EK 1 O a8 O)<|AT 10 O qo (fun w hS=>fQ (dv:=JU) (off:=1) mH (hS.sl (i:=5) O) bf O O J O)<|AT 11 O qo (fun w hS=>ah ((hg.row (k:=(a:Int)) J J).mono (Le.trans hK hS.kw)).sl bz a8 O (show _=I (vK a:Int)from aJ (fun x:DI=>I x.next) hfa) J)<|AT 12 O qo (fun w hS=>aC bf O O (((hg.row (k:=(a:Int)) J J).mono (Le.trans hK hS.kw)).sl.cell _ _ (eG J)))<|AQ 13 O qo (aV (I _) O)<|AD<|SR<|aE Ef<|V (af O)<|V (fA EK 1 O a8 O)<|V (fQ (dv:=JU) (off:=1) mH (dQ.sl (i:=5) O) bf O O J O)<|V (ax (show _=I (vK a:Int)from aJ (fun x:DI=>I x.next) hfa) O J)<|V (af O)<|V (fA EK 1 O a8 O)<|asa (a:=JU) (u:=I ((vK a:Int)+1)) (b:=⟨((pe ((a,sg)::F0) vK).getD (F0.length:Int).toNat JU).node,(vK a:Int)+1⟩) mH dQ (i:=5) O HL O O O O O az rfl<|fun VV cS=> ?_
   rw[hfa,ef,ah2 hS]at cS
   refine aa<|ag<|SR<|mI rfl<|V (aM O O)<|mB rfl<|bM 68 O (fun h22=> ?_) (fun h22=> ?_)
   .refine aE (v:=B true) rfl<|aa<|cC rfl<|aY (id:=3) rfl<| ?_
    refine⟨(qm vK a,KT),?_,oz.u4.u4.u4.u4.u4.u4.u4.u4.u4.u4.u4.u1,(Hp.conv cS aO),?_⟩
    ·(show(gr.getD (a:Int).toNat cY).l.length-qm vK a a<(gr.getD (a:Int).toNat cY).l.length-vK a;unfold qm;rw[aS O];omega)
    exact hS.skip fun⟨j,h1,h2⟩=>by rw[Fg]at h2;rw[gd]at h1;have e:((gr.getD (a:Int).toNat cY).l.getD (vK a:Int).toNat 0)=j:=h2;omega
   refine mI rfl<|aE k8<|V (af O)<|V (fA fD 0 O yY O)<|lV o5 cS 0 O O rfl<|V (aA (hg.1.mono (Le.trans hK cS.kw)).sl O o5 O)<|V (dD O O)<|mB rfl<|aa<|aD O (fun AM=> ?_) (fun AM=> ?_)
   .refine aY (id:=3) O ?_
    refine⟨(qm vK a,KT),?_,oz.u4.u4.u4.u4.u4.u4.u4.u4.u4.u4.u4.u1,(Hp.conv cS aO),?_⟩
    ·(show(gr.getD (a:Int).toNat cY).l.length-qm vK a a<(gr.getD (a:Int).toNat cY).l.length-vK a;unfold qm;rw[aS O];omega)
    exact hS.skip fun⟨j,h1,h2⟩=>by rw[Fg]at h2;rw[gd]at h1;have e:((gr.getD (a:Int).toNat cY).l.getD (vK a:Int).toNat 0)=j:=h2;omega
   refine ak<|ag<|SR<| ?_
   obtain⟨j,hj⟩:∃j:Nat,((gr.getD (a:Int).toNat cY).l.getD (vK a:Int).toNat 0)=(j:Int):=⟨_,(fW J).symm⟩
   have hjn:((pO gr).getD a []).getD (vK a) 0=(j:Int):=by rw[Fg];exact hj
   have hjr:j<(pO gr).length:=by rw[gd];omega
   have hlt:vK a<((pO gr).getD a []).length:=by rw[Fg];show vK a<(gr.getD (a:Int).toNat cY).l.length;omega
   refine aE k8<|V (af O)<|V (fA fD 1 O dB O)<|lV bz cS 0 O O rfl<|mI rfl<|V (ah (cS.sl (i:=1) O) bz a8 O (aJ I hj) J)<|V (aC bf O O ((cS.sl (i:=1) O).cell _ _ (eG J)))<|V (bN O O)<|aa<|aD O (fun VY=> ?_) (fun VY=> ?_)
   .refine SR<|have h0j:ov Br j=0:=‹Br.getD (j:Int).toNat 0=0›;aE k8<|mI rfl<|bY O (wU _ _ _ _ _ _ _ _ _ _ _ _ _ _ _ _ _ _ _ J J J J J (by simp only[NI,gB,List.length_reverse];omega) HL _ aah cS) (aN call187 O (aJ I hj))<| ?_
    rintro _ w29 ⟨rfl,v31,v32,jf⟩
    have hS1:=hS.enter (a:=j) hlt hjn J h0j
    rw[ah4,ah5 (SB hS j h0j)]at jf
    simp only[ef]at jf
    refine aa<|aY (id:=1) rfl<| ?_
    refine⟨(((j,[])::(a,sg)::F0),qm vK a,v31,v32,none,Br.set j (KS+1),KT.set j (KS+1),JF.set j true,KS+1,JG),?_,(((FL.u4.u4.u4.u4.u4.u1.u1.u1).t oz O)).u4.u4.u4.u4.u4.u4.u4.u4.u4.u4.u4.u4.u4.u4,(Hp.conv jf aO),?_,?_,?_⟩
    ·(have c1:=hS.cnt;have c2:=hS1.cnt;simp only[eR];omega)
    .exact hS1
    .exact trivial
    (refine⟨?_,fun k hk=> ?_⟩<;>(rw[zO J];unfold n9;split<;>first|omega|exact hdn.2 k hk))
   refine ak<|SR<|aE k8<|V (af O)<|V (fA fD 3 O HD O)<|lV qv cS 0 O O rfl<|mI rfl<|V (ah (cS.sl (i:=3) O) qv nS O (aJ I hj) J)<|V (aC xg O O ((cS.sl (i:=3) O).cell _ _ (lf (dv:=false) J)))<|aa<|bW O (fun IS=> ?_) (fun IS=> ?_)
   .refine fT (z:=⟨none,_,_,_,_,none⟩) aP O aP cS sR<|fun w35 oe=>have sy:=oe;AQ 0 O sy (run_move k8)<|AQ 1 O sy (af O)<|AQ 2 O sy (fA fD 2 O dB O)<|tV 3 O sy bz 0 O O rfl<|AQ 4 O sy (run_move mL)<|AQ 5 O sy (run_move k8)<|AQ 6 O sy (af O)<|AQ 7 O sy (fA fD 2 O dB O)<|tV 8 O sy bz 0 O O rfl<|AQ 9 O sy (run_move mL)<|AT 10 O sy (fun w hS=>ah (hS.sl (i:=2) O) bz a8 O O J)<|AT 11 O sy (fun w hS=>aC bf O O ((hS.sl (i:=2) O).cell _ _ (eG J)))<|AQ 12 O sy (run_move k8)<|AQ 13 O sy (af O)<|AQ 14 O sy (fA fD 1 O dB O)<|tV 15 O sy bz 0 O O rfl<|AQ 16 O sy (mV (I _) O)<|AT 17 O sy (fun w hS=>ah (hS.sl (i:=1) O) bz a8 O (aJ I hj) J)<|AT 18 O sy (fun w hS=>aC bf O O ((hS.sl (i:=1) O).cell _ _ (eG J)))<|AQ 19 O sy (uP O O)<|AT 20 O sy (fun w hS=>ah (hS.sl (i:=2) O) bz a8 O O J)<|AD<|qN oe (i:=2) O J O O O O rfl<|fun w37 we=>aa<| ?_
    refine⟨(qm vK a,KT.set a (min (ov KT a) (ov Br j))),?_,oz.u4.u4.u4.u4.u4.u4.u4.u4.u4.u4.u4.u4.u4.u4.u4.u4.u4.u4.u4.u4.u1,(Hp.conv we aO),?_⟩
    ·(show(gr.getD (a:Int).toNat cY).l.length-qm vK a a<(gr.getD (a:Int).toNat cY).l.length-vK a;unfold qm;rw[aS O];omega)
    exact hS.arc hlt hjr hjn ‹_=true›
   refine ak ?_
   refine⟨(qm vK a,KT),?_,oz.u4.u4.u4.u4.u4.u4.u4.u4.u4.u4.u4.u4.u4.u4.u4,(Hp.conv cS aO),?_⟩
   ·(show(gr.getD (a:Int).toNat cY).l.length-qm vK a a<(gr.getD (a:Int).toNat cY).l.length-vK a;unfold qm;rw[aS O];omega)
   exact hS.shut hlt hjr hjn ‹¬Br.getD (j:Int).toNat 0=0› jY
  refine aY (id:=2) rfl<|ag<|ag<|have hnd:¬vK a<((pO gr).getD a []).length:=(by rw[Fg];show¬vK a<(gr.getD (a:Int).toNat cY).l.length;omega);ed aP cg<|fun w39 oy=>have vI:=oy;AQ 0 O vI (run_move k8)<|AQ 1 O vI (af O)<|AQ 2 O vI (fA fD 2 O dB O)<|tV 3 O vI bz 0 O O rfl<|AQ 4 O vI (run_move mL)<|AT 5 O vI (fun w hS=>ah (hS.sl (i:=2) O) bz a8 O O J)<|AT 6 O vI (fun w hS=>aC bf O O ((hS.sl (i:=2) O).cell _ _ (eG J)))<|AQ 7 O vI (run_move k8)<|AQ 8 O vI (af O)<|AQ 9 O vI (fA fD 1 O dB O)<|tV 10 O vI bz 0 O O rfl<|AQ 11 O vI (run_move mL)<|AT 12 O vI (fun w hS=>ah (hS.sl (i:=1) O) bz a8 O O J)<|AT 13 O vI (fun w hS=>aC bf O O ((hS.sl (i:=1) O).cell _ _ (eG J)))<|AQ 14 O vI (bN O O)<|AD<|aD O (fun h42=> ?_) (fun h42=> ?_)
  .refine aq<|aE k8<|aE mL<|have kD:ov KT a=ov Br a:=‹KT.getD (a:Int).toNat 0=Br.getD (a:Int).toNat 0›;have azm:=aah;have kZ:=oy;?_
   rw[abi]at azm kZ
   refine bY O (G6 _ _ _ _ _ _ _ _ _ _ _ _ _ _ _ _ _ _ _ _ J J J (by have:=abj hS;have e:=aJ List.length (gF (a:=a) (sg:=sg) (F:=F0));simp only[cZ,eR]at e;simp only[NI,gB,List.length_reverse];omega) hS.arN (fun x hx=>by obtain⟨k,hk,rfl⟩:=abh (l:=a::sg.reverse) hx;have:=(hS.lt k (by rw[gF];simp at hk⊢;exact hk.elim (fun q=> .inr (.inl q)) .inl)).1;rw[gd]at this;omega) _ azm kZ) (aN call188 O O) ?_
   rintro _ w46 ⟨rfl,c48,azn,oC⟩
   have hS2:=hS.axa (ks:=(a:Int)::NI sg.reverse) hnd kD O
   refine aa<|ag<|fT (z:=⟨none,_,_,_,_,none⟩) aP O aP oC sR<|fun w50 wg=>have Bn:=wg;AQ 0 O Bn (run_move k8)<|AQ 1 O Bn (run_move k8)<|AQ 2 O Bn (af O)<|AQ 3 O Bn (fA fD 5 O pI O)<|tV 4 O Bn mA 0 O O rfl<|AQ 5 O Bn (run_move k8)<|AQ 6 O Bn (af O)<|AQ 7 O Bn (fA fD 5 O pI O)<|tV 8 O Bn mA 0 O O rfl<|AT 9 O Bn (fun w hS=>aA (hS.sl (i:=5) O) O mA O)<|AQ 10 O Bn (fF O O J)<|A1 11<|cr O aH O wg sR (wx (wg.sl (i:=5) O) mA Ll O (aJ I hlen) (by(simp only[ot,eR];omega)))<|AQ 12 O Bn (af O)<|AQ 13 O Bn (fA fD 5 O pI O)<|AD<|have oZ:=Hp.aw1 mH wg (i:=5) O (m:=F0.length) (by(simp only[ot,eR];omega));bt oZ (i:=0) O (bQ O O (v:=(q7 OZ (F0.length))) O (bj (oZ.get (i:=5) O)).1 (bj (oZ.get (i:=5) O)).2 (oZ.blk (i:=0) O) aF)<|fun w54 jg=> ?_
   simp only[iM,kL,m7,ia,Nat.reduceAdd]at jg
   rw[Vh]at jg
   refine aa<|SR<|aE k8<|V (af O)<|V (fA fD 5 O pI O)<|lV mA jg 0 O O rfl<|V (aA (jg.sl (i:=5) O) O mA O)<|V (run_assign (aJ I (show((pe F0 vK).length:Int)=F0.length from by rw[ot])))<|aa<|SR<|mI rfl<|V (cD O O)<|aa<|aD O (fun h58=> ?_) (fun h58=> ?_)
   .refine SR ?_
    obtain⟨p,sp,F1,rfl⟩:=axb (F:=F0) J
    have hpn:=(hS.lt p (jd (x:=(p,sp)) aF)).1
    rw[gd]at hpn
    refine aE k8<|V (af O)<|V (fA fD 5 O pI O)<|lV mA jg 0 O O rfl<|mI rfl<|V (fF O O J)<|V (ah (jg.sl (i:=5) O) mA Ll O (aJ I (show(((p,sp)::F1).length:Int)-1=F1.length from by simp)) HL)<|V (fA EK 0 O a8 O)<|V (fQ (dv:=JU) (off:=0) mH (jg.sl (i:=5) O) bf O O HL O)<|V (run_assign (show _=I (p:Int)from aJ (fun x:DI=>I x.node) (show(pe ((p,sp)::F1) vK).getD (F1.length:Int).toNat JU=⟨p,vK p⟩from SC)))<|aa<|fT (z:=⟨none,_,_,_,_,none⟩) aP O aP jg sR<|fun w59 G4=>have xM:=G4;AQ 0 O xM (run_move k8)<|AQ 1 O xM (af O)<|AQ 2 O xM (fA fD 2 O dB O)<|tV 3 O xM bz 0 O O rfl<|AQ 4 O xM (mV (I _) O)<|AQ 5 O xM (run_move k8)<|AQ 6 O xM (af O)<|AQ 7 O xM (fA fD 2 O dB O)<|tV 8 O xM bz 0 O O rfl<|AQ 9 O xM (mV (I _) O)<|AT 10 O xM (fun w hS=>ah (hS.sl (i:=2) O) bz a8 O O J)<|AT 11 O xM (fun w hS=>aC bf O O ((hS.sl (i:=2) O).cell _ _ (eG J)))<|AQ 12 O xM (run_move k8)<|AQ 13 O xM (af O)<|AQ 14 O xM (fA fD 2 O dB O)<|tV 15 O xM bz 0 O O rfl<|AQ 16 O xM (run_move mL)<|AT 17 O xM (fun w hS=>ah (hS.sl (i:=2) O) bz a8 O O J)<|AT 18 O xM (fun w hS=>aC bf O O ((hS.sl (i:=2) O).cell _ _ (eG J)))<|AQ 19 O xM (uP O O)<|AT 20 O xM (fun w hS=>ah (hS.sl (i:=2) O) bz a8 O O J)<|AD<|qN G4 (i:=2) O J O O O O rfl<|fun w61 tL=>aa<| ?_
    refine⟨(((p,sp)::F1),vK,(sV Nh (NI (fl ((p,sp)::F1)).reverse).length),(q7 OZ (((p,sp)::F1).length)),c48,Br,KT.set p (min (ov KT p) (ov KT a)),gx JF ((a:Int)::NI sg.reverse) false,KS,gx JG ((a:Int)::NI sg.reverse) (Cp a ((a:Int)::NI sg.reverse))),?_,(((FL.u4.u4.u4.u4.u4.u1.u1.u1).t oz O)).u4.u4.u4.u4.u4.u4.u4.u4.u4.u4.u4.u4.u4.u4.u4.u4.u4.u4.u4.u4.u4,(Hp.conv tL aO),?_,?_,?_⟩
    ·(simp only[eR,Hx];omega)
    ·(rw[hS.keep kD];exact hS2)
    .exact azn
    exact hdn
   refine ak<|have e0:F0=[]:=yJ J;?_
   subst e0
   refine⟨([],vK,(sV Nh (NI (fl ([]:TD)).reverse).length),(q7 OZ (([]:TD).length)),c48,Br,KT,gx JF ((a:Int)::NI sg.reverse) false,KS,gx JG ((a:Int)::NI sg.reverse) (Cp a ((a:Int)::NI sg.reverse))),?_,(((FL.u4.u4.u4.u4.u4.u1.u1.u1).t oz O)).u4.u4.u4.u4.u4.u4.u4.u4.u4.u4.u4.u4.u4.u1,(Hp.conv jg aO),?_,?_,?_⟩
   ·(simp only[eR,Hx];omega)
   .exact hS2
   .exact azn
   exact hdn
  refine ak<|ag<|have kD:ov KT a≠ov Br a:=‹¬KT.getD (a:Int).toNat 0=Br.getD (a:Int).toNat 0›;fT (z:=⟨none,_,_,_,_,none⟩) aP O aP oy sR<|fun w63 uz=>have I5:=uz;AQ 0 O I5 (run_move k8)<|AQ 1 O I5 (run_move k8)<|AQ 2 O I5 (af O)<|AQ 3 O I5 (fA fD 5 O pI O)<|tV 4 O I5 mA 0 O O rfl<|AQ 5 O I5 (run_move k8)<|AQ 6 O I5 (af O)<|AQ 7 O I5 (fA fD 5 O pI O)<|tV 8 O I5 mA 0 O O rfl<|AT 9 O I5 (fun w hS=>aA (hS.sl (i:=5) O) O mA O)<|AQ 10 O I5 (fF O O J)<|A1 11<|cr O aH O uz sR (wx (uz.sl (i:=5) O) mA Ll O (aJ I hlen) (by(simp only[ot,eR];omega)))<|AQ 12 O I5 (af O)<|AQ 13 O I5 (fA fD 5 O pI O)<|AD<|have OX:=Hp.aw1 mH uz (i:=5) O (m:=F0.length) (by(simp only[ot,eR];omega));bt OX (i:=0) O (bQ O O (v:=(q7 OZ (F0.length))) O (bj (OX.get (i:=5) O)).1 (bj (OX.get (i:=5) O)).2 (OX.blk (i:=0) O) aF)<|fun w67 mM=> ?_
  simp only[iM,kL,m7,ia,Nat.reduceAdd]at mM
  rw[Vh]at mM
  refine aa<|SR<|aE k8<|V (af O)<|V (fA fD 5 O pI O)<|lV mA mM 0 O O rfl<|V (aA (mM.sl (i:=5) O) O mA O)<|V (run_assign (aJ I (show((pe F0 vK).length:Int)=F0.length from by rw[ot])))<|aa<|SR<|mI rfl<|V (cD O O)<|aa<|aD O (fun h71=> ?_) (fun h71=> ?_)
  .refine SR ?_
   obtain⟨p,sp,F1,rfl⟩:=axb (F:=F0) J
   have hpn:=(hS.lt p (jd (x:=(p,sp)) aF)).1
   rw[gd]at hpn
   refine aE k8<|V (af O)<|V (fA fD 5 O pI O)<|lV mA mM 0 O O rfl<|mI rfl<|V (fF O O J)<|V (ah (mM.sl (i:=5) O) mA Ll O (aJ I (show(((p,sp)::F1).length:Int)-1=F1.length from by simp)) HL)<|V (fA EK 0 O a8 O)<|V (fQ (dv:=JU) (off:=0) mH (mM.sl (i:=5) O) bf O O HL O)<|V (run_assign (show _=I (p:Int)from aJ (fun x:DI=>I x.node) (show(pe ((p,sp)::F1) vK).getD (F1.length:Int).toNat JU=⟨p,vK p⟩from SC)))<|aa<|fT (z:=⟨none,_,_,_,_,none⟩) aP O aP mM sR<|fun w72 wh=>have xN:=wh;AQ 0 O xN (run_move k8)<|AQ 1 O xN (af O)<|AQ 2 O xN (fA fD 2 O dB O)<|tV 3 O xN bz 0 O O rfl<|AQ 4 O xN (mV (I _) O)<|AQ 5 O xN (run_move k8)<|AQ 6 O xN (af O)<|AQ 7 O xN (fA fD 2 O dB O)<|tV 8 O xN bz 0 O O rfl<|AQ 9 O xN (mV (I _) O)<|AT 10 O xN (fun w hS=>ah (hS.sl (i:=2) O) bz a8 O O J)<|AT 11 O xN (fun w hS=>aC bf O O ((hS.sl (i:=2) O).cell _ _ (eG J)))<|AQ 12 O xN (run_move k8)<|AQ 13 O xN (af O)<|AQ 14 O xN (fA fD 2 O dB O)<|tV 15 O xN bz 0 O O rfl<|AQ 16 O xN (run_move mL)<|AT 17 O xN (fun w hS=>ah (hS.sl (i:=2) O) bz a8 O O J)<|AT 18 O xN (fun w hS=>aC bf O O ((hS.sl (i:=2) O).cell _ _ (eG J)))<|AQ 19 O xN (uP O O)<|AT 20 O xN (fun w hS=>ah (hS.sl (i:=2) O) bz a8 O O J)<|AD<|qN wh (i:=2) O J O O O O rfl<|fun w74 GY=>aa<|have rq:=GY;have azo:=aah;?_
   rw[ah6]at rq azo
   rw[ah7 (sg:=sg) (a:=a)]at rq
   refine⟨(((p,sg++a::sp)::F1),vK,Nh,(q7 OZ (((p,sp)::F1).length)),Ff,Br,KT.set p (min (ov KT p) (ov KT a)),JF,KS,JG),?_,(((FL.u4.u4.u4.u4.u4.u1.u1.u1).t oz O)).u4.u4.u4.u4.u4.u4.u4.u4.u4.u4.u4.u4.u4.u4.u4.u4.u4.u4.u4.u4.u1,(Hp.conv rq aO),?_,?_,?_⟩
   ·(simp only[eR,Hx];omega)
   .exact hS.Vg hnd kD
   .exact azo
   exact hdn
  refine ak<|have e0:F0=[]:=yJ J;?_
  subst e0
  refine⟨([],vK,Nh,(q7 OZ (([]:TD).length)),Ff,Br,KT,JF,KS,JG),?_,(((FL.u4.u4.u4.u4.u4.u1.u1.u1).t oz O)).u4.u4.u4.u4.u4.u4.u4.u4.u4.u4.u4.u4.u1.u1,(Hp.conv mM (by exact absurd hS.root kD)),?_,?_,?_⟩
  ·(simp only[eR,Hx];omega)
  .exact absurd hS.root kD
  .exact absurd hS.root kD
  exact hdn
 refine aY (id:=0) rfl<|have e0:F=[]:=(by cases F with|nil=>rfl|cons x F0=>(exfalso;simp only[ot,eR]at*;omega));?_
 subst e0
 exact pK O ⟨rfl,Nh,OZ,Ff,Wt,Br,lo1,JF,KS,JG,hS,aah,hdn,eN⟩
theorem aeu(v:Value)(gr:List jM)(hgn:gr.length<=100000)(w:World)(hg0:GrV (Kw w) v gr):Calls Tryz.prog 124 #[v] w (qB 3 1 gr.length ((oV (pO gr)).map I) w):=by
 have hg:=hg0.1
 have hgl:=gd (g:=gr)
 refine eH func124 rfl rfl fun hH=>SR<|va (v:= .slice none 0 0) rfl<|aa<|SR<| ?_
 refine V (run_move bC) ?_
 refine V (aA (hg.mono hH.kw).sl O o5 O)<|aI rfl<|aa<|ag<|ed aP hH<|fun w1 aZ=>have kH:=aZ;?_
 refine AQ 0 O kH (run_move bC) ?_
 refine AQ 1 O kH (mV (I _) O)<|AQ 3 O kH (mV (I _) O)<|AQ 5 O kH (mV (I _) O)<|AQ 7 O kH (mV (I _) O)<|aw5 [10,12,14,16] [2,4,6,8] [⟨2,10,_,_,_,_,fun b=> .slice (some ⟨b,0,none⟩) (gr.length) (gr.length),.cells ((List.replicate (gr.length) ((0:Int))).map I).toArray 3 (0,0)⟩,⟨4,12,_,_,_,_,fun b=> .slice (some ⟨b,0,none⟩) (gr.length) (gr.length),.cells ((List.replicate (gr.length) ((0:Int))).map I).toArray 3 (0,0)⟩,⟨6,14,_,_,_,_,fun b=> .slice (some ⟨b,0,none⟩) (gr.length) (gr.length),.cells ((List.replicate (gr.length) (false)).map B).toArray 4 (0,0)⟩,⟨8,16,_,_,_,_,fun b=> .slice (some ⟨b,0,none⟩) (gr.length) (gr.length),.cells ((List.replicate (gr.length) ((0:Int))).map I).toArray 3 (0,0)⟩] O O ⟨⟨rfl,rfl⟩,⟨rfl,rfl⟩,⟨rfl,rfl⟩,⟨rfl,rfl⟩,trivial⟩ ⟨fun σ' w h=>zN bz O O O O ((h 9 O).trans (show _=Value.int .i64 ((gr.length:Nat):Int)from O)) ((h 9 O).trans (show _=Value.int .i64 ((gr.length:Nat):Int)from O)) az J,fun σ' w h=>zN bz O O O O ((h 11 O).trans (show _=Value.int .i64 ((gr.length:Nat):Int)from O)) ((h 11 O).trans (show _=Value.int .i64 ((gr.length:Nat):Int)from O)) az J,fun σ' w h=>zN qv O O O O ((h 13 O).trans (show _=Value.int .i64 ((gr.length:Nat):Int)from O)) ((h 13 O).trans (show _=Value.int .i64 ((gr.length:Nat):Int)from O)) az J,fun σ' w h=>zN bz O O O O ((h 15 O).trans (show _=Value.int .i64 ((gr.length:Nat):Int)from O)) ((h 15 O).trans (show _=Value.int .i64 ((gr.length:Nat):Int)from O)) az J,trivial⟩ az az aP aZ sR<|fun QK w4 bP=> ?_
 simp only[lB,BM,gf,eC,Vd]at bP
 have iT:=bP.JR (i:=0) (n:=gr.length) (l:=List.replicate (gr.length) ((0:Int))) (f:=I) O aF J
 have eN:=iT.JR (i:=1) (n:=gr.length) (l:=List.replicate (gr.length) ((0:Int))) (f:=I) O aF J
 have eU:=eN.JR (i:=2) (n:=gr.length) (l:=List.replicate (gr.length) (false)) (f:=B) O aF J
 have iJ:=eU.JR (i:=3) (n:=gr.length) (l:=List.replicate (gr.length) ((0:Int))) (f:=I) O aF J
 refine A1 9<|cr O aH O iJ (sQ (sQ (sQ (sQ sR)))) (dx (vs:=[(0,v),(1,(.slice (some ⟨QK 10,0,none⟩) (gr.length) (gr.length))),(2,(.slice (some ⟨QK 12,0,none⟩) (gr.length) (gr.length))),(3,(.slice (some ⟨QK 14,0,none⟩) (gr.length) (gr.length))),(7,(.slice (some ⟨QK 16,0,none⟩) (gr.length) (gr.length)))]) O (aes (Ge hg).2 (bj (iJ.get (i:=0) O)).1 (bj (iJ.get (i:=1) O)).1 (bj (iJ.get (i:=2) O)).1 (bj (iJ.get (i:=3) O)).1))<|A1 10<|cK O aH O iJ (sQ (sQ (sQ (sQ sR)))) (f:=fun b=> .pointer (some ⟨b,0,none⟩)) (Kj (v:= .agg _) O)<|fun b14 Bv cm=>AQ 11 O (cm.sub (sQ (sQ (sQ (sQ (sQ sR)))))) (aV (Pn _ _) O)<|have fp:=cm.fx 3 1;have cI:=fp.fx 233 2;have dS:Hp w Bv (.blk b14 (.cells #[v,(.slice (some ⟨QK 10,0,none⟩) (gr.length) (gr.length)),(.slice (some ⟨QK 12,0,none⟩) (gr.length) (gr.length)),(.slice (some ⟨QK 14,0,none⟩) (gr.length) (gr.length)),(.slice none 0 0),(.slice none 0 0),I (0),(.slice (some ⟨QK 16,0,none⟩) (gr.length) (gr.length))] 222 (0,0))::jG I (.slice (some ⟨QK 10,0,none⟩) (gr.length) (gr.length)) 3 (List.replicate gr.length (0:Int))::jG I (.slice (some ⟨QK 12,0,none⟩) (gr.length) (gr.length)) 3 (List.replicate gr.length (0:Int))::jG B (.slice (some ⟨QK 14,0,none⟩) (gr.length) (gr.length)) 4 (List.replicate gr.length false)::cE none (.slice none 0 0) 3 ((([]:List Int)).map I)::vh Gt 2 (.slice none 0 0) 233 (([]:List DI))::jG I (.slice (some ⟨QK 16,0,none⟩) (gr.length) (gr.length)) 3 (List.replicate gr.length (0:Int))::[]):=cI.pj [2,2,2,2,1];AD<|ag<|SR<|mI rfl<|aE (v:=I 0) rfl<|aa<|ay<|bk (G:=Int×(Nat->Nat)×Value×Value×(Option (Nat×Array Value))×(List Int)×(List Int)×(List Bool)×Int×(List Int)) (fun⟨k,Wt,Nh,OZ,Ff,Br,lo1,JF,KS,JG⟩ s' w'=>(Fr (5::(rg 20 15 [])) _ s')/\(Hp w w' (.blk b14 (.cells #[v,(.slice (some ⟨QK 10,0,none⟩) (gr.length) (gr.length)),(.slice (some ⟨QK 12,0,none⟩) (gr.length) (gr.length)),(.slice (some ⟨QK 14,0,none⟩) (gr.length) (gr.length)),Nh,OZ,I (KS),(.slice (some ⟨QK 16,0,none⟩) (gr.length) (gr.length))] 222 (0,0))::jG I (.slice (some ⟨QK 10,0,none⟩) (gr.length) (gr.length)) 3 (Br)::jG I (.slice (some ⟨QK 12,0,none⟩) (gr.length) (gr.length)) 3 (lo1)::jG B (.slice (some ⟨QK 14,0,none⟩) (gr.length) (gr.length)) 4 (JF)::cE Ff Nh 3 ((([]:List Int)).map I)::vh Gt 2 OZ 233 (([]:List DI))::jG I (.slice (some ⟨QK 16,0,none⟩) (gr.length) (gr.length)) 3 (JG)::_))/\(s' 20=I k)/\(0<=k)/\(k<=gr.length)/\(q5 (pO gr) Br lo1 JF KS JG [] Wt)/\(cO Ff Nh (([]:List Int).map I))/\(∀q:Nat,q<k.toNat->ov Br q≠0)) (fun⟨k,Wt,Nh,OZ,Ff,Br,lo1,JF,KS,JG⟩=>(gr.length-k).toNat) ((0,fun _=>0,.slice none 0 0,.slice none 0 0,none,List.replicate gr.length 0,List.replicate gr.length 0,List.replicate gr.length false,0,List.replicate gr.length 0)) ⟨Fr.refl _ _,dS,rfl,J,J,q5.start hgl,trivial,fun q hq=>absurd hq J⟩<| ?_
 rintro⟨k,Wt,Nh,OZ,Ff,Br,lo1,JF,KS,JG⟩ asV Ou ⟨xE,dQ,Tg,k0,k1,hS,aah,hdn⟩
 obtain⟨Nt,aub⟩:=xE.w2 4 19
 have q0:=hS.TE
 rw[gd]at q0
 refine SR<|V (aM Tg aub)<|aa<|ag<|aD O (fun KP=> ?_) (fun KP=> ?_)
 .refine ak<|ag<|ay<|SR<|aE Tg<|aI rfl<|aa<|SR<|aE Nt<|V (af O)<|V (fA fD 1 O dB O)<|lV bz dQ 0 O O rfl<|mI rfl<|V (ah (dQ.sl (i:=1) O) bz a8 O O J)<|V (aC bf O O ((dQ.sl (i:=1) O).cell _ _ (eG J)))<|V (bN O O)<|aa<|aD O (fun h22=> ?_) (fun h22=> ?_)
  .refine aq<|aE Nt<|mI rfl<|have h0k:ov Br k.toNat=0:=‹Br.getD k.toNat 0=0›;bY O (I4 _ _ _ _ _ _ _ _ _ _ _ _ _ _ _ _ _ _ _ _ hgn hS J h0k _ (Le.refl _) hg0 aah dQ) (aN call155 O O)<| ?_
   rintro _ w25 ⟨rfl,vs2,vf2,cs2,vK,od2,KT,on2,tm2,of2,hS2,Du,hd2,kG⟩
   refine aa<|aq<|V (ax Tg O J)<|mI rfl<|aa<| ?_
   refine⟨(k+1,vK,vs2,vf2,cs2,od2,KT,on2,tm2,of2),aT,xE.u4.u4.u4.u4,(Hp.conv kG aO),(aJ I aO),J,J,?_,?_,?_⟩
   .exact hS2
   .exact Du
   exact asf k0 (fun q hq=>hd2.2 q (hdn q hq)) hd2.1
  refine ak<|aq<|V (ax Tg O J)<|mI rfl<|aa<| ?_
  refine⟨(k+1,Wt,Nh,OZ,Ff,Br,lo1,JF,KS,JG),aT,xE.u4.u4.u4.u1,(Hp.conv dQ aO),(aJ I aO),J,J,?_,?_,?_⟩
  .exact hS
  .exact aah
  exact asf k0 hdn ‹¬Br.getD k.toNat 0=0›
 refine aY (id:=0) rfl<|SR<|aE Nt<|V (af O)<|V (fA fD 7 O dB O)<|lV bz dQ 0 O O rfl<| ?_
 refine V (run_assign bC) ?_
 refine aa<|ai<|JM O O dQ (i:=6) O ((by have:=hS.lof;rw[gd]at this;exact this)) ((by rw[hS.done fun q hq=>hdn q (by rw[gd]at hq;omega)]))
theorem iA(fd:FuncId)(fc:Array Value)(c:lU)(hlg:lg.length<=600000000000)(w:World)(hH:Hp W0 w (nE n wr vL vt vv vy vu vq sn vW vU vT cn sk wy vd vm cW cU W ul ts au aX aj a6 us qs lg tm L)):Calls Tryz.prog 44 #[pt n,iH fd fc] w (jj fun u w'=>u= .tuple #[]/\∃vd':Value,Hp W0 w' (nE n wr vL vt vv vy vu vq sn vW vU vT cn sk wy (vd') vm cW cU W ul ts au aX aj a6 us qs (lg++[(iH fd fc,c)]) tm L)):=by
 simp only[nE]at hH
 refine en func44 rfl rfl<|aq<|aE (v:=Pn _ _) rfl<|aE (v:=Pn _ _) rfl<|V (af O)<|V (fA cw 14 O jV O)<|lV gR hH 0 O O rfl<|aE (v:= .func _ _ _) rfl<|xP 1 1 hH (cA gR rfl rfl (sz:=1) (vs:=[.func _ _ _]) rfl rfl az az rfl rfl)<|fun b3 w1 aZ=> ?_
 (try simp only[o4]at aZ)
 refine asb (a:=(iH fd fc,c)) O aZ (i:=11) O (aZ.dV (i:=0) (n:=1) (sz:=1) O O az) O O gR O O (bytes:=8) O O O O J az<|fun v4 w5 iT=>V (af O)<|V (fA cw 14 O jV O)<|bt iT (i:=1) O (bQ O O (v:=v4) O (bj (iT.get (i:=11) O)).1 (bj (iT.get (i:=11) O)).2 (iT.blk (i:=1) O) aF)<|fun w7 eU=> ?_
 simp only[iM,kL,m7,ia,Nat.reduceAdd]at eU
 refine aa<|pK O ⟨rfl,v4,(eU.sub (sQ sR))⟩
theorem pC(htm:tm.length<=100000000)(w:World)(hH:Hp W0 w (nE n wr vL vt vv vy vu vq sn vW vU vT cn sk wy vd vm cW cU W ul ts au aX aj a6 us qs lg tm L)):Calls Tryz.prog 41 #[pt n] w (jj fun u w'=>u= .tuple #[]/\∃vm':Value,Hp W0 w' (nE n wr vL vt vv vy vu vq sn vW vU vT cn sk wy vd (vm') cW cU W ul ts au aX aj a6 us qs lg (tm++[(lg.length:Int)]) L)):=by
 simp only[nE]at hH
 refine en func41 rfl rfl<|fT (z:=⟨none,_,_,_,_,none⟩) aP O aP hH (sP (sP (sP (sP (sP (sP (sP (sP (sP (sP (sP (sQ sR))))))))))))<|fun w1 aZ=>have kH:=aZ.sub (sP (sP (sP (sP (sP (sP (sP (sP (sP (sP (sP (sQ sR))))))))))));AQ 0 O kH (mV (Pn _ _) O)<|AQ 1 O kH (mV (Pn _ _) O)<|AQ 2 O kH (af O)<|AQ 3 O kH (fA cw 15 O dB O)<|tV 4 O kH bz 0 O O rfl<|AQ 5 O kH (mV (Pn _ _) O)<|AQ 6 O kH (af O)<|AQ 7 O kH (fA cw 14 O jV O)<|tV 8 O kH gR 0 O O rfl<|AT 9 O kH (fun w hS=>aA (hS.sl (i:=10) O) O gR O)<|A1 10<|cK O aH O aZ (sP (sP (sP (sP (sP (sP (sP (sP (sP (sP (sP (sQ sR)))))))))))) (f:=fun b=> .slice (some ⟨b,0,none⟩) 1 1) (cA bz O O (sz:=1) (vs:=[I _]) O O az az O O)<|fun b5 w3 gy=> ?_
 (try simp only[o4]at gy)
 refine A1 11<|Sy O aH O gy (i:=12) O (fun _=>(sQ (sP (sP (sP (sP (sP (sP (sP (sP (sP (sP (sP (sQ sR)))))))))))))) (gy.dV (i:=0) (n:=1) (sz:=1) O O az) O O bz O O (bytes:=8) O O O O J az<|fun v8 w9 bV=>AQ 12 O (bV.sub (sQ (sP (sP (sP (sP (sP (sP (sP (sP (sP (sP (sP (sQ sR)))))))))))))) (af O)<|AQ 13 O (bV.sub (sQ (sP (sP (sP (sP (sP (sP (sP (sP (sP (sP (sP (sQ sR)))))))))))))) (fA cw 15 O dB O)<|AD<|bt bV (i:=1) O (bQ O O (v:=v8) O (bj (bV.get (i:=12) O)).1 (bj (bV.get (i:=12) O)).2 (bV.blk (i:=1) O) aF)<|fun FK cJ=> ?_
 simp only[iM,kL,m7,ia,Nat.reduceAdd]at cJ
 refine aa<|pK O ⟨rfl,v8,(cJ.sub (sQ sR))⟩
theorem oD(w:World)(hb:w.heap[n]?=some (.cells #[wr,vL,vt,vv,vy,vu,vq,I sn,vW,vU,vT,I cn,B sk,U wy,vd,vm] 111 (0,0))):Calls Tryz.prog 40 #[pt n] w (Pure (B (!sk)) w):=by
 refine eH func40 rfl rfl fun hH=>SR<|va (v:=B false) rfl<|aa<|SR<|aE (v:=Pn _ _) rfl<|V (adL dc O O)<|mB rfl<|bZ O rfl<|aE (v:=Pn _ _) rfl<|V (af O)<|V (fA cw 12 O nS O)<|V (aC xg O O (hH.eE hb (v:=B _) O))<|V (bO O)<|mB rfl<|aB rfl<|aa<|ai<|oB O ?_ hH
 rfl
theorem Et(v x:Int)(w:World)(hb:w.heap[n]?=some (.cells #[wr,vL,vt,vv,vy,vu,vq,I sn,vW,vU,vT,I cn,B sk,U wy,vd,vm] 111 (0,0)))(ht:Sl w vt 1 aX.length (aX.map I)):Calls Tryz.prog 104 #[pt n,I v,I x] w (Pure (B (decide (0<=v/\v<aX.length/\aX.getD v.toNat 0=x))) w):=by
 refine eH func104 rfl rfl fun hH=>SR<|va (v:=B false) rfl<|aa<|SR<|mI rfl<|V (dD O O)<|mB rfl<|bM 9 O (fun h2=> ?_) (fun h2=> ?_)
 .refine mI rfl<|aE (v:=Pn _ _) rfl<|V (af O)<|V (fA cw 2 O dB O)<|V (aC bz O O (hH.eE hb O))<|V (aA (ht.hp hH) O bz O)<|V (aM O O)<|mB rfl<|mB rfl<|bM 18 O (fun h4=> ?_) (fun h4=> ?_)
  .refine aE (v:=Pn _ _) rfl<|V (af O)<|V (fA cw 2 O dB O)<|V (aC bz O O (hH.eE hb O))<|mI rfl<|V (ah (ht.hp hH) bz a8 O O J)<|V (aC bf O O ((ht.hp hH).cell _ _ (eG J)))<|mI rfl<|V (bN O O)<|mB rfl<|aB rfl<|aa<|ai<|oB O ?_ hH
   exact Rc.2 ⟨fun h=>⟨J,J,h⟩,fun h=>h.2.2⟩
  refine aE (v:=B false) rfl<|aB rfl<|aa<|ai<|oB O ?_ hH
  (rw[gO J];done)
 refine aE (v:=B false) rfl<|mB rfl<|bZ O rfl<|aE (v:=B false) rfl<|aB rfl<|aa<|ai<|oB O ?_ hH
 (rw[gO J];done)
theorem nh(q:dw)(w:World)(hq:DJ (Kw w) q):Calls Tryz.prog 131 #[.agg (pQ q).toArray] w (Pure (B (EP q)) w):=by
 refine eH func131 rfl rfl fun hH=>SR<|gV hH (v:= .agg _) rfl<|fun b3 w1 aZ=>va (v:=B false) rfl<|aa<|SR<|V (fA iW 1 O y8 O)<|V (cf (hq.code.sl.hp aZ) gI O O (aZ.cell (i:=0) O O))<|V (aA (hq.code.sl.hp aZ) O gI O)<|V (bN O O)<|mB rfl<|bM 7 O (fun h5=> ?_) (fun h5=> ?_)
 .refine V (fA iW 1 O y8 O)<|V (cf (hq.code.sl.hp aZ) gI O O (aZ.cell (i:=0) O O))<|V (ah (hq.code.sl.hp aZ) gI nR O O J)<|V (fA eD 0 O a8 O)<|V (fQ (dv:=cB) (off:=0) gj (hq.code.sl.hp aZ) bf O O J O)<|V (bN O O)<|mB rfl<|mB rfl<|bM 15 O (fun h7=> ?_) (fun h7=> ?_)
  .refine V (fA iW 2 O pJ O)<|V (fA nO 0 O a8 O)<|lI bf aZ 0 O O rfl<|V (dD O O)<|mB rfl<|aB rfl<|aa<|ai<|oB O ?_ aZ
   (unfold EP;((rw[gQ (show q.code.length=1 by omega),gQ (show(q.code.getD 0 cB).op=1 from aK)];rfl)))
  refine aE (v:=B false) rfl<|aB rfl<|aa<|ai<|oB O ?_ aZ
  (unfold EP;((rw[gQ (show q.code.length=1 by omega),gO (show¬(q.code.getD 0 cB).op=1 from aK)];rfl)))
 refine aE (v:=B false) rfl<|mB rfl<|bZ O rfl<|aE (v:=B false) rfl<|aB rfl<|aa<|ai<|oB O ?_ aZ
 (unfold EP;((rw[gO (show¬q.code.length=1 by omega)];rfl)))
theorem wV(q:dw)(hv:∀v∈q.vars,0<=v/\v<a6.length)(w:World)(hb:w.heap[n]?=some (.cells #[wr,vL,vt,vv,vy,vu,vq,I sn,vW,vU,vT,I cn,B sk,U wy,vd,vm] 111 (0,0)))(hy:Sl w vy 1 a6.length (a6.map U))(yI:DJ (Kw w) q):Calls Tryz.prog 132 #[pt n,.agg (pQ q).toArray] w (Pure (U (orW q.why a6 q.vars)) w):=by
 have hvs:=yI.vars.small
 unfold maxLen at hvs
 refine eH func132 rfl rfl fun hH=>SR<|gV hH (v:= .agg _) rfl<|fun b3 w1 aZ=>va (v:=U 0#64) rfl<|aa<|SR<|V (fA iW 11 O dg O)<|V (aC dZ O O (aZ.cell (i:=0) O (v:=U _) O))<|aU rfl<|aa<|ag<|SR<|V (fA iW 12 O dB O)<|V (cf (yI.vars.sl.hp aZ) bz O O (aZ.cell (i:=0) O O))<|V (aA (yI.vars.sl.hp aZ) O bz O)<|aE (v:=I 0) rfl<|aa<|ay<|bk (G:=Int) (fun k s' w'=>(Fr (5::(7::(rg 13 14 []))) _ s')/\(Hp w w' _)/\(s' 5=U (orW q.why a6 (q.vars.take k.toNat)))/\(s' 13=I k)/\(0<=k)/\(k<=q.vars.length)) (fun k=>(q.vars.length-k).toNat) (0) ⟨Fr.refl _ _,aZ,rfl,rfl,J,J⟩<| ?_
 rintro k sg4 w4 ⟨ux,gy,GH,aki,h0,hk⟩
 obtain⟨aed,azp,azq⟩:=ux.w3 0 11 12
 refine SR<|V (aM aki azq)<|aa<|ag<|aD O (fun h6=> ?_) (fun h6=> ?_)
 .refine ak<|ag<|ay<|SR<|have hvk:=hv _ (dh (d:=0) h0 ‹k<_›);V (ah (yI.vars.sl.hp gy) bz a8 azp aki J)<|V (aC bf O O ((yI.vars.sl.hp gy).cell _ _ (eG J)))<|aI rfl<|aa<|aq<|aE GH<|aE aed<|V (af O)<|V (fA cw 4 O jh O)<|V (aC c8 O O (gy.eE hb O))<|mI rfl<|V (ah (hy.hp gy) c8 dg O O J)<|V (aC dZ O O ((hy.hp gy).cell _ _ (lf (dv:=0#64) J)))<|V (jH O O)<|aU rfl<|aa<|aq<|V (ax aki O J)<|mI rfl<|aa<| ?_
  refine⟨k+1,aT,ux.u4.u4.u4.u4,gy,(aJ U (aif h0 ‹k<_›).symm),(aJ I aO),J,J⟩
 refine aY (id:=0) rfl<|SR<|aE GH<|aU rfl<|aa<|ai<|oU O ?_ gy
 rw[iV J]
theorem I6(WS:0<=sn/\sn<=qs.length)(w:World)(hb:w.heap[n]?=some (.cells #[wr,vL,vt,vv,vy,vu,vq,I sn,vW,vU,vT,I cn,B sk,U wy,vd,vm] 111 (0,0)))(hq:Sl w vq 13 qs.length (qs.flatMap pQ))(I7:Zb (Kw w) qs):Calls Tryz.prog 122 #[pt n] w (Pure (B ((qs.drop sn.toNat).any EP)) w):=by
 have hqD:Zb (Kw w) (qs.drop sn.toNat):=fun q hq=>I7 q (rI hq)
 have hml:=hq.small
 unfold maxLen at hml
 have hdl:(qs.drop sn.toNat).length<=qs.length:=aF
 refine eH func122 rfl rfl fun hH=>SR<|va (v:=B false) rfl<|aa<|ag<|ag<|ed aP hH<|fun w1 aZ=>have kH:=aZ;AQ 0 O kH (mV (Pn _ _) O)<|AQ 1 O kH (af O)<|AQ 2 O kH (fA cw 6 O xh O)<|AT 3 O kH (fun w hS=>aC nN O O (hS.eE hb O))<|AQ 4 O kH (mV (Pn _ _) O)<|AQ 5 O kH (af O)<|AQ 6 O kH (fA cw 7 O a8 O)<|AT 7 O kH (fun w hS=>aC bf O O (hS.eE hb (v:=I _) O))<|AQ 10 O kH (mV (I 0) O)<|A1 8<|cr O aH O aZ sR (gh (hq.hp aZ) nN Lm O O J)<|AT 9 O kH (fun w hS=>aA ((Sl.frE ph hq sn.toNat J).hp hS) O nN O)<|AD<|ay<|bk (G:=Int) (fun k s' w'=>(Fr (2::(4::(rg 15 7 []))) _ s')/\(Hp w w' _)/\(s' 15=I k)/\(0<=k)/\(k<=(qs.drop sn.toNat).length)/\(∀j:Nat,j<k.toNat->EP ((qs.drop sn.toNat).getD j cP)=false)) (fun k=>((qs.drop sn.toNat).length-k).toNat) (0) ⟨Fr.refl _ _,aZ,rfl,J,J,fun j h=>absurd h J⟩<| ?_
 rintro k sg5 w5 ⟨OI,bP,akj,h0,hk,hno⟩
 obtain⟨azr,azs⟩:=OI.w2 13 14
 refine SR<|V (aM akj azs)<|aa<|ag<|aD O (fun h7=> ?_) (fun h7=> ?_)
 .refine ak<|ag<|ay<|SR<|V (ah ((Sl.frE ph hq sn.toNat J).hp bP) nN Lm azr akj J)<|V (eF (dv:=cP) ph ((Sl.frE ph hq sn.toNat J).hp bP) iW O O O J)<|nu bP (aW Tryz.zeroValue128)<|fun b10 w8 iJ=>bt iJ (i:=0) O (dF (c':=(pQ _).toArray) O O O (s3 (hqD.at J J)) (iJ.blk (i:=0) O) O)<|fun Bw cg=>aa<|SR<|V (cM (cs:=pQ _) iW O O O (bp (cg.blk (i:=0) O)))<|aG O cg (nh _ _ ((hqD.at J J).mono cg.kw)) (an call131 O)<|fun SY cI=>aa<|bW O (fun pS=> ?_) (fun pS=> ?_)
  .refine SR<|va (v:=B true) rfl<|aa<|ai<|oB O ?_ cI
   exact(aid (d:=cP) h0 ‹k<_› ‹_=true›).symm
  refine ak<|aq<|V (ax akj O J)<|mI rfl<|aa<| ?_
  refine⟨k+1,aT,OI.u4.u4,(cI.sub (sQ sR)),(aJ I aO),J,J,?_⟩
  exact asf h0 hno jY
 refine aY (id:=0) rfl<|SR<|va (v:=B false) rfl<|aa<|ai<|oB O ?_ bP
 exact(am2 (d:=cP) fun j hj=>hno j J).symm
theorem I8(K:Vu)(Qi:aj.length<=1000)(hqn:qs.length<=1000)(hpl:Vl aj.length qs)(w:World)(hb:w.heap[n]?=some (.cells #[wr,vL,vt,vv,vy,vu,vq,I sn,vW,vU,vT,I cn,B sk,U wy,vd,vm] 111 (0,0)))(hv:Sl w vv 8 aj.length (aj.flatMap s8))(hq:Sl w vq 13 qs.length (qs.flatMap pQ))(I7:Zb (Kw w) qs):Calls Tryz.prog 125 #[pt n] w (Jp K (fun K' u=>∃gr,pO gr=cz aj.length qs/\GrV K' u gr) w):=by
 refine eH func125 rfl rfl fun hH=>SR<|va (v:= .slice none 0 0) rfl<|aa<|SR<|aE (v:=Pn _ _) rfl<|V (af O)<|V (fA cw 3 O mX O)<|V (aC dR O O (hH.eE hb O))<|V (aA (hv.hp hH) O dR O)<|xP aj.length aj.length hH (zN (f:=jM.v) (z0:=cY) o5 O O O O (show _=Value.int .i64 ((aj.length:Nat):Int)from O) (show _=Value.int .i64 ((aj.length:Nat):Int)from O) az J)<|fun b3 w1 aZ=>have gy:=aZ.JR (i:=0) (n:=aj.length) (l:=List.replicate aj.length cY) (f:=jM.v) O aF J;?_
 simp only[iM]at gy
 obtain⟨Rz,hRz⟩:∃R:List a7,R=[]:=⟨_,rfl⟩
 have bP:Hp _ _ (_::((List.replicate aj.length cY).map (dI 3)++Rz)):=Hp.oK (A:=[_]) (R:=Rz) (by rw[hRz];simpa using gy.arF 3 aj.length)
 refine V (run_assign bC) ?_
 refine aa<|ag<|SR<|aE (v:=Pn _ _) rfl<|V (af O)<|V (fA cw 6 O xh O)<|V (aC nN O O (bP.eE hb O))<|V (aA (hq.hp bP) O nN O)<|aE (v:=I 0) rfl<|aa<|ay<|bk (G:=Int×(List jM)×(List a7)) (fun⟨k,gs,Z1⟩ s' w'=>(Fr (5::(rg 17 25 [])) _ s')/\(Hp w w' (jG jM.v (.slice (some ⟨b3,0,none⟩) aj.length aj.length) 99 gs::Z1))/\(s' 17=I k)/\(0<=k)/\(k<=qs.length)/\(Z1=gs.map (dI 3)++Rz)/\(pO gs=cz aj.length (qs.take k.toNat))/\(∀x∈gs,x.l.length<=k.toNat)) (fun⟨k,gs,Z1⟩=>(qs.length-k).toNat) ((0,List.replicate aj.length cY,(((List.replicate aj.length cY).map (dI 3))++Rz))) ⟨Fr.refl _ _,bP,rfl,J,J,rfl,(by simp[pO,cz,cY]),(fun x hx=>by rw[(List.mem_replicate.1 hx).2];simp[cY])⟩<| ?_
 rintro⟨k,gs,Z1⟩ sg6 w6 ⟨Qs,iT,ab8,h0,hk,hz,hgs,hgb⟩
 obtain⟨ZU,azt,azu⟩:=Qs.w3 3 15 16
 subst hz
 have hgn:gs.length=aj.length:=by have:=aJ List.length hgs;rwa[gd,Fk]at this
 refine SR<|V (aM ab8 azu)<|aa<|ag<|aD O (fun h8=> ?_) (fun h8=> ?_)
 .refine ak<|ag<|ay<|SR<|V (ah (hq.hp iT) nN Lm azt ab8 J)<|V (eF (dv:=cP) ph (hq.hp iT) iW O O O J)<|nu iT (aW Tryz.zeroValue128)<|fun VT w9 bV=>bt bV (i:=0) O (dF (c':=(pQ _).toArray) O O O (s3 (I7.at J J)) (bV.blk (i:=0) O) O)<|fun Np fp=>aa<|SR<|V (cM (cs:=pQ _) iW O O O (bp (fp.blk (i:=0) O)))<|aG O fp (nh _ _ ((I7.at J J).mono fp.kw)) (an call131 O)<|fun J5 dS=>aa<|bW O (fun J1=> ?_) (fun J1=> ?_)
  .have WW:=hpl.at h0 ‹k<_› ‹EP _=true›
   have aOO:=hgb _ (dh (d:=cY) (l:=gs) (k:=(xO (qs.getD k.toNat cP))) J J)
   refine fT (z:=⟨none,_,_,_,_,none⟩) aP O aP dS (sP (sP (sA sR)))<|fun w20 fB=>have oo:=fB.sub (sP (sP (sA sR)));AQ 0 O oo (run_move ZU)<|AQ 1 O oo (fA iW 12 O dB O)<|AT 2 O oo (fun w hS=>cf ((I7.at J J).vars.sl.hp hS) bz O O (hS.cell (i:=0) O O))<|AT 3 O oo (fun w hS=>ah ((I7.at J J).vars.sl.hp hS) bz a8 O O J)<|AT 4 O oo (fun w hS=>aC bf O O (((I7.at J J).vars.sl.hp hS).cell _ _ (eG J)))<|AQ 5 O oo (run_move ZU)<|AQ 6 O oo (fA iW 12 O dB O)<|AT 7 O oo (fun w hS=>cf ((I7.at J J).vars.sl.hp hS) bz O O (hS.cell (i:=0) O O))<|AT 8 O oo (fun w hS=>ah ((I7.at J J).vars.sl.hp hS) bz a8 O O J)<|AT 9 O oo (fun w hS=>aC bf O O (((I7.at J J).vars.sl.hp hS).cell _ _ (eG J)))<|AT 10 O oo (fun w hS=>ah (hS.sl (i:=1) O) o5 dB O (show _=I (xO (qs.getD k.toNat cP))from O) J)<|AT 11 O oo (fun w hS=>aC bz O O ((hS.sl (i:=1) O).cell _ _ (lf (dv:=cY) J)))<|AQ 12 O oo (fA iW 2 O pJ O)<|AQ 13 O oo (fA nO 0 O a8 O)<|tI 14 O oo bf 0 O O rfl<|A1 15<|cK O aH O fB (sP (sP (sA sR))) (f:=fun b=> .slice (some ⟨b,0,none⟩) 1 1) (cA bz O O (sz:=1) (vs:=[I _]) O O az az O O)<|fun b24 OO eO=> ?_
   (try simp only[o4]at eO)
   refine A1 16<|ahW (A:=[_,_,_]) (gs:=gs) (q:=(xO (qs.getD k.toNat cP))) (a:=(qs.getD k.toNat cP).to.var) (R:=Rz) O aH O eO (fun _=>(sQ (sP (sP (sA (sA sR)))))) J (eO.dV (i:=0) (n:=1) (sz:=1) O O az) O O bz O O (bytes:=8) O O O J az<|fun v27 w28 gG=> ?_
   simp only[gf,eC]at gG
   refine AT 17 O (gG.sub (sQ (sP (sP (sA sR))))) (fun w hS=>ah (hS.sl (i:=1) O) o5 dB O (show _=I (xO (qs.getD k.toNat cP))from O) J)<|AD<|have auc:=Hp.aw3 (A:=[_,_,_]) (gs:=gs) (q:=(xO (qs.getD k.toNat cP))) (R:=Rz) gG J;qN (f:=jM.v) (a:=⟨v27,(gs.getD ((xO (qs.getD k.toNat cP))).toNat cY).l++[(qs.getD k.toNat cP).to.var]⟩) gG (i:=2) O J O O auc.1 auc.2 rfl<|fun w30 mo=>aa<|aq<|V (ax ab8 O J)<|mI rfl<|aa<| ?_
   refine⟨(k+1,(gs.set ((xO (qs.getD k.toNat cP))).toNat ⟨v27,(gs.getD ((xO (qs.getD k.toNat cP))).toNat cY).l++[(qs.getD k.toNat cP).to.var]⟩),(((gs.set ((xO (qs.getD k.toNat cP))).toNat ⟨v27,(gs.getD ((xO (qs.getD k.toNat cP))).toNat cY).l++[(qs.getD k.toNat cP).to.var]⟩).map (dI 3))++Rz)),aT,Qs.u4.u4.u4.u4.u4.u4.u1.u1,(Hp.conv (mo.sub (sQ (sQ sR))) aO),(aJ I aO),J,J,aO,?_,?_⟩
   ·(rw[MW h0 ‹k<_›,grQ,aS ‹EP _=true›,<-hgs,abo,Fg])
   (rw[show(k+1).toNat=k.toNat+1 by omega];exact aih hgb (by simp only[cZ,gN];have:=hgb _ (dh (d:=cY) (l:=gs) (k:=(xO (qs.getD k.toNat cP))) J J);omega))
  refine ak<|aq<|V (ax ab8 O J)<|mI rfl<|aa<| ?_
  refine⟨(k+1,gs,((gs.map (dI 3))++Rz)),aT,Qs.u4.u4,(Hp.conv (dS.sub (sQ sR)) aO),(aJ I aO),J,J,aO,?_,?_⟩
  ·(rw[MW h0 ‹k<_›,grQ,aR jY,<-hgs])
  exact fun x hx=>by have:=hgb x hx;omega
 refine aY (id:=0) rfl<|SR<|aE ZU<| ?_
 refine V (run_assign bC) ?_
 refine aa<|ai<| ?_
 obtain⟨Z33,aud,aF6⟩:=Hp.aD7 (R:=Rz) K iT
 exact iY O O ⟨Z33,aud.sub (ae6 _ _),gs,(by rw[hgs,iV J]),aF6⟩
theorem FE(hm:m<=100000)(Qi:aj.length<=1000)(hqn:qs.length<=1000)(TG:a6.length=aj.length)(kD:(bq cs).length=aj.length)(hpl:Vl aj.length qs)(w:World)(hb:w.heap[n]?=some (.cells #[wr,vL,vt,vv,vy,vu,vq,I sn,vW,vU,vT,I cn,B sk,U wy,vd,vm] 111 (0,0)))(hv:Sl w vv 8 aj.length (aj.flatMap s8))(hy:Sl w vy 1 a6.length (a6.map U))(hq:Sl w vq 13 qs.length (qs.flatMap pQ))(hW:Sl w vW 1 W.length (W.map U))(I7:Zb (Kw w) qs)(h:wN FX n m cs vW vU cW cU W ul ts cn L):Calls Tryz.prog 127 #[pt n] w (qB 35 1 aj.length ((Cs (bq cs) a6 aj.length qs).map U) w):=by
 have hfr:=h.find kD
 refine eH func127 rfl rfl fun hH=>SR<|va (v:= .slice none 0 0) rfl<|aa<|SR<|aE (v:=Pn _ _) rfl<|V (af O)<|V (fA cw 3 O mX O)<|V (aC dR O O (hH.eE hb O))<|V (aA (hv.hp hH) O dR O)<|xP (aj.length) (aj.length) hH (zN (f:=U) (z0:=0#64) c8 O O O O (show _=Value.int .i64 ((aj.length:Nat):Int)from O) (show _=Value.int .i64 ((aj.length:Nat):Int)from O) az J)<|fun b3 w1 aZ=>have gy:=aZ.JR (i:=0) (n:=aj.length) (l:=List.replicate (aj.length) 0#64) (f:=U) O aF J;?_
 simp only[iM]at gy
 refine V (run_assign bC) ?_
 refine aa<|ag<|SR<|aE (v:=Pn _ _) rfl<|V (af O)<|V (fA cw 3 O mX O)<|V (aC dR O O (gy.eE hb O))<|V (aA (hv.hp gy) O dR O)<|aE (v:=I 0) rfl<|aa<|ay<|bk (G:=Int×(List (BitVec 64))) (fun⟨k,o⟩ s' w'=>(Fr (4::(rg 18 21 [])) _ s')/\(Hp w w' (jG U (.slice (some ⟨b3,0,none⟩) (aj.length) (aj.length)) 35 o::_))/\(s' 18=I k)/\(0<=k)/\(k<=aj.length)/\(o=((List.range k.toNat).foldl (MX (bq cs) a6) (List.replicate aj.length 0)))/\(o.length=aj.length)) (fun⟨k,o⟩=>(aj.length-k).toNat) ((0,List.replicate aj.length 0)) ⟨Fr.refl _ _,gy,rfl,J,J,aO,aF⟩<| ?_
 rintro⟨k,o⟩ sg5 w5 ⟨OI,bP,akk,h0,hk,ho,hol⟩
 obtain⟨Nn,atb,aew,azv⟩:=OI.w4 0 2 3 17
 have hf1:=hfr k
 refine SR<|V (aM akk azv)<|aa<|ag<|aD O (fun h7=> ?_) (fun h7=> ?_)
 .refine ak<|ag<|ay<|SR<|aE akk<|aI rfl<|aa<|fT (z:=⟨none,_,_,_,_,none⟩) aP O aP bP sR<|fun w8 iJ=>have N1:=iJ;AQ 0 O N1 (run_move aew)<|AQ 1 O N1 (run_move Nn)<|AQ 2 O N1 (af O)<|AQ 3 O N1 (fA cw 8 O oL O)<|AQ 4 O N1 (mV (I _) O)<|AQ 8 O N1 (run_move Nn)<|AQ 9 O N1 (af O)<|AQ 10 O N1 (fA cw 4 O jh O)<|AT 11 O N1 (fun w hS=>aC c8 O O (hS.eE hb O))<|AQ 12 O N1 (mV (I _) O)<|AT 13 O N1 (fun w hS=>ah (hy.hp hS) c8 dg O O J)<|AT 14 O N1 (fun w hS=>aC dZ O O ((hy.hp hS).cell _ _ (lf (dv:=0#64) J)))<|A1 5<|bX O aH O iJ sR (FC _ h J (iJ.ext hb) (hW.hp iJ)) (aN EN O O)<|fun GJ dJ=>have jz:=dJ;AT 6 O jz (fun w hS=>ah (hS.sl (i:=0) O) c8 dg O O J)<|AT 7 O jz (fun w hS=>aC dZ O O ((hS.sl (i:=0) O).cell _ _ (lf (dv:=0#64) J)))<|AQ 15 O jz (jH O O)<|AT 16 O jz (fun w hS=>ah (hS.sl (i:=0) O) c8 dg O O J)<|AD<|qN dJ (i:=0) O J O O O O rfl<|fun Bv cm=>aa<|aq<|V (ax akk O J)<|mI rfl<|aa<| ?_
  refine⟨(k+1,_),aT,OI.u4.u4.u4.u4.u4.u1.u1,(Hp.conv cm aO),(aJ I aO),J,J,?_,?_⟩
  ·(rw[adS h0,<-ho];unfold MX;rw[fW h0];rfl)
  (rw[m9];exact hol)
 refine aY (id:=0) rfl<|ag<|SR<|aE Nn<|V (af O)<|V (fA cw 6 O xh O)<|V (aC nN O O (bP.eE hb O))<|V (aA (hq.hp bP) O nN O)<|aE (v:=I 0) rfl<|aa<|ay<|have hoA:o=Vm (bq cs) a6 aj.length:=(by rw[ho,show k.toNat=aj.length by omega];rfl);bk (G:=Int×(List (BitVec 64))) (fun⟨k,o⟩ s' w'=>(Fr (6::(rg 44 49 [])) _ s')/\(Hp w w' (jG U (.slice (some ⟨b3,0,none⟩) (aj.length) (aj.length)) 35 o::_))/\(s' 44=I k)/\(0<=k)/\(k<=qs.length)/\(o=((qs.take k.toNat).foldl (JV (bq cs)) (Vm (bq cs) a6 aj.length)))/\(o.length=aj.length)) (fun⟨k,o⟩=>(qs.length-k).toNat) ((0,o)) ⟨Fr.refl _ _,bP,rfl,J,J,(by rw[hoA];rfl),hol⟩<| ?_
 rintro⟨k,o⟩ VU Np ⟨kq,cg,I9,h0,hk,ho,hol⟩
 obtain⟨aue,auf⟩:=kq.w2 42 43
 obtain⟨akl,jt⟩:=kq.t2 0 Nn 3 aew
 refine SR<|V (aM I9 auf)<|aa<|ag<|aD O (fun wc=> ?_) (fun wc=> ?_)
 .refine ak<|ag<|ay<|SR<|V (ah (hq.hp cg) nN Lm aue I9 J)<|V (eF (dv:=cP) ph (hq.hp cg) iW O O O J)<|nu cg (aW Tryz.zeroValue128)<|fun ZI OM dQ=>bt dQ (i:=0) O (dF (c':=(pQ _).toArray) O O O (s3 (I7.at J J)) (dQ.blk (i:=0) O) O)<|fun OO eO=>aa<|ag<|ed aP eO<|fun w24 og=>AT 0 O og (fun w hS=>cM (cs:=pQ _) iW O O O (bp (hS.blk (i:=0) O)))<|A1 1<|bX O aH O og sR (nh _ _ ((I7.at J J).mono og.kw)) (an call131 O)<|fun V6 dK=>have Ta:=dK;AQ 2 O Ta (mV (B _) O)<|Jj (dj:=50) O (fun rp=> ?_) (fun rp=> ?_)
  .refine BQ 3 O O (bR (c:=true) rp) dK (run_move akl)<|BQ 4 O O (bR (c:=true) rp) dK (af O)<|BQ 5 O O (bR (c:=true) rp) dK (fA cw 8 O oL O)<|BQ 6 O O (bR (c:=true) rp) dK (fA iW 12 O dB O)<|AG 7 O O (bR (c:=true) rp) dK (fun w hS=>cf ((I7.at J J).vars.sl.hp hS) bz O O (hS.cell (i:=0) O O))<|AG 8 O O (bR (c:=true) rp) dK (fun w hS=>ah ((I7.at J J).vars.sl.hp hS) bz a8 O O RC)<|AG 9 O O (bR (c:=true) rp) dK (fun w hS=>aC bf O O (((I7.at J J).vars.sl.hp hS).cell _ _ (eG RC)))<|BQ 11 O O (bR (c:=true) rp) dK (run_move akl)<|BQ 12 O O (bR (c:=true) rp) dK (af O)<|BQ 13 O O (bR (c:=true) rp) dK (fA cw 8 O oL O)<|BQ 14 O O (bR (c:=true) rp) dK (fA iW 2 O pJ O)<|BQ 15 O O (bR (c:=true) rp) dK (fA nO 0 O a8 O)<|AG 16 O O (bR (c:=true) rp) dK (fun w hS=>aC bf O O (hS.cell (i:=0) O (v:=I _) O))<|A1 10<|bX O (Aw O (bR (c:=true) rp)) O dK sR (FC _ h J (dK.ext hb) (hW.hp dK)) (aN EN O (show _=I (xO (qs.getD k.toNat cP))from O))<|fun w30 mo=>A1 17<|bX O (Aw O (bR (c:=true) rp)) O mo sR (FC _ h J (mo.ext hb) (hW.hp mo)) (aN EN O O)<|fun w32 jT=>BQ 18 O O (bR (c:=true) rp) jT (bN O O)<|have N6:=jT;AQ 19 O N6 (fZ (bR (c:=true) rp) (v:=B _) O)<|AQ 20 O N6 (mV (B _) O)<|B5 (dj:=68) O (fun DP=> ?_) (fun DP=> ?_)
   .refine BQ 21 O O (bT DP) jT (fA iW 12 O dB O)<|AG 22 O O (bT DP) jT (fun w hS=>cf ((I7.at J J).vars.sl.hp hS) bz O O (hS.cell (i:=0) O O))<|AG 23 O O (bT DP) jT (fun w hS=>ah ((I7.at J J).vars.sl.hp hS) bz a8 O O RC)<|AG 24 O O (bT DP) jT (fun w hS=>aC bf O O (((I7.at J J).vars.sl.hp hS).cell _ _ (eG RC)))<|BQ 25 O O (bT DP) jT (fA iW 2 O pJ O)<|BQ 26 O O (bT DP) jT (fA nO 0 O a8 O)<|AG 27 O O (bT DP) jT (fun w hS=>aC bf O O (hS.cell (i:=0) O (v:=I _) O))<|BQ 28 O O (bT DP) jT (ke (show _=I (xO (qs.getD k.toNat cP))from O) O)<|AQ 29 O N6 (fZ (bT DP) (v:=B _) O)<|AD<|aD O (fun h37=> ?_) (fun h37=> ?_)
    .have hin:JK (bq cs) (qs.getD k.toNat cP)=true:=by unfold JK;simp_all
     have WW:=hpl.at h0 ‹k<_› ‹EP _=true›
     have hf1:=hfr _ ⟨WW.2.1.1,WW.2.1.2⟩
     have hf2:=hfr (qs.getD k.toNat cP).to.var ⟨by have:=‹fw (bq cs) _=fw (bq cs) _›;by_cases c:0<=(qs.getD k.toNat cP).to.var;exact c;exfalso;rw[Iy (i:=(qs.getD k.toNat cP).to.var) (fun q=>c q.1)]at this;omega,WW.2.2⟩
     refine fT (z:=⟨none,_,_,_,_,none⟩) aP O aP jT sR<|fun w38 m5=>have CK:=m5;AQ 0 O CK (run_move jt)<|AQ 1 O CK (run_move akl)<|AQ 2 O CK (af O)<|AQ 3 O CK (fA cw 8 O oL O)<|AQ 4 O CK (fA iW 2 O pJ O)<|AQ 5 O CK (fA nO 0 O a8 O)<|tI 6 O CK bf 0 O O rfl<|AQ 10 O CK (fA iW 11 O dg O)<|AT 11 O CK (fun w hS=>aC dZ O O (hS.cell (i:=0) O (v:=U _) O))<|A1 7<|bX O aH O m5 sR (FC _ h J (m5.ext hb) (hW.hp m5)) (aN EN O O)<|fun w40 iU=>have an2:=iU;AT 8 O an2 (fun w hS=>ah (hS.sl (i:=1) O) c8 dg O O J)<|AT 9 O an2 (fun w hS=>aC dZ O O ((hS.sl (i:=1) O).cell _ _ (lf (dv:=0#64) J)))<|AQ 12 O an2 (jH O O)<|AT 13 O an2 (fun w hS=>ah (hS.sl (i:=1) O) c8 dg O O J)<|AD<|qN iU (i:=1) O J O O O O rfl<|fun w42 kZ=>aa<|aq<|V (ax I9 O J)<|mI rfl<|aa<| ?_
     refine⟨(k+1,_),aT,kq.u4.u4.u4.u4.u4.u4.u4.u4.u4.u4.u4.u4.u1.u1,(Hp.conv (kZ.sub (sQ sR)) aO),(aJ I aO),J,J,?_,?_⟩
     ·(rw[mR (d:=cP) h0 ‹k<_›,<-ho];unfold JV;rw[aS hin];rfl)
     (rw[m9];exact hol)
    refine ak<|aq<|V (ax I9 O J)<|mI rfl<|aa<|have hno:¬JK (bq cs) (qs.getD k.toNat cP)=true:=XZ;?_
    refine⟨(k+1,o),aT,kq.u4.u4.u4.u4.u4.u4.u4.u4.u4,(Hp.conv (jT.sub (sQ sR)) aO),(aJ I aO),J,J,?_,?_⟩
    ·(rw[mR (d:=cP) h0 ‹k<_›,<-ho];unfold JV;rw[aR hno])
    exact hol
   refine AK 21 O O (bF DP) jT<|AK 22 O O (bF DP) jT<|AK 23 O O (bF DP) jT<|AK 24 O O (bF DP) jT<|AK 25 O O (bF DP) jT<|AK 26 O O (bF DP) jT<|AK 27 O O (bF DP) jT<|AK 28 O O (bF DP) jT<|AQ 29 O N6 (dM (bF DP) (v:=B false) O)<|AD<|cL rfl<|ak<|aq<|V (ax I9 O J)<|mI rfl<|aa<|have hno:¬JK (bq cs) (qs.getD k.toNat cP)=true:=XZ;?_
   refine⟨(k+1,o),aT,kq.u4.u4.u4.u4.u4.u4.u4.u4.u4,(Hp.conv (jT.sub (sQ sR)) aO),(aJ I aO),J,J,?_,?_⟩
   ·(rw[mR (d:=cP) h0 ‹k<_›,<-ho];unfold JV;rw[aR hno])
   exact hol
  refine AK 3 O O (bR (c:=false) rp) dK<|AK 4 O O (bR (c:=false) rp) dK<|AK 5 O O (bR (c:=false) rp) dK<|AK 6 O O (bR (c:=false) rp) dK<|AK 7 O O (bR (c:=false) rp) dK<|AK 8 O O (bR (c:=false) rp) dK<|AK 9 O O (bR (c:=false) rp) dK<|AK 10 O O (bR (c:=false) rp) dK<|AK 11 O O (bR (c:=false) rp) dK<|AK 12 O O (bR (c:=false) rp) dK<|AK 13 O O (bR (c:=false) rp) dK<|AK 14 O O (bR (c:=false) rp) dK<|AK 15 O O (bR (c:=false) rp) dK<|AK 16 O O (bR (c:=false) rp) dK<|AK 17 O O (bR (c:=false) rp) dK<|AK 18 O O (bR (c:=false) rp) dK<|AQ 19 O Ta (dM (bR (c:=false) rp) (v:=B false) O)<|AQ 20 O Ta (mV (B _) O)<|AK 21 O O O dK<|AK 22 O O O dK<|AK 23 O O O dK<|AK 24 O O O dK<|AK 25 O O O dK<|AK 26 O O O dK<|AK 27 O O O dK<|AK 28 O O O dK<|AQ 29 O Ta (dM O (v:=B false) O)<|AD<|cL rfl<|ak<|aq<|V (ax I9 O J)<|mI rfl<|aa<|have hno:¬JK (bq cs) (qs.getD k.toNat cP)=true:=XZ;?_
  refine⟨(k+1,o),aT,kq.u4.u4.u4.u4.u4.u4.u4.u4.u4,(Hp.conv (dK.sub (sQ sR)) aO),(aJ I aO),J,J,?_,?_⟩
  ·(rw[mR (d:=cP) h0 ‹k<_›,<-ho];unfold JV;rw[aR hno])
  exact hol
 refine aY (id:=2) rfl<|SR<|aE jt<| ?_
 refine V (run_assign bC) ?_
 refine aa<|ai<|have eB:((qs.take k.toNat).foldl (JV (bq cs)) (Vm (bq cs) a6 aj.length))=Cs (bq cs) a6 aj.length qs:=(by rw[iV J];rfl);JM O O cg (i:=0) O hol (by rw[ho,eB])
theorem pV{W0:World}{b:Nat}{ql qi:Value}{cq:Option (Nat×Array Value)}{wl:List Int}{wi:List Bool}{L:List a7}(i:Int)(hi:0<=i/\i<wi.length)(Z0:wl.length<=100000000)(w:World)(hq:qO cq ql (wl.map I))(hH:Hp W0 w (wE b ql qi cq wl wi L)):Calls Tryz.prog 85 #[pt b,I i] w (jj fun u w'=>u= .tuple #[]/\∃(TK:Value) (TL:Option (Nat×Array Value)),qO TL TK (((oX (wl,wi) i).1).map I)/\Hp W0 w' (wE b (TK) qi (TL) ((oX (wl,wi) i).1) ((oX (wl,wi) i).2) L)):=by
 simp only[wE]at hH
 refine en func85 rfl rfl<|SR<|aE (v:=Pn _ _) rfl<|V (af O)<|V (fA yS 1 O HD O)<|lV qv hH 0 O O rfl<|mI rfl<|V (ah (hH.sl (i:=2) O) qv nS O O J)<|V (aC xg O O ((hH.sl (i:=2) O).cell _ _ (lf (dv:=false) J)))<|V (bO O)<|aa<|bW O (fun h3=> ?_) (fun h3=> ?_)
 .refine SR<|aE (v:=Pn _ _) rfl<|V (af O)<|V (fA yS 1 O HD O)<|lV qv hH 0 O O rfl<|mI rfl<|V (ah (hH.sl (i:=2) O) qv nS O O J)<|qN (a:=true) hH (i:=2) O J O O O O rfl<|fun w4 bP=>aa<|aq<|aE (v:=Pn _ _) rfl<|aE (v:=Pn _ _) rfl<|V (af O)<|V (fA yS 0 O dB O)<|lV bz bP 0 O O rfl<|mI rfl<|xP 1 1 bP (cA bz O O (sz:=1) (vs:=[I _]) O O az az O O)<|fun b8 w6 eN=> ?_
  (try simp only[o4]at eN)
  refine asn O eN (i:=2) O hq (eN.dV (i:=0) (n:=1) (sz:=1) O O az) O O bz O O (bytes:=8) O O O O J az<|fun v9 c12 GJ aeq dJ=>V (af O)<|V (fA yS 0 O dB O)<|bt dJ (i:=1) O (bQ O O (v:=v9) O (gY (dJ.slQ (i:=2) O aeq)).2 (gY (dJ.slQ (i:=2) O aeq)).1 (dJ.blk (i:=1) O) aF)<|fun Np fp=> ?_
  simp only[iM,kL,m7,ia,Nat.reduceAdd]at fp
  refine aa<|pK O ⟨rfl,v9,c12,?_,?_⟩
  .rw[abp aK];exact aeq
  rw[abp aK];exact(fp.sub (sQ sR))
 refine ak<|pK O ⟨rfl,ql,cq,?_,?_⟩
 .rw[Vo aK];exact hq
 rw[Vo aK];exact(hH)
theorem DW{W0:World}{b:Nat}{ql qi:Value}{cq:Option (Nat×Array Value)}{wl:List Int}{wi:List Bool}{L:List a7}(x:Int)(hx:0<=x/\x<wi.length)(w:World)(hq:qO cq ql ((x::wl).map I))(hH:Hp W0 w (wE b ql qi cq (x::wl) wi L)):Calls Tryz.prog 87 #[pt b] w (jj fun u w'=>u=I x/\∃(TK:Value) (TL:Option (Nat×Array Value)),qO TL TK (wl.map I)/\Hp W0 w' (wE b (TK) qi (TL) wl (wi.set x.toNat false) L)):=by
 simp only[wE]at hH
 refine en func87 rfl rfl<|SR<|va (v:=I 0) rfl<|aa<|SR<|aE (v:=Pn _ _) rfl<|V (af O)<|V (fA yS 0 O dB O)<|lV bz hH 0 O O rfl<|V (ah (hH.slQ (i:=1) O hq) bz a8 O O (by simp;done))<|V (aC bf O O ((hH.slQ (i:=1) O hq).cell _ _ (eG (by simp;done))))<|V (run_assign (show _=I x from O))<|aa<|SR<|aE (v:=Pn _ _) rfl<|aE (v:=Pn _ _) rfl<|V (af O)<|V (fA yS 0 O dB O)<|lV bz hH 0 O O rfl<|V (gh (hH.slQ (i:=1) O hq) bz a8 O (q:=1) O iP)<|V (af O)<|V (fA yS 0 O dB O)<| ?_
 obtain⟨c1,Du,uD⟩:=hH.axc (i:=1) (x0:=I x) (xs:=wl.map I) O hq
 have hs6:=uD.slQ (i:=1) O Du
 refine bt uD (i:=0) O (bQ O O (v:=oH ql 1 1) O (gY hs6).2 (gY hs6).1 (uD.blk (i:=0) O) aF)<|fun w4 bP=> ?_
 simp only[iM,kL,m7,ia,Nat.reduceAdd]at bP
 refine aa<|SR<|aE (v:=Pn _ _) rfl<|V (af O)<|V (fA yS 1 O HD O)<|lV qv bP 0 O O rfl<|mI rfl<|V (ah (bP.sl (i:=2) O) qv nS O O J)<|qN (a:=false) bP (i:=2) O J O O O O rfl<|fun w7 eU=>aa<|SR<|mI rfl<|aI rfl<|aa<|ai<|iY O (v:=I x) O ⟨rfl,(oH ql 1 1),c1,Du,(eU)⟩
theorem FF{bw bh bn bv:Nat}{was:El}{had:BitVec 64}{v:Int}(hv:0<=v/\v<aj.length/\v<a6.length)(w:World)(hbw:a7.blk bw (.cells (jv was) 37 (0,0))∈L)(hbh:a7.blk bh (.cells #[U had] 35 (0,0))∈L)(hbn:a7.blk bn (.cells #[pt n] 31 (0,0))∈L)(hbv:a7.blk bv (.cells #[I v] 3 (0,0))∈L)(hH:Hp W0 w (nE n wr vL vt vv vy vu vq sn vW vU vT cn sk wy vd vm cW cU W ul ts au aX aj a6 us qs lg tm L)):Calls Tryz.prog 193 #[.pointer (some ⟨bw,0,none⟩),.pointer (some ⟨bh,0,none⟩),.pointer (some ⟨bn,0,none⟩),.pointer (some ⟨bv,0,none⟩)] w (jj fun u w'=>u= .tuple #[]/\Hp W0 w' (nE n wr vL vt vv vy vu vq sn vW vU vT cn sk wy vd vm cW cU W ul ts au aX (aj.set v.toNat was) (a6.set v.toNat had) us qs lg tm L)):=by
 simp only[nE]at hH
 refine en func193 rfl rfl<|fT (z:=⟨none,_,_,_,_,none⟩) aP O aP hH (sP (sP (sP (sP (sP (sP (sQ sR)))))))<|fun w1 aZ=>have kH:=aZ.sub (sP (sP (sP (sP (sP (sP (sQ sR)))))));AT 0 O kH (fun w hS=>aC dc O O (hS.oR (mT (mT (mT (mT (mT (mT (mT (mT (mT (mT (mT hbn))))))))))) (v:=Pn _ _) O))<|AQ 1 O kH (af O)<|AQ 2 O kH (fA cw 3 O mX O)<|tV 3 O kH dR 0 O O rfl<|AT 4 O kH (fun w hS=>aC bf O O (hS.oR (mT (mT (mT (mT (mT (mT (mT (mT (mT (mT (mT hbv))))))))))) (v:=I _) O))<|AT 5 O kH (fun w hS=>aC dc O O (hS.oR (mT (mT (mT (mT (mT (mT (mT (mT (mT (mT (mT hbn))))))))))) (v:=Pn _ _) O))<|AQ 6 O kH (af O)<|AQ 7 O kH (fA cw 4 O jh O)<|tV 8 O kH c8 0 O O rfl<|AT 9 O kH (fun w hS=>aC bf O O (hS.oR (mT (mT (mT (mT (mT (mT (mT (mT (mT (mT (mT hbv))))))))))) (v:=I _) O))<|AT 10 O kH (fun w hS=>dW cH O O O (hS.ahB (mT (mT (mT (mT (mT (mT (mT (mT (mT (mT (mT hbw)))))))))))))<|AT 11 O kH (fun w hS=>aC dZ O O (hS.oR (mT (mT (mT (mT (mT (mT (mT (mT (mT (mT (mT hbh))))))))))) (v:=U _) O))<|A1 12<|cr O aH O aZ (sP (sP (sP (sP (sP (sP (sQ sR))))))) (ah (aZ.sl (i:=6) O) dR iq O O J)<|A1 13<|Y7 O aH fK az aZ (i:=6) O (fun _=>(sP (sP (sP (sP (sP (sP (sQ sR)))))))) J O ((rfl:_=Value.agg (jv _)).trans (by rw[iv])) (fun u hu=>wH _ u qy) rfl<|fun w7 eU=>AT 14 O (eU.sub (sP (sP (sP (sP (sP (sP (sQ sR)))))))) (fun w hS=>ah (hS.sl (i:=6) O) c8 dg O O J)<|AD<|qN eU (i:=7) O J O O O O rfl<|fun w9 bV=>aa<|pK O ⟨rfl,(bV)⟩
theorem Ja{b:Nat}{ql qi:Value}{cq:Option (Nat×Array Value)}{wl:List Int}{wi:List Bool}(v:Int)(e:El)(y:BitVec 64)(hv:0<=v/\v<aj.length)(TG:a6.length=aj.length)(Oo:us.length=aj.length)(hlg:lg.length<=600000000000)(Z0:wl.length<=10000000)(hun:(us.getD v.toNat cY).l.length<=1000)(hui:∀i∈(us.getD v.toNat cY).l,0<=i/\i<wi.length)(hum:dI 3 (us.getD v.toNat cY)∈L)(w:World)(hq:qO cq ql (wl.map I))(hH:Hp W0 w (nE n wr vL vt vv vy vu vq sn vW vU vT cn sk wy vd vm cW cU W ul ts au aX aj a6 us qs lg tm ((wE b ql qi cq wl wi L)))):Calls Tryz.prog 162 #[pt n,pt b,I v,.agg (jv e),U y] w (jj fun u w'=>u= .tuple #[]/\∃(f vd':Value) (TK:Value) (TL:Option (Nat×Array Value)) (Lb:List a7),mJ NX n Lb (f,.raise v (aj.getD v.toNat dH) (a6.getD v.toNat 0))/\qO TL TK ((lQ aj us (wl,wi) v e).1.map I)/\Hp W0 w' (nE n wr vL vt vv vy vu vq sn vW vU vT cn sk wy (vd') vm cW cU W ul ts au aX (aj.set v.toNat e) (a6.set v.toNat y) us qs (lg++[(f,.raise v (aj.getD v.toNat dH) (a6.getD v.toNat 0))]) tm ((wE b (TK) qi (TL) ((lQ aj us (wl,wi) v e).1) ((lQ aj us (wl,wi) v e).2) ((Lb++L)))))):=by
 simp only[wE]at hH
 simp only[nE]at hH
 refine en func162 rfl rfl<|SR<|gV hH (v:=Pn _ _) rfl<|fun b3 w1 aZ=>gV aZ (v:=I _) rfl<|fun b6 w4 bP=>gV bP (v:= .agg _) rfl<|fun b9 w7 eU=>aa<|ag<|fT (z:=⟨none,_,_,_,_,none⟩) aP O aP eU sR<|fun GJ dJ=>have jz:=dJ;tP 0 O jz dc 2 O O rfl<|AQ 1 O jz (af O)<|AQ 2 O jz (fA cw 3 O mX O)<|tV 3 O jz dR 3 O O rfl<|tI 4 O jz bf 1 O O rfl<|AT 5 O jz (fun w hS=>ah (hS.sl (i:=9) O) dR iq O O J)<|AT 6 O jz (fun w hS=>lK (hS.sl (i:=9) O) cH O O O J)<|tP 7 O jz dc 2 O O rfl<|AQ 8 O jz (af O)<|AQ 9 O jz (fA cw 4 O jh O)<|tV 10 O jz c8 3 O O rfl<|tI 11 O jz bf 1 O O rfl<|AT 12 O jz (fun w hS=>ah (hS.sl (i:=10) O) c8 dg O O J)<|AT 13 O jz (fun w hS=>aC dZ O O ((hS.sl (i:=10) O).cell _ _ (lf (dv:=0#64) J)))<|gD 14 15 aP ?_ ?_
 .refine cK O aH O dJ sR (f:=fun b=> .pointer (some ⟨b,0,none⟩)) (aW jO)<|fun b14 Bv cm=>A1 15<|cK O aH O cm (sQ sR) (f:=fun b=> .pointer (some ⟨b,0,none⟩)) (aW Tryz.zeroValue35)<|fun b17 SY cI=>A1 16<|dU O aH cI (j:=1) O (sQ (sQ sR)) (ez O O O (cI.blk (i:=1) O))<|fun OO eO=>AD<|bt eO (i:=0) O (bQ O O (v:=U _) O O O (eO.blk (i:=0) O) az)<|fun V6 dK=>aa<|ag<|fT (z:=⟨none,_,_,_,_,none⟩) aP O aP dK (sP (sP (sP (sP (sP (sP (sP (sP (sP (sP (sP (sQ sR))))))))))))<|fun w28 gG=>have DQ:=gG.sub (sP (sP (sP (sP (sP (sP (sP (sP (sP (sP (sP (sQ sR))))))))))));tP 0 O DQ dc 4 O O rfl<|AQ 1 O DQ (af O)<|AQ 2 O DQ (fA cw 3 O mX O)<|tV 3 O DQ dR 5 O O rfl<|tI 4 O DQ bf 3 O O rfl<|tP 5 O DQ dc 4 O O rfl<|AQ 6 O DQ (af O)<|AQ 7 O DQ (fA cw 4 O jh O)<|tV 8 O DQ c8 5 O O rfl<|tI 9 O DQ bf 3 O O rfl<|AT 10 O DQ (fun w hS=>dW cH O O O (hS.blk (i:=2) O))<|AQ 11 O DQ (mV (U _) O)<|A1 12<|cr O aH O gG (sP (sP (sP (sP (sP (sP (sP (sP (sP (sP (sP (sQ sR)))))))))))) (ah (gG.sl (i:=11) O) dR iq O O J)<|A1 13<|Y7 O aH fK az gG (i:=11) O (fun _=>(sP (sP (sP (sP (sP (sP (sP (sP (sP (sP (sP (sQ sR))))))))))))) J O ((rfl:_=Value.agg (jv _)).trans (by rw[iv])) (fun u hu=>wH _ u qy) rfl<|fun w34 tJ=>AT 14 O (tJ.sub (sP (sP (sP (sP (sP (sP (sP (sP (sP (sP (sP (sQ sR))))))))))))) (fun w hS=>ah (hS.sl (i:=11) O) c8 dg O O J)<|AD<|qN tJ (i:=12) O J O O O O rfl<|fun w36 yw=>aa<|SR<|lP dc yw 4 O O rfl<| ?_
  refine V (Vc bC bC bC bC) ?_
  refine bY O (iA _ _ (.raise v (aj.getD v.toNat dH) (a6.getD v.toNat 0)) J _ (yw.pj [5,5,5,5,5,5,5,5,5,5,5,5])) (aN y9 O O) ?_
  rintro _ w40 ⟨rfl,v42,iU⟩
  simp only[nE]at iU
  have kZ:=iU.pk [12,12,12,12,12]
  refine aa<|ag<|SR<|V (dW cH O O O (kZ.blk (i:=1) O))<|V (dW cH O O O (kZ.blk (i:=2) O))<|V (Il GG O O)<|aa<|aD O (fun h45=> ?_) (fun h45=> ?_)
  .refine ai<|pK O ⟨rfl,(iH 193 #[pt b14,pt b17,pt b3,pt b6]),v42,ql,cq,[a7.blk b14 (.cells (jv (aj.getD v.toNat dH)) 37 (0,0)),a7.blk b17 (.cells #[U (a6.getD v.toNat 0)] 35 (0,0)),a7.blk b3 (.cells #[pt n] 31 (0,0)),a7.blk b6 (.cells #[I v] 3 (0,0))],⟨b14,b17,b3,b6,rfl,aF,aF,aF,aF⟩,?_,?_⟩
   .rw[lQ,aS ‹rC _ e›];exact hq
   rw[lQ,aS ‹rC _ e›];exact((kZ.sub (sP (sP (sQ sR)))).pj [4,4,4,4,4,4,4,4,4,4,4,4,4,4,4,1,0,1])
  refine ak<|ag<|ed aP kZ<|fun w46 oC=>have Th:=oC;tP 0 O Th dc 4 O O rfl<|AQ 1 O Th (af O)<|AQ 2 O Th (fA cw 5 O yY O)<|tV 3 O Th o5 5 O O rfl<|tI 4 O Th bf 3 O O rfl<|AT 5 O Th (fun w hS=>ah (hS.sl (i:=13) O) o5 dB O O J)<|AT 6 O Th (fun w hS=>aC bz O O ((hS.sl (i:=13) O).cell _ _ (lf (dv:=cY) J)))<|AT 7 O Th (fun w hS=>aA (hS.P9 (mT (mT (mT (mT (mT (mT (mT (mT (mT (mT (mT (mT (mT (mT (mT (mT (mT (mT (mT (mT hum))))))))))))))))))))) O bz O)<|AQ 8 O Th (mV (I 0) O)<|AD<|ay<|bk (G:=Int×Value×(Option (Nat×Array Value))×(List Int)×(List Bool)) (fun⟨k,xQ,Bx,pU,mz⟩ s' w'=>(Fr (13::(rg 56 8 [])) _ s')/\(Hp W0 w' (_::_::_::_::_::_::_::_::_::_::_::_::_::_::_::_::_:: .blk b (.cells #[xQ,qi] 156 (0,0))::qE Bx xQ 3 (pU.map I)::jG B qi 4 mz::_))/\(s' 56=I k)/\(0<=k)/\(k<=(us.getD v.toNat cY).l.length)/\(qO Bx xQ (pU.map I))/\((pU,mz)=rj (wl,wi) ((us.getD v.toNat cY).l.take k.toNat))) (fun⟨k,xQ,Bx,pU,mz⟩=>((us.getD v.toNat cY).l.length-k).toNat) ((0,ql,cq,wl,wi)) ⟨Fr.refl _ _,oC,rfl,J,J,hq,rfl⟩<| ?_
  rintro⟨k,xQ,Bx,pU,mz⟩ aOS w48 ⟨azw,nj,aai,h0,hk,Ot,hp⟩
  obtain⟨azx,aug,auh⟩:=azw.w3 1 54 55
  have aF7:pU.length<=wl.length+1000:=by have:=aJ (fun p=>p.1.length) hp;have h2:=Gw (l:=(us.getD v.toNat cY).l.take k.toNat) (p:=(wl,wi));simp only at this;rw[eP]at h2;simp only at h2;omega
  have aF8:mz.length=wi.length:=by have:=aJ (fun p=>p.2.length) hp;have h2:=yg (l:=(us.getD v.toNat cY).l.take k.toNat) (p:=(wl,wi));simp only at this h2;omega
  refine SR<|V (aM aai auh)<|aa<|ag<|aD O (fun h50=> ?_) (fun h50=> ?_)
  .refine ak<|ag<|ay<|SR<|V (ah (nj.P9 (mT (mT (mT (mT (mT (mT (mT (mT (mT (mT (mT (mT (mT (mT (mT (mT (mT (mT (mT (mT hum))))))))))))))))))))) bz a8 aug aai J)<|V (aC bf O O ((nj.P9 (mT (mT (mT (mT (mT (mT (mT (mT (mT (mT (mT (mT (mT (mT (mT (mT (mT (mT (mT (mT hum))))))))))))))))))))).cell _ _ (eG J)))<|aI rfl<|aa<|aq<|aE azx<|mI rfl<|bY O (pV _ afj J _ Ot (nj.pj [17,17,17])) (aN call85 O O)<| ?_
   rintro _ w53 ⟨rfl,v55,c56,aF9,gH⟩
   simp only[wE]at gH
   have vD:=gH.pk [3,3,3,3,3,3,3,3,3,3,3,3,3,3,3,3,3]
   refine aa<|aq<|V (ax aai O J)<|mI rfl<|aa<| ?_
   refine⟨(k+1,v55,c56,(oX (pU,mz) ((us.getD v.toNat cY).l.getD k.toNat 0)).1,(oX (pU,mz) ((us.getD v.toNat cY).l.getD k.toNat 0)).2),aT,azw.u4.u4.u1,(Hp.conv vD aO),(aJ I aO),J,J,?_,?_⟩
   .exact aF9
   (rw[Qf h0 ‹k<_›,<-hp])
  refine aY (id:=0) rfl<|pK O ⟨rfl,(iH 193 #[pt b14,pt b17,pt b3,pt b6]),v42,xQ,Bx,[a7.blk b14 (.cells (jv (aj.getD v.toNat dH)) 37 (0,0)),a7.blk b17 (.cells #[U (a6.getD v.toNat 0)] 35 (0,0)),a7.blk b3 (.cells #[pt n] 31 (0,0)),a7.blk b6 (.cells #[I v] 3 (0,0))],⟨b14,b17,b3,b6,rfl,aF,aF,aF,aF⟩,?_,?_⟩
  .rw[lQ,aR ‹¬rC _ e›];rw[iV J]at hp;rw[<-hp];exact Ot
  rw[lQ,aR ‹¬rC _ e›];rw[iV J]at hp;rw[<-hp];exact((nj.sub (sP (sP (sQ sR)))).pj [4,4,4,4,4,4,4,4,4,4,4,4,4,4,4,1,0,1])
 refine cK O aH O dJ sR (f:=fun b=> .pointer (some ⟨b,0,none⟩)) (aW Tryz.zeroValue35)<|fun b61 w59 G4=>A1 14<|cK O aH O G4 (sQ sR) (f:=fun b=> .pointer (some ⟨b,0,none⟩)) (aW jO)<|fun b64 w62 pT=>A1 16<|dU O aH pT (j:=0) O (sQ (sQ sR)) (ez O O O (pT.blk (i:=0) O))<|fun w69 vE=>AD<|bt vE (i:=1) O (bQ O O (v:=U _) O O O (vE.blk (i:=1) O) az)<|fun w73 Ak=>aa<|ag<|fT (z:=⟨none,_,_,_,_,none⟩) aP O aP Ak (sP (sP (sP (sP (sP (sP (sP (sP (sP (sP (sP (sQ sR))))))))))))<|fun w75 rq=>have qp:=rq.sub (sP (sP (sP (sP (sP (sP (sP (sP (sP (sP (sP (sQ sR))))))))))));tP 0 O qp dc 4 O O rfl<|AQ 1 O qp (af O)<|AQ 2 O qp (fA cw 3 O mX O)<|tV 3 O qp dR 5 O O rfl<|tI 4 O qp bf 3 O O rfl<|tP 5 O qp dc 4 O O rfl<|AQ 6 O qp (af O)<|AQ 7 O qp (fA cw 4 O jh O)<|tV 8 O qp c8 5 O O rfl<|tI 9 O qp bf 3 O O rfl<|AT 10 O qp (fun w hS=>dW cH O O O (hS.blk (i:=2) O))<|AQ 11 O qp (mV (U _) O)<|A1 12<|cr O aH O rq (sP (sP (sP (sP (sP (sP (sP (sP (sP (sP (sP (sQ sR)))))))))))) (ah (rq.sl (i:=11) O) dR iq O O J)<|A1 13<|Y7 O aH fK az rq (i:=11) O (fun _=>(sP (sP (sP (sP (sP (sP (sP (sP (sP (sP (sP (sQ sR))))))))))))) J O ((rfl:_=Value.agg (jv _)).trans (by rw[iv])) (fun u hu=>wH _ u qy) rfl<|fun w81 tM=>AT 14 O (tM.sub (sP (sP (sP (sP (sP (sP (sP (sP (sP (sP (sP (sQ sR))))))))))))) (fun w hS=>ah (hS.sl (i:=11) O) c8 dg O O J)<|AD<|qN tM (i:=12) O J O O O O rfl<|fun w83 nr=>aa<|SR<|lP dc nr 4 O O rfl<| ?_
 refine V (Vc bC bC bC bC) ?_
 refine bY O (iA _ _ (.raise v (aj.getD v.toNat dH) (a6.getD v.toNat 0)) J _ (nr.pj [5,5,5,5,5,5,5,5,5,5,5,5])) (aN y9 O O) ?_
 rintro _ w87 ⟨rfl,v89,Fx⟩
 simp only[nE]at Fx
 have tN:=Fx.pk [12,12,12,12,12]
 refine aa<|ag<|SR<|V (dW cH O O O (tN.blk (i:=0) O))<|V (dW cH O O O (tN.blk (i:=2) O))<|V (Il GG O O)<|aa<|aD O (fun h92=> ?_) (fun h92=> ?_)
 .refine ai<|pK O ⟨rfl,(iH 193 #[pt b64,pt b61,pt b3,pt b6]),v89,ql,cq,[a7.blk b64 (.cells (jv (aj.getD v.toNat dH)) 37 (0,0)),a7.blk b61 (.cells #[U (a6.getD v.toNat 0)] 35 (0,0)),a7.blk b3 (.cells #[pt n] 31 (0,0)),a7.blk b6 (.cells #[I v] 3 (0,0))],⟨b64,b61,b3,b6,rfl,aF,aF,aF,aF⟩,?_,?_⟩
  .rw[lQ,aS ‹rC _ e›];exact hq
  rw[lQ,aS ‹rC _ e›];exact((tN.sub (sP (sP (sQ sR)))).pj [4,4,4,4,4,4,4,4,4,4,4,4,4,4,4,0,0,1])
 refine ak<|ag<|ed aP tN<|fun w93 wm=>have Ti:=wm;tP 0 O Ti dc 4 O O rfl<|AQ 1 O Ti (af O)<|AQ 2 O Ti (fA cw 5 O yY O)<|tV 3 O Ti o5 5 O O rfl<|tI 4 O Ti bf 3 O O rfl<|AT 5 O Ti (fun w hS=>ah (hS.sl (i:=13) O) o5 dB O O J)<|AT 6 O Ti (fun w hS=>aC bz O O ((hS.sl (i:=13) O).cell _ _ (lf (dv:=cY) J)))<|AT 7 O Ti (fun w hS=>aA (hS.P9 (mT (mT (mT (mT (mT (mT (mT (mT (mT (mT (mT (mT (mT (mT (mT (mT (mT (mT (mT (mT hum))))))))))))))))))))) O bz O)<|AQ 8 O Ti (mV (I 0) O)<|AD<|ay<|bk (G:=Int×Value×(Option (Nat×Array Value))×(List Int)×(List Bool)) (fun⟨k,xQ,Bx,pU,mz⟩ s' w'=>(Fr (13::(rg 56 8 [])) _ s')/\(Hp W0 w' (_::_::_::_::_::_::_::_::_::_::_::_::_::_::_::_::_:: .blk b (.cells #[xQ,qi] 156 (0,0))::qE Bx xQ 3 (pU.map I)::jG B qi 4 mz::_))/\(s' 56=I k)/\(0<=k)/\(k<=(us.getD v.toNat cY).l.length)/\(qO Bx xQ (pU.map I))/\((pU,mz)=rj (wl,wi) ((us.getD v.toNat cY).l.take k.toNat))) (fun⟨k,xQ,Bx,pU,mz⟩=>((us.getD v.toNat cY).l.length-k).toNat) ((0,ql,cq,wl,wi)) ⟨Fr.refl _ _,wm,rfl,J,J,hq,rfl⟩<| ?_
 rintro⟨k,xQ,Bx,pU,mz⟩ aOV w95 ⟨azy,Tj,aaj,h0,hk,Ot,hp⟩
 obtain⟨azz,aui,auj⟩:=azy.w3 1 54 55
 have aF7:pU.length<=wl.length+1000:=by have:=aJ (fun p=>p.1.length) hp;have h2:=Gw (l:=(us.getD v.toNat cY).l.take k.toNat) (p:=(wl,wi));simp only at this;rw[eP]at h2;simp only at h2;omega
 have aF8:mz.length=wi.length:=by have:=aJ (fun p=>p.2.length) hp;have h2:=yg (l:=(us.getD v.toNat cY).l.take k.toNat) (p:=(wl,wi));simp only at this h2;omega
 refine SR<|V (aM aaj auj)<|aa<|ag<|aD O (fun h97=> ?_) (fun h97=> ?_)
 .refine ak<|ag<|ay<|SR<|V (ah (Tj.P9 (mT (mT (mT (mT (mT (mT (mT (mT (mT (mT (mT (mT (mT (mT (mT (mT (mT (mT (mT (mT hum))))))))))))))))))))) bz a8 aui aaj J)<|V (aC bf O O ((Tj.P9 (mT (mT (mT (mT (mT (mT (mT (mT (mT (mT (mT (mT (mT (mT (mT (mT (mT (mT (mT (mT hum))))))))))))))))))))).cell _ _ (eG J)))<|aI rfl<|aa<|aq<|aE azz<|mI rfl<|bY O (pV _ afj J _ Ot (Tj.pj [17,17,17])) (aN call85 O O)<| ?_
  rintro _ at1 ⟨rfl,aGa,aGb,azA,Eu⟩
  simp only[wE]at Eu
  have QL:=Eu.pk [3,3,3,3,3,3,3,3,3,3,3,3,3,3,3,3,3]
  refine aa<|aq<|V (ax aaj O J)<|mI rfl<|aa<| ?_
  refine⟨(k+1,aGa,aGb,(oX (pU,mz) ((us.getD v.toNat cY).l.getD k.toNat 0)).1,(oX (pU,mz) ((us.getD v.toNat cY).l.getD k.toNat 0)).2),aT,azy.u4.u4.u1,(Hp.conv QL aO),(aJ I aO),J,J,?_,?_⟩
  .exact azA
  (rw[Qf h0 ‹k<_›,<-hp])
 refine aY (id:=0) rfl<|pK O ⟨rfl,(iH 193 #[pt b64,pt b61,pt b3,pt b6]),v89,xQ,Bx,[a7.blk b64 (.cells (jv (aj.getD v.toNat dH)) 37 (0,0)),a7.blk b61 (.cells #[U (a6.getD v.toNat 0)] 35 (0,0)),a7.blk b3 (.cells #[pt n] 31 (0,0)),a7.blk b6 (.cells #[I v] 3 (0,0))],⟨b64,b61,b3,b6,rfl,aF,aF,aF,aF⟩,?_,?_⟩
 .rw[lQ,aR ‹¬rC _ e›];rw[iV J]at hp;rw[<-hp];exact Ot
 rw[lQ,aR ‹¬rC _ e›];rw[iV J]at hp;rw[<-hp];exact((Tj.sub (sP (sP (sQ sR)))).pj [4,4,4,4,4,4,4,4,4,4,4,4,4,4,4,0,0,1])
theorem AZ{b:Nat}{ql qi:Value}{cq:Option (Nat×Array Value)}{wl:List Int}{wi:List Bool}(v:Int)(e:El)(y:BitVec 64)(hm:m<=100000)(TG:a6.length=aj.length)(Oo:us.length=aj.length)(kD:(bq cs).length=aj.length)(Qi:aj.length<=1000)(hlg:lg.length<=550000000000)(Z0:wl.length<=1000000)(xA:∀k:Nat,k<us.length->dI 3 (us.getD k cY)∈L/\(us.getD k cY).l.length<=1000/\∀i∈(us.getD k cY).l,0<=i/\i<wi.length)(w:World)(h:wN FX n m cs vW vU cW cU W ul ts cn L)(hq:qO cq ql (wl.map I))(hH:Hp W0 w (nE n wr vL vt vv vy vu vq sn vW vU vT cn sk wy vd vm cW cU W ul ts au aX aj a6 us qs lg tm ((wE b ql qi cq wl wi L)))):Calls Tryz.prog 130 #[pt n,pt b,I v,.agg (jv e),U y] w (jj fun u w'=>u= .tuple #[]/\∃(vd':Value) (TK:Value) (TL:Option (Nat×Array Value)) (new:List (Value×lU)) (Lb:List a7),(∀x∈new,mJ NX n Lb x/\II x.2)/\new.length<=(bJ (bq cs) v).length/\iD new (NP.mk au aX aj a6 ((pO us)) qs sn cs sk wy wr) (NP.mk au aX ((xz aj us (wl,wi) (bJ (bq cs) v) e).1) (gx a6 (bJ (bq cs) v) y) ((pO us)) qs sn cs sk wy wr)/\qO TL TK ((xz aj us (wl,wi) (bJ (bq cs) v) e).2.1.map I)/\Hp W0 w' (nE n wr vL vt vv vy vu vq sn vW vU vT cn sk wy (vd') vm cW cU W ul ts au aX ((xz aj us (wl,wi) (bJ (bq cs) v) e).1) (gx a6 (bJ (bq cs) v) y) us qs (lg++new) tm ((wE b (TK) qi (TL) ((xz aj us (wl,wi) (bJ (bq cs) v) e).2.1) ((xz aj us (wl,wi) (bJ (bq cs) v) e).2.2) ((Lb++L)))))):=by
 simp only[wE]at hH
 simp only[nE]at hH
 refine en func130 rfl rfl<|SR<|gV hH (v:= .agg _) rfl<|fun b3 w1 aZ=>aa<|SR<|aE (v:=Pn _ _) rfl<|V (af O)<|V (fA cw 8 O oL O)<|mI rfl<|B3 O aZ (ab6 _ h J (aZ.blk (i:=1) O) (aZ.ye (i:=2) O h.hW)) (aN call129 O O)<|fun v6 w4 bP=>V (aA (bP.sl (i:=0) O) O bz O)<|aE (v:=I 0) rfl<|aa<|ay<|have aOX:=vx (cl:=bq cs) (i:=v);bk (G:=Int×Value×Value×(Option (Nat×Array Value))×(List El)×(List (BitVec 64))×(List Int)×(List Bool)×(List (Value×lU))×(List a7)×(List a7)) (fun⟨k,Wu,xQ,Bx,cX,eA,pU,mz,new,Lb,Z1⟩ s' w'=>(Fr (11::(rg 18 11 [])) _ s')/\(Hp W0 w' (.row v6 3 1 (bJ (bq cs) v).length ((bJ (bq cs) v).map I):: .blk b3 (.cells (Value.agg (jv e)).cells 37 (0,0)):: .blk n (.cells #[wr,vL,vt,vv,vy,vu,vq,I sn,vW,vU,vT,I cn,B sk,U wy,Wu,vm] 111 (0,0))::cE cW vW 35 (W.map U)::cE cU vU 1 (ul.map Prod.fst)::jG I vT 3 ts::vh WT 13 vL 119 au::jG I vt 3 aX::vh s8 8 vv 37 cX::jG U vy 35 eA::jG jM.v vu 99 us::vh pQ 13 vq 128 qs::jG Prod.fst Wu 1 (lg++new)::jG I vm 3 tm:: .blk b (.cells #[xQ,qi] 156 (0,0))::qE Bx xQ 3 (pU.map I)::jG B qi 4 mz::Z1))/\(s' 18=I k)/\(0<=k)/\(k<=(bJ (bq cs) v).length)/\(qO Bx xQ (pU.map I))/\((cX,(pU,mz))=(xz aj us (wl,wi) ((bJ (bq cs) v).take k.toNat) e))/\(eA=gx a6 ((bJ (bq cs) v).take k.toNat) y)/\(Z1=Lb++L)/\(∀x∈new,mJ NX n Lb x/\II x.2)/\(new.length<=k.toNat)/\(iD new (NP.mk au aX aj a6 ((pO us)) qs sn cs sk wy wr) (NP.mk au aX cX eA ((pO us)) qs sn cs sk wy wr))) (fun⟨k,Wu,xQ,Bx,cX,eA,pU,mz,new,Lb,Z1⟩=>((bJ (bq cs) v).length-k).toNat) ((0,vd,ql,cq,aj,a6,wl,wi,[],[],L)) ⟨Fr.refl _ _,(by rw[lY];exact bP),rfl,J,J,hq,rfl,rfl,rfl,(fun x hx=>by cases hx),mW _,iD.nil _⟩<| ?_
 rintro⟨k,Wu,xQ,Bx,cX,eA,pU,mz,new,Lb,Z1⟩ sg7 w7 ⟨FL,eN,akm,h0,hk,Ot,hp,hy2,hz,WY,hnl,hbk⟩
 obtain⟨FD,ael,IV,atK,azB,azC⟩:=FL.w6 0 1 4 8 16 17
 subst hz
 have e1:cX=gx aj ((bJ (bq cs) v).take k.toNat) e:=by have:=aJ Prod.fst hp;rw[yh]at this;exact this
 have lv1:cX.length=aj.length:=by rw[e1,iR]
 have lw1:eA.length=aj.length:=by rw[hy2,iR];exact TG
 have li1:mz.length=wi.length:=by have:=aJ (fun p=>p.2.2.length) hp;rw[KL]at this;exact this
 have ll1:pU.length<=wl.length+1000*k.toNat:=by have:=aJ (fun p=>p.2.1.length) hp;have h2:=aik (e:=e) (p:=(wl,wi)) (aj:=aj) (fun k hk=>(xA k hk).2.1) (ks:=(bJ (bq cs) v).take k.toNat) (fun q hq=>by have:=mi (rH hq);omega);rw[eP]at h2;simp only at this h2;omega
 refine SR<|V (aM akm azC)<|aa<|ag<|aD O (fun h9=> ?_) (fun h9=> ?_)
 .refine ak<|ag<|ay<|SR<|have hkm:=mi (dh (d:=0) h0 ‹k<_›);V (ah (eN.sl (i:=0) O) bz a8 azB akm J)<|V (aC bf O O ((eN.sl (i:=0) O).cell _ _ (eG J)))<|aI rfl<|aa<|aq<|aE FD<|aE ael<|mI rfl<|V (dW cH O O atK (eN.blk (i:=1) O))<|aE IV<|bY O (Ja _ _ _ J J J EQ J (xA _ J).2.1 (fun i hi=>by have:=(xA _ J).2.2 i hi;omega) (by(repeat apply fC);exact bG _ (xA _ J).1) _ Ot (eN.pj [2,2,2,2,2,2,2,2,2,2,2,2,2,2,2])) (rP call162 O O O O O)<| ?_
  rintro _ VV ⟨rfl,f12,aGc,q14,c15,azD,aGd,aGe,KP⟩
  simp only[nE,wE]at KP
  have fB:=Hp.mh (A:=[_,_,_,_,_,_,_,_,_,_,_,_,_,_,_]) (R:=[_,_]) KP
  simp only[gf,eC]at fB
  have dm:=fB.pk [15,15]
  refine aa<|aq<|V (ax akm O J)<|mI rfl<|aa<| ?_
  refine⟨(k+1,aGc,q14,c15,cX.set ((bJ (bq cs) v).getD k.toNat 0).toNat e,eA.set ((bJ (bq cs) v).getD k.toNat 0).toNat y,(lQ cX us (pU,mz) ((bJ (bq cs) v).getD k.toNat 0) e).1,(lQ cX us (pU,mz) ((bJ (bq cs) v).getD k.toNat 0) e).2,new++[(f12,.raise ((bJ (bq cs) v).getD k.toNat 0) (cX.getD ((bJ (bq cs) v).getD k.toNat 0).toNat dH) (eA.getD ((bJ (bq cs) v).getD k.toNat 0).toNat 0))],azD++Lb,(azD++(Lb++L))),aT,FL.u4.u4.u4,(Hp.conv dm (by simp only[dG];rfl)),(aJ I aO),J,J,?_,?_,?_,?_,?_,?_,?_⟩
  .exact aGe
  ·(rw[aij h0 ‹k<_›,<-hp];rfl)
  ·(rw[Co h0 ‹k<_›,<-hy2])
  ·(rw[dG])
  ·(intro x hx;rcases eI.1 hx with q|q;exact⟨(WY x q).1.mono (fun e he=>bG _ he),(WY x q).2⟩;rw[dY.1 q];exact⟨aGd.mono fun e he=>dy _ he,trivial⟩)
  ·(rw[cZ,gN];omega)
  exact hbk.trans (Zd (s:=(NP.mk au aX cX eA ((pO us)) qs sn cs sk wy wr)) (by show _/\_<(cX.length:Int);omega) (by show _<(eA.length:Int);omega))
 refine aY (id:=0) O ?_
 rw[iV J]at hp hy2
 have e2:=aJ Prod.fst hp
 have e3:=aJ Prod.snd hp
 have e4:=aJ Prod.fst e3
 have e5:=aJ Prod.snd e3
 simp only at e2 e4 e5
 have eO:=(eN.sub (sQ (sQ sR)))
 rw[e2,hy2,e4,e5]at eO
 rw[e4]at Ot
 rw[e2,hy2]at hbk
 exact pK O ⟨rfl,Wu,xQ,Bx,new,Lb,WY,J,hbk,Ot,eO⟩
theorem FG{bn bm:Nat}{i:Int}{R:List a7}(hm:m<=100000)(w:World)(hbn:a7.blk bn (.cells #[pt n] 31 (0,0))∈(R++L))(hbm:a7.blk bm (.cells #[I i] 3 (0,0))∈(R++L))(h:wN FX n m cs vW vU cW cU W ul ts cn L)(hH:Hp W0 w (nE n wr vL vt vv vy vu vq sn vW vU vT cn sk wy vd vm cW cU W ul ts au aX aj a6 us qs lg tm ((R++L)))):Calls Tryz.prog 157 #[.pointer (some ⟨bn,0,none⟩),.pointer (some ⟨bm,0,none⟩)] w (jj fun u w'=>u= .tuple #[]/\∃(N2 N3 WX:Value) (QH QI:Option (Nat×Array Value)) (W':List (BitVec 64)) (yA:List (Value×jD)) (ts':List Int) (QJ:Int) (Lb:List a7),wN FX n (m) ((Cl cs i).1) N2 N3 QH QI W' yA ts' QJ (Lb++L)/\Hp W0 w' (nE n wr vL vt vv vy vu vq sn (N2) (N3) (WX) (QJ) sk wy vd vm (QH) (QI) (W') (yA) (ts') au aX aj a6 us qs lg tm ((R++(Lb++L))))):=by
 simp only[nE]at hH
 refine en func157 rfl rfl<|fT (z:=⟨some _,_,_,_,_,none⟩) aP O aP hH sR<|fun w1 aZ=>have kH:=aZ;AT 0 O kH (fun w hS=>aC dc O O (hS.oR (mT (mT (mT (mT (mT (mT (mT (mT (mT (mT (mT (mT hbn)))))))))))) (v:=Pn _ _) O))<|AQ 1 O kH (af O)<|AQ 2 O kH (fA cw 8 O oL O)<|AT 3 O kH (fun w hS=>aC bf O O (hS.oR (mT (mT (mT (mT (mT (mT (mT (mT (mT (mT (mT (mT hbm)))))))))))) (v:=I _) O))<|AD<|bY O (at8 _ h J (R:=([_,_,_,_,_,_,_,_]++R)) aZ) (aN call49 O O)<| ?_
 rintro _ J5 ⟨rfl,vW5,vU6,vT7,cW8,cU9,W10,aGf,aGg,aGh,aGi,azE,dS⟩
 have gW:=Hp.mh (A:=[_,_,_,_]) (R:=([_,_,_,_,_,_,_,_]++R)) dS
 simp only[gf,eC]at gW
 refine aa<|pK O ⟨rfl,vW5,vU6,vT7,cW8,cU9,W10,aGf,aGg,aGh,aGi,azE,(gW)⟩
theorem Jb{R:List a7}(v k:Int)(hm:m<=100000)(hlg:lg.length<=550000000000)(w:World)(h:wN FX n m cs vW vU cW cU W ul ts cn L)(hH:Hp W0 w (nE n wr vL vt vv vy vu vq sn vW vU vT cn sk wy vd vm cW cU W ul ts au aX aj a6 us qs lg tm ((R++L)))):Calls Tryz.prog 126 #[pt n,I v,I k] w (jj fun u w'=>u= .tuple #[]/\∃(N2 N3 WX:Value) (QH QI:Option (Nat×Array Value)) (W':List (BitVec 64)) (yA:List (Value×jD)) (ts':List Int) (QJ:Int) (vd':Value) (new:List (Value×lU)) (Lb:List a7),wN FX n (m+(if(jc cs v k).2 then 1 else 0)) ((jc cs v k).1) N2 N3 QH QI W' yA ts' QJ (Lb++L)/\(∀x∈new,mJ NX n Lb x/\II x.2)/\new.length<=1/\iD new (NP.mk au aX aj a6 ((pO us)) qs sn cs sk wy wr) (NP.mk au aX aj a6 ((pO us)) qs sn ((jc cs v k).1) sk wy wr)/\Hp W0 w' (nE n wr vL vt vv vy vu vq sn (N2) (N3) (WX) (QJ) sk wy (vd') vm (QH) (QI) (W') (yA) (ts') au aX aj a6 us qs (lg++new) tm ((R++(Lb++L))))):=by
 simp only[nE]at hH
 refine en func126 rfl rfl<|SR<|gV hH (v:=Pn _ _) rfl<|fun b3 w1 aZ=>aa<|SR<|lP dc aZ 0 O O rfl<|V (af O)<|V (fA cw 8 O oL O)<|aG O aZ (akd h J (aZ.blk (i:=1) O) (aZ.ye (i:=2) O h.hW) (aZ.sl (i:=4) O)) (an call46 O)<|fun w4 bP=>nu bP (aW Tryz.zeroValue3)<|fun b8 w6 eN=>bt eN (i:=0) O (bQ O O (v:=I _) O O O (eN.blk (i:=0) O) az)<|fun FK cJ=>aa<|SR<|lP dc cJ 1 O O rfl<|V (af O)<|V (fA cw 8 O oL O)<|mI rfl<|mI rfl<|bY O (an0 _ _ h J (R:=([_,_,_,_,_,_,_,_,_,_]++R)) (cJ.pj [2,2,2,2])) (bB call156 O O O)<| ?_
 rintro _ V6 ⟨rfl,azF,azG,azH,azI,azJ,W20,azK,azL,azM,azN,ab9,dK⟩
 have gG:=Hp.mh (A:=[_,_,_,_]) (R:=([_,_,_,_,_,_,_,_,_,_]++R)) dK
 simp only[gf,eC]at gG
 have jf:=gG.pk [4,4]
 refine aa<|bW O (fun IY=> ?_) (fun IY=> ?_)
 .refine aq<|lP dc jf 1 O O rfl<| ?_
  refine V (nV bC bC) ?_
  refine bY O (iA _ _ (.merge ((cs.length:Int)-1)) J _ (jf.pj [2,2,2,2,2,2,2,2,2,2,2,2])) (aN y9 O O) ?_
  rintro _ w35 ⟨rfl,v37,oe⟩
  simp only[nE]at oe
  have we:=oe.pk [12,12]
  refine aa<|pK O ⟨rfl,azF,azG,azH,azI,azJ,W20,azK,azL,azM,v37,[((iH 157 #[pt b3,pt b8]),.merge ((cs.length:Int)-1))],[a7.blk b3 (.cells #[pt n] 31 (0,0)),a7.blk b8 (.cells #[I ((cs.length:Int)-1)] 3 (0,0))]++azN,ab9.mono (fun e he=>by rw[dG];exact bG _ he),(fun x hx=>by rw[dY.1 hx];exact⟨⟨_,_,rfl,aF,aF⟩,trivial⟩),er _,Ze (s:=(NP.mk au aX aj a6 ((pO us)) qs sn cs sk wy wr)) h.ne ‹_=true›,(Hp.mh (A:=[_,_,_,_,_,_,_,_,_,_,_,_]) (B:=[_,_]) (R:=R) ((we).pj [2,2,2,2,2,2,2,2,2,2,2,2,1]))⟩
 refine ak<|pK O ⟨rfl,azF,azG,azH,azI,azJ,W20,azK,azL,azM,vd,[],azN,ab9,(fun x hx=>by cases hx),mW _,(by rw[adT aK];exact iD.nil _),by rw[lY];exact(jf.sub (sQ (sQ sR)))⟩
theorem Kf{b:Nat}{ql qi:Value}{cq:Option (Nat×Array Value)}{wl:List Int}{wi:List Bool}{ids:List Nat}{tl:List (Nat×Rl)}{f:Ct}{nk:Nat}{Zf R:List a7}(q:dw)(hm:m<=100000)(TG:a6.length=aj.length)(Oo:us.length=aj.length)(kD:(bq cs).length=aj.length)(Qi:aj.length<=1000)(hlg:lg.length<=500000000000)(Z0:wl.length<=1000000)(xA:∀k:Nat,k<us.length->dI 3 (us.getD k cY)∈R/\(us.getD k cY).l.length<=1000/\∀i∈(us.getD k cY).l,0<=i/\i<wi.length)(hf:Fe nk f)(hnk:nk<=100000000000)(hql:0<=q.aX/\q.aX<au.length)(an3:q.code.length<=1000)(hqt:q.to.var<aj.length)(hqp:EP q=true->0<q.vars.length/\0<=xO q/\xO q<aj.length)(hvs:∀v∈q.vars,0<=v/\v<aj.length)(w:World)(hT:oG W0)(hlv:Vs TX (Kz (Kw W0) R) ids tl au)(hZ:kp (Ba fr) ids f tl Zf)(yI:DJ (Kz (Kw W0) R) q)(h:wN FX n m cs vW vU cW cU W ul ts cn R)(hq:qO cq ql (wl.map I))(hH:Hp W0 w (nE n wr vL vt vv vy vu vq sn vW vU vT cn sk wy vd vm cW cU W ul ts au aX aj a6 us qs lg tm ((wE b ql qi cq wl wi ((Zf++R)))))):Calls Tryz.prog 86 #[pt n,pt b,.agg (pQ q).toArray] w (jj fun u w'=>∃(r:LkO) (vd':Value) (TK:Value) (TL:Option (Nat×Array Value)) (new:List (Value×lU)) (Lb Z':List a7),ng (bq cs) us (au.getD q.aX.toNat o3).p.sh q aj a6 wl wi wy=r/\u=B r.ok/\(∀x∈new,mJ NX n Lb x/\II x.2)/\new.length<=(bJ (bq cs) q.to.var).length/\iD new (NP.mk au aX aj a6 ((pO us)) qs sn cs sk (r.wy) wr) (NP.mk au aX (r.aj) (r.a6) ((pO us)) qs sn cs sk (r.wy) wr)/\kp (Ba fr) ids (Vt (au.getD q.aX.toNat o3).d r.ks f) tl Z'/\qO TL TK (r.wl.map I)/\Hp W0 w' (nE n wr vL vt vv vy vu vq sn vW vU vT cn sk (r.wy) (vd') vm cW cU W ul ts au aX (r.aj) (r.a6) us qs (lg++new) tm ((wE b (TK) qi (TL) (r.wl) (r.wi) ((Z'++(Lb++R))))))):=by
 have hlc:=hlv.at hql.1 hql.2
 obtain⟨f1,f2,f3,a1,a2,a3,i1,i2,i3⟩:=hlc.ops.one
 have hone:∀u∈[(au.getD q.aX.toNat o3).e,(au.getD q.aX.toNat o3).l,(au.getD q.aX.toNat o3).j].toArray,u.oneCell'=true:=by rw[i1,i2,i3];intro u hu;simp only[K7,cQ,Hw,BO]at hu;rcases hu with rfl|rfl|rfl<;>rfl
 have hvw:∀v∈q.vars,0<=v/\v<a6.length:=fun v hv=>by have:=hvs v hv;omega
 simp only[wE]at hH
 simp only[nE]at hH
 refine en func86 rfl rfl<|SR<|gV hH (v:= .agg _) rfl<|fun b3 w1 aZ=>va (v:=B false) rfl<|aa<|E4 (G:=Unit) aZ (6::(rg 11 20 [])) (fun(L:List a7) (_u:Unit)=>L) (fun(_u:Unit) s'=>(skQ (bq cs) q=false)) ?_ ?_
 .refine ag<|ed aP aZ<|fun w4 bP=>AT 0 O bP (fun w hS=>cM (cs:=pQ _) iW O O O (bp (hS.blk (i:=0) O)))<|A1 1<|bX O aH O bP sR (nh _ _ (yI.mono (bP.kz (Le.refl _) (fun x hx=>(mT (mT (mT (mT (mT (mT (mT (mT (mT (mT (mT (mT (mT (mT (mT (mT (bG _ hx))))))))))))))))))))) (an call131 O)<|fun w6 eN=>have zh7:=eN;AQ 2 O zh7 (mV (B _) O)<|Jj (dj:=13) O (fun h9=> ?_) (fun h9=> ?_)
  .refine BQ 3 O O (bR (c:=true) h9) eN (mV (Pn _ _) O)<|BQ 4 O O (bR (c:=true) h9) eN (af O)<|BQ 5 O O (bR (c:=true) h9) eN (fA cw 8 O oL O)<|BQ 6 O O (bR (c:=true) h9) eN (fA iW 12 O dB O)<|AG 7 O O (bR (c:=true) h9) eN (fun w hS=>cf (yI.vars.mono (hS.kz (Le.refl _) (fun x hx=>(mT (mT (mT (mT (mT (mT (mT (mT (mT (mT (mT (mT (mT (mT (mT (mT (bG _ hx)))))))))))))))))))).sl bz O O (hS.cell (i:=0) O O))<|AG 8 O O (bR (c:=true) h9) eN (fun w hS=>ah (yI.vars.mono (hS.kz (Le.refl _) (fun x hx=>(mT (mT (mT (mT (mT (mT (mT (mT (mT (mT (mT (mT (mT (mT (mT (mT (bG _ hx)))))))))))))))))))).sl bz a8 O O (by have:=hqp ‹EP _=true›;omega))<|AG 9 O O (bR (c:=true) h9) eN (fun w hS=>aC bf O O ((yI.vars.mono (hS.kz (Le.refl _) (fun x hx=>(mT (mT (mT (mT (mT (mT (mT (mT (mT (mT (mT (mT (mT (mT (mT (mT (bG _ hx)))))))))))))))))))).sl.cell _ _ (eG (by have:=hqp ‹EP _=true›;omega))))<|BQ 11 O O (bR (c:=true) h9) eN (mV (Pn _ _) O)<|BQ 12 O O (bR (c:=true) h9) eN (af O)<|BQ 13 O O (bR (c:=true) h9) eN (fA cw 8 O oL O)<|BQ 14 O O (bR (c:=true) h9) eN (fA iW 2 O pJ O)<|BQ 15 O O (bR (c:=true) h9) eN (fA nO 0 O a8 O)<|AG 16 O O (bR (c:=true) h9) eN (fun w hS=>aC bf O O (hS.cell (i:=0) O (v:=I _) O))<|A1 10<|bX O (Aw O (bR (c:=true) h9)) O eN sR (FC _ h J (eN.blk (i:=1) O) (eN.ye (i:=2) O h.hW)) (aN EN O (show _=I (xO q)from O))<|fun GJ dJ=>A1 17<|bX O (Aw O (bR (c:=true) h9)) O dJ sR (FC _ h J (dJ.blk (i:=1) O) (dJ.ye (i:=2) O h.hW)) (aN EN O O)<|fun Bv cm=>BQ 18 O O (bR (c:=true) h9) cm (bN O O)<|AQ 19 O cm (fZ (bR (c:=true) h9) (v:=B _) O)<|AD<|aD O (fun J4=> ?_) (fun J4=> ?_)
   .refine SR<|va (v:=B true) rfl<|aa<|ai<|iY (v:=B true) O O ⟨⟨true,aj,a6,wl,wi,wy,[]⟩,vd,ql,cq,[],[],Zf,?_,rfl,?_,?_,?_,hZ,?_,(by rw[lY];exact(cm.sub (sQ sR)))⟩
    .exact aS (by simp[skQ, *])
    .exact fun x hx=>by cases hx
    .exact mW _
    .exact iD.nil _
    exact hq
   refine ak ?_
   refine⟨((Fr.refl _ _)).u4.u4.u4.u4.u4,(),cm,?_⟩
   (simp[skQ, *];done)
  refine AK 3 O O (bR (c:=false) h9) eN<|AK 4 O O (bR (c:=false) h9) eN<|AK 5 O O (bR (c:=false) h9) eN<|AK 6 O O (bR (c:=false) h9) eN<|AK 7 O O (bR (c:=false) h9) eN<|AK 8 O O (bR (c:=false) h9) eN<|AK 9 O O (bR (c:=false) h9) eN<|AK 10 O O (bR (c:=false) h9) eN<|AK 11 O O (bR (c:=false) h9) eN<|AK 12 O O (bR (c:=false) h9) eN<|AK 13 O O (bR (c:=false) h9) eN<|AK 14 O O (bR (c:=false) h9) eN<|AK 15 O O (bR (c:=false) h9) eN<|AK 16 O O (bR (c:=false) h9) eN<|AK 17 O O (bR (c:=false) h9) eN<|AK 18 O O (bR (c:=false) h9) eN<|AQ 19 O zh7 (dM (bR (c:=false) h9) (v:=B false) O)<|AD<|cL rfl<|ak<| ?_
  refine⟨((Fr.refl _ _)).u4.u4.u4.u4.u4,(),eN,?_⟩
  (simp[skQ, *];done)
 rintro _u aei J5 px cI Bu
 obtain⟨akn,wS,Ei⟩:=px.w3 0 1 5
 refine ag<|fT (z:=⟨none,_,_,_,_,none⟩) aP O aP cI sR<|fun OM dQ=>have qo:=dQ;AQ 0 O qo (run_move akn)<|AQ 1 O qo (af O)<|AQ 2 O qo (fA cw 1 O tB O)<|tV 3 O qo oF 1 O O rfl<|AQ 4 O qo (fA iW 0 O a8 Ei)<|tI 5 O qo bf 0 O O rfl<|AT 6 O qo (fun w hS=>ah (hS.sl (i:=5) O) oF sizeOf119 O O J)<|AQ 7 O qo (fA BK 2 O sizeOf117 O)<|AT 8 O qo (fun w hS=>n4 (dv:=o3) (off:=2) (cs:=[_,_,_]) qQ (hS.sl (i:=5) O) pF O O O J (agQ O))<|A1 9<|cK O aH O dQ sR (f:=fun b=> .pointer (some ⟨b,0,none⟩)) (aW Nk)<|fun b21 VV cS=>AD<|bt cS (i:=0) O (dF O O O hone (cS.blk (i:=0) O) O)<|fun OO eO=>aa<|E4 (G:=(Nat)×(List a7)) eO (8::9::(rg 40 12 [])) (fun(L:List a7) (⟨q8,Z1⟩:(Nat)×(List a7))=> .blk q8 (.cells (Value.agg (jv (lkE (au.getD q.aX.toNat o3).p.sh q aj))).cells 37 (0,0))::(L.take 17++(Z1++R))) (fun(⟨q8,Z1⟩:(Nat)×(List a7)) s'=>(s' 8= .pointer (some ⟨q8,0,none⟩))/\(kp (Ba fr) ids (Wr.tick .e (au.getD q.aX.toNat o3).d f) tl Z1)) ?_ ?_
 .refine gK aP eO (sP (sP (sP (sP (sP (sP (sP (sP (sP (sP (sP (sP (sP (sP (sP (sP (sP (sA sR))))))))))))))))))<|fun w24 og=>have Wv:=og.sub (sP (sP (sP (sP (sP (sP (sP (sP (sP (sP (sP (sP (sP (sP (sP (sP (sP (sA sR))))))))))))))))));AQ 0 O Wv (fA pF 0 O sizeOf114 O)<|tV 1 O Wv Rk 0 O O rfl<|AQ 2 O Wv (fA iW 1 O y8 Ei)<|AT 3 O Wv (fun w hS=>cf (yI.code.mono (hS.kz (Le.refl _) (fun x hx=>(mT (mT (mT (mT (mT (mT (mT (mT (mT (mT (mT (mT (mT (mT (mT (mT (mT hx)))))))))))))))))))).sl gI O O (hS.cell (i:=1) O O))<|AQ 4 O Wv (run_move akn)<|AQ 5 O Wv (af O)<|AQ 6 O Wv (fA cw 3 O mX O)<|tV 7 O Wv dR 2 O O rfl<|gD 8 12 aP ?_ ?_
  .obtain⟨aO7,aGk,aGl,azO,azP⟩:=ajY W0 ids tl hT _ _ _ _ an3 _ _ f Zf ([_,_,_,_,_,_,_,_,_,_,_,_,_,_,_,_,_]++R) _ _ _ _ (hlc.ops.mono (Le.zz (fun x hx=>bG _ hx))) hlc.EX hZ hf HQ (fun Z' w' h0=>by have h':Hp W0 w' (_::_::_::_::_::_::_::_::_::_::_::_::_::_::_::_::_::(Z'++R)):=Hp.oK (A:=[_,_,_,_,_,_,_,_,_,_,_,_,_,_,_,_,_]) h0;exact(yI.code.mono (h'.kz (Le.refl _) (fun x hx=>(mT (mT (mT (mT (mT (mT (mT (mT (mT (mT (mT (mT (mT (mT (mT (mT (mT (bG _ hx))))))))))))))))))))).sl) (fun Z' w' h0=>by have h':Hp W0 w' (_::_::_::_::_::_::_::_::_::_::_::_::_::_::_::_::_::(Z'++R)):=Hp.oK (A:=[_,_,_,_,_,_,_,_,_,_,_,_,_,_,_,_,_]) h0;exact(h'.sl (i:=8) O)) (Hp.r8 (A:=[_,_,_,_,_,_,_,_,_,_,_,_,_,_,_,_,_]) (Zf:=Zf) (R:=R) og)
   refine xu O aH O azP (iQ azO (cs:=aGk) aGl O O) (fun u w' ⟨_,Z',_,h⟩=>Hp.sub (L:=_::_::_::_::_::_::_::_::_::_::_::_::_::_::_::_::_::(Z'++R)) (Hp.oK (A:=[_,_,_,_,_,_,_,_,_,_,_,_,_,_,_,_,_]) h) (sP (sP (sP (sP (sP (sP (sP (sP (sP (sP (sP (sP (sP (sP (sP (sP (sP (sA sR))))))))))))))))))) ?_
   rintro x38 w33 ⟨azQ,Z36,aGm,IS⟩
   have tJ:Hp _ w33 (_::_::_::_::_::_::_::_::_::_::_::_::_::_::_::_::_::(Z36++R)):=Hp.oK (A:=[_,_,_,_,_,_,_,_,_,_,_,_,_,_,_,_,_]) IS
   rw[hlc.sh]at azQ
   subst azQ
   have auk:=tJ.sub (sP (sP (sP (sP (sP (sP (sP (sP (sP (sP (sP (sP (sP (sP (sP (sP (sP (sA sR))))))))))))))))))
   refine AQ 9 O auk (run_move bC) ?_
   refine AQ 10 O auk (bx O (v:= .agg _) O)<|AQ 11 O auk (bx O (v:=B _) O)<|A1 12<|cK O aH O tJ (sP (sP (sP (sP (sP (sP (sP (sP (sP (sP (sP (sP (sP (sP (sP (sP (sP (sA sR)))))))))))))))))) (f:=fun b=> .pointer (some ⟨b,0,none⟩)) (aW jO)<|fun b44 w42 kZ=>A1 13<|dU O aH kZ (j:=0) O (sQ (sP (sP (sP (sP (sP (sP (sP (sP (sP (sP (sP (sP (sP (sP (sP (sP (sP (sA sR))))))))))))))))))) (ez O O O (kZ.blk (i:=0) O))<|fun w49 eT=>AQ 14 O (eT.sub (sQ (sP (sP (sP (sP (sP (sP (sP (sP (sP (sP (sP (sP (sP (sP (sP (sP (sP (sA sR)))))))))))))))))))) (aV (B _) O)<|AD<| ?_
   refine⟨((Fr.refl _ _)).u4.u4.u4.u1.u1,(b44,Z36),(Hp.conv eT aO),rfl,?_⟩
   exact aGm
  refine cK O aH O og (sP (sP (sP (sP (sP (sP (sP (sP (sP (sP (sP (sP (sP (sP (sP (sP (sP (sA sR)))))))))))))))))) (f:=fun b=> .pointer (some ⟨b,0,none⟩)) (aW jO)<|fun b53 w51 ako=>A1 8<| ?_
  obtain⟨aPa,aGn,aGo,azR,azS⟩:=ajY W0 ids tl hT _ _ _ _ an3 _ _ f Zf ([_,_,_,_,_,_,_,_,_,_,_,_,_,_,_,_,_,_]++R) _ _ _ _ (hlc.ops.mono (Le.zz (fun x hx=>bG _ hx))) hlc.EX hZ hf HQ (fun Z' w' h0=>by have h':Hp W0 w' (_::_::_::_::_::_::_::_::_::_::_::_::_::_::_::_::_::_::(Z'++R)):=Hp.oK (A:=[_,_,_,_,_,_,_,_,_,_,_,_,_,_,_,_,_,_]) h0;exact(yI.code.mono (h'.kz (Le.refl _) (fun x hx=>(mT (mT (mT (mT (mT (mT (mT (mT (mT (mT (mT (mT (mT (mT (mT (mT (mT (mT (bG _ hx)))))))))))))))))))))).sl) (fun Z' w' h0=>by have h':Hp W0 w' (_::_::_::_::_::_::_::_::_::_::_::_::_::_::_::_::_::_::(Z'++R)):=Hp.oK (A:=[_,_,_,_,_,_,_,_,_,_,_,_,_,_,_,_,_,_]) h0;exact(h'.sl (i:=9) O)) (Hp.r8 (A:=[_,_,_,_,_,_,_,_,_,_,_,_,_,_,_,_,_,_]) (Zf:=Zf) (R:=R) ako)
  refine xu O aH O azS (iQ azR (cs:=aGn) aGo O O) (fun u w' ⟨_,Z',_,h⟩=>Hp.sub (L:=_::_::_::_::_::_::_::_::_::_::_::_::_::_::_::_::_::_::(Z'++R)) (Hp.oK (A:=[_,_,_,_,_,_,_,_,_,_,_,_,_,_,_,_,_,_]) h) (sQ (sP (sP (sP (sP (sP (sP (sP (sP (sP (sP (sP (sP (sP (sP (sP (sP (sP (sA sR)))))))))))))))))))) ?_
  rintro x66 w61 ⟨azT,Z64,aGp,h62⟩
  have pT:Hp _ w61 (_::_::_::_::_::_::_::_::_::_::_::_::_::_::_::_::_::_::(Z64++R)):=Hp.oK (A:=[_,_,_,_,_,_,_,_,_,_,_,_,_,_,_,_,_,_]) h62
  rw[hlc.sh]at azT
  subst azT
  have aul:=pT.sub (sQ (sP (sP (sP (sP (sP (sP (sP (sP (sP (sP (sP (sP (sP (sP (sP (sP (sP (sA sR)))))))))))))))))))
  refine AQ 9 O aul (run_move bC) ?_
  refine AQ 10 O aul (bx O (v:= .agg _) O)<|AQ 11 O aul (bx O (v:=B _) O)<|A1 13<|dU O aH pT (j:=0) O (sQ (sP (sP (sP (sP (sP (sP (sP (sP (sP (sP (sP (sP (sP (sP (sP (sP (sP (sA sR))))))))))))))))))) (ez O O O (pT.blk (i:=0) O))<|fun w74 GY=>AQ 14 O (GY.sub (sQ (sP (sP (sP (sP (sP (sP (sP (sP (sP (sP (sP (sP (sP (sP (sP (sP (sP (sA sR)))))))))))))))))))) (aV (B _) O)<|AD<| ?_
  refine⟨((Fr.refl _ _)).u4.u4.u4.u1.u1,(b53,Z64),(Hp.conv GY aO),rfl,?_⟩
  exact aGp
 rintro⟨q8,Z1⟩ aPb w76 azU rq ⟨akp,N7⟩
 simp only[Ho,wY,gf,eC]at rq
 have akq:=azU.w1 7
 obtain⟨QM,azV,N8⟩:=azU.t3 0 akn 1 wS 5 Ei
 refine ag<|SR<|V (fA iW 2 O pJ N8)<|V (fA nO 0 O a8 O)<|lI bf rq 2 O O rfl<|V (aM O O)<|aa<|aD O (fun h78=> ?_) (fun h78=> ?_)
 .refine ag<|SR<|V (fA pF 1 O sizeOf65 akq)<|lV Lj rq 1 O O rfl<|V (dW cH O O akp (rq.blk (i:=0) O))<|V (fA iW 2 O pJ N8)<|V (fA nO 1 O iq O)<|V (iB (sub:=s8 _) cH O O O (rq.blk (i:=2) O) O)<| ?_
  obtain⟨aPd,aGq,aGr,azW,azX⟩:=ajZ W0 ids tl hT _ _ _ _ (Wr.tick .e (au.getD q.aX.toNat o3).d f) Z1 ([_,_,_,_,_,_,_,_,_,_,_,_,_,_,_,_,_,_]++R) _ _ _ _ (hlc.ops.mono (Le.zz (fun x hx=>bG _ hx))) hlc.EX N7 (hf.aa8 _) HQ (Hp.r8 (A:=[_,_,_,_,_,_,_,_,_,_,_,_,_,_,_,_,_,_]) (Zf:=Z1) (R:=R) rq)
  refine bY O azX (iQ azW (cs:=aGq) aGr O (jW (b:=Value.agg (s8 q.to.c).toArray) O (aJ Value.agg (iv q.to.c).symm))) ?_
  rintro x89 w84 ⟨aGs,Z87,azY,h85⟩
  have wj:Hp _ w84 (_::_::_::_::_::_::_::_::_::_::_::_::_::_::_::_::_::_::(Z87++R)):=Hp.oK (A:=[_,_,_,_,_,_,_,_,_,_,_,_,_,_,_,_,_,_]) h85
  subst aGs
  refine V (bO O)<|aa<|bW O (fun h93=> ?_) (fun h93=> ?_)
  .refine SR<|aE QM<|aE QM<|V (cM (cs:=pQ _) iW O O N8 (bp (wj.blk (i:=2) O)))<|aG O wj (wV _ (hvw) _ (wj.blk (i:=3) O) (wj.sl (i:=10) O) (yI.mono (wj.kz (Le.refl _) (fun x hx=>(mT (mT (mT (mT (mT (mT (mT (mT (mT (mT (mT (mT (mT (mT (mT (mT (mT (mT (bG _ hx))))))))))))))))))))))) (aN call132 O O)<|fun w94 Tj=>V (af O)<|V (fA cw 13 O dg O)<|bt Tj (i:=3) O (bQ O O (v:=U _) O O O (Tj.blk (i:=3) O) aF)<|fun w96 Tk=> ?_
   simp only[iM,kL,m7,ia,Nat.reduceAdd]at Tk
   refine aa<|SR<|va (v:=B false) rfl<|aa<|ai<|iY (v:=B false) O O ⟨⟨false,aj,a6,wl,wi,orW q.why a6 q.vars,[.e,.l]⟩,vd,ql,cq,[],[],Z87,?_,rfl,?_,?_,?_,azY,?_,(by rw[lY];exact(Tk.sub (sQ (sQ (sQ sR)))))⟩
   .exact(aR RH).trans ((aS aK).trans (aR (by simpa using‹(!cT _ _)=true›)))
   .exact fun x hx=>by cases hx
   .exact mW _
   .exact iD.nil _
   exact hq
  refine ak<|SR<|va (v:=B true) rfl<|aa<|ai<|iY (v:=B true) O O ⟨⟨true,aj,a6,wl,wi,wy,[.e,.l]⟩,vd,ql,cq,[],[],Z87,?_,rfl,?_,?_,?_,azY,?_,(by rw[lY];exact(wj.sub (sQ (sQ (sQ sR)))))⟩
  .exact(aR RH).trans ((aS aK).trans (aS (by simpa using‹(!cT _ _)=false›)))
  .exact fun x hx=>by cases hx
  .exact mW _
  .exact iD.nil _
  exact hq
 refine ak<|ag<|fT (z:=⟨none,_,_,_,_,none⟩) aP O aP rq sR<|fun w98 aex=>have Tl:=aex;AQ 0 O Tl (run_move QM)<|AQ 1 O Tl (af O)<|AQ 2 O Tl (fA cw 3 O mX O)<|tV 3 O Tl dR 3 O O rfl<|AQ 4 O Tl (fA iW 2 O pJ N8)<|AQ 5 O Tl (fA nO 0 O a8 O)<|tI 6 O Tl bf 2 O O rfl<|AT 7 O Tl (fun w hS=>ah (hS.sl (i:=9) O) dR iq O O J)<|AT 8 O Tl (fun w hS=>lK (hS.sl (i:=9) O) cH O O O J)<|A1 9<|cK O aH O aex sR (f:=fun b=> .pointer (some ⟨b,0,none⟩)) (aW jO)<|fun aPi at1 Eu=>AD<|bt Eu (i:=0) O (ez O O O (Eu.blk (i:=0) O))<|fun at3 vH=>aa<|ag<|SR<|V (fA pF 1 O sizeOf65 akq)<|lV Lj vH 2 O O rfl<|V (dW cH O O akp (vH.blk (i:=1) O))<|V (dW cH O O O (vH.blk (i:=0) O))<| ?_
 obtain⟨aKT,azZ,az0,aum,aun⟩:=ajZ W0 ids tl hT _ _ _ _ (Wr.tick .e (au.getD q.aX.toNat o3).d f) Z1 ([_,_,_,_,_,_,_,_,_,_,_,_,_,_,_,_,_,_,_]++R) _ _ _ _ (hlc.ops.mono (Le.zz (fun x hx=>bG _ hx))) hlc.EX N7 (hf.aa8 _) HQ (Hp.r8 (A:=[_,_,_,_,_,_,_,_,_,_,_,_,_,_,_,_,_,_,_]) (Zf:=Z1) (R:=R) vH)
 refine bY O aun (iQ aum (cs:=azZ) az0 O O) ?_
 rintro aPj auo ⟨az1,an4,aqf,aup⟩
 have Ep:Hp _ auo (_::_::_::_::_::_::_::_::_::_::_::_::_::_::_::_::_::_::_::(an4++R)):=Hp.oK (A:=[_,_,_,_,_,_,_,_,_,_,_,_,_,_,_,_,_,_,_]) aup
 subst az1
 refine V (bO O)<|aa<|bW O (fun auq=> ?_) (fun auq=> ?_)
 .refine fT (z:=⟨some _,_,_,_,_,none⟩) aP O aP Ep (sP (sP (sP (sP (sP (sP (sP (sP (sP (sP (sP (sP (sP (sP (sP (sP (sP (sP (sP (sA sR))))))))))))))))))))<|fun aPk JH=>have qj:=JH.sub (sP (sP (sP (sP (sP (sP (sP (sP (sP (sP (sP (sP (sP (sP (sP (sP (sP (sP (sP (sA sR))))))))))))))))))));AQ 0 O qj (run_move QM)<|AQ 1 O qj (run_move azV)<|AQ 2 O qj (fA iW 2 O pJ N8)<|AQ 3 O qj (fA nO 0 O a8 O)<|tI 4 O qj bf 3 O O rfl<|AQ 5 O qj (fA pF 2 O sizeOf115 akq)<|tV 6 O qj Lf 2 O O rfl<|AT 7 O qj (fun w hS=>dW cH O O O (hS.blk (i:=0) O))<|AT 8 O qj (fun w hS=>dW cH O O akp (hS.blk (i:=1) O))<|AQ 10 O qj (run_move QM)<|AQ 11 O qj (af O)<|AQ 12 O qj (fA cw 4 O jh O)<|tV 13 O qj c8 4 O O rfl<|AQ 14 O qj (fA iW 2 O pJ N8)<|AQ 15 O qj (fA nO 0 O a8 O)<|tI 16 O qj bf 3 O O rfl<|AT 17 O qj (fun w hS=>ah (hS.sl (i:=11) O) c8 dg O O J)<|AT 18 O qj (fun w hS=>aC dZ O O ((hS.sl (i:=11) O).cell _ _ (lf (dv:=0#64) J)))<|AQ 19 O qj (run_move QM)<|AT 20 O qj (fun w hS=>cM (cs:=pQ _) iW O O N8 (bp (hS.blk (i:=3) O)))<|A1 9<| ?_
  obtain⟨aKU,az2,az3,aur,aus⟩:=aj0 W0 ids tl hT _ _ _ _ (Wr.tick .l (au.getD q.aX.toNat o3).d (Wr.tick .e (au.getD q.aX.toNat o3).d f)) an4 ([_,_,_,_,_,_,_,_,_,_,_,_,_,_,_,_,_,_,_]++R) _ _ _ _ (hlc.ops.mono (Le.zz (fun x hx=>bG _ hx))) hlc.EX aqf ((hf.aa8 _).aa8 _) HQ (Hp.r8 (A:=[_,_,_,_,_,_,_,_,_,_,_,_,_,_,_,_,_,_,_]) (Zf:=an4) (R:=R) JH)
  refine xu O aH O aus (iQ aur (cs:=az2) az3 O O) (fun u w' ⟨_,Z',_,h⟩=>Hp.sub (L:=_::_::_::_::_::_::_::_::_::_::_::_::_::_::_::_::_::_::_::(Z'++R)) (Hp.oK (A:=[_,_,_,_,_,_,_,_,_,_,_,_,_,_,_,_,_,_,_]) h) (sP (sP (sP (sP (sP (sP (sP (sP (sP (sP (sP (sP (sP (sP (sP (sP (sP (sP (sP (sA sR))))))))))))))))))))) ?_
  rintro aPl an5 ⟨aqg,aut,az4,aGu⟩
  have acd:Hp _ an5 (_::_::_::_::_::_::_::_::_::_::_::_::_::_::_::_::_::_::_::(aut++R)):=Hp.oK (A:=[_,_,_,_,_,_,_,_,_,_,_,_,_,_,_,_,_,_,_]) aGu
  rw[apj hlc.EX hlc.sh]at aqg
  subst aqg
  refine A1 21<|bX O aH O acd (sP (sP (sP (sP (sP (sP (sP (sP (sP (sP (sP (sP (sP (sP (sP (sP (sP (sP (sP (sA sR)))))))))))))))))))) (wV _ (hvw) _ (acd.blk (i:=4) O) (acd.sl (i:=11) O) (yI.mono (acd.kz (Le.refl _) (fun x hx=>(mT (mT (mT (mT (mT (mT (mT (mT (mT (mT (mT (mT (mT (mT (mT (mT (mT (mT (mT (bG _ hx)))))))))))))))))))))))) (aN call132 O O)<|fun aPm aqh=>AQ 22 O (aqh.sub (sP (sP (sP (sP (sP (sP (sP (sP (sP (sP (sP (sP (sP (sP (sP (sP (sP (sP (sP (sA sR))))))))))))))))))))) (jH O O)<|AD<|bY O (AZ _ _ _ J J J J J J J (fun k hk=>⟨by(repeat apply fC);exact bG _ (xA k hk).1,(xA k hk).2⟩) _ (h.mono fun e he=>by(repeat apply fC);exact bG _ he) hq (aqh.pj [4,4,4,4,4,4,4,4,4,4,4,4,4,4,4])) (rP call130 O O O O O)<| ?_
  rintro _ aGv ⟨rfl,az5,aGw,aGx,az6,aqi,az7,az8,az9,aAa,aAb⟩
  simp only[nE,wE]at aAb
  have aqj:=Hp.mh (A:=[_,_,_,_,_,_,_,_,_,_,_,_,_,_,_]) (R:=[_,_,_,_]) aAb
  simp only[gf,eC]at aqj
  have aAc:=aqj.pk [15,15,15,15]
  refine aa<|SR<|va (v:=B true) rfl<|aa<|ai<|iY (v:=B true) O O ⟨lkR (bq cs) us (au.getD q.aX.toNat o3).p.sh q aj a6 wl wi wy,az5,aGw,aGx,az6,aqi,aut,?_,rfl,?_,?_,?_,az4,?_,(Hp.mh (A:=[_,_,_,_,_,_,_,_,_,_,_,_,_,_,_]) (B:=aqi) (R:=aut) (aAc.sub (sQ (sQ (sQ (sQ sR))))))⟩
  .exact(aR RH).trans ((aR aK).trans (aR (by simpa using‹(!cT _ _)=true›)))
  .exact az7
  .exact az8
  .exact az9
  exact aAa
 refine ak<|SR<|va (v:=B true) rfl<|aa<|ai<|iY (v:=B true) O O ⟨⟨true,aj,a6,wl,wi,wy,[.e,.l]⟩,vd,ql,cq,[],[],an4,?_,rfl,?_,?_,?_,aqf,?_,(by rw[lY];exact(Ep.sub (sQ (sQ (sQ (sQ sR))))))⟩
 .exact(aR RH).trans ((aR aK).trans (aS (by simpa using‹(!cT _ _)=false›)))
 .exact fun x hx=>by cases hx
 .exact mW _
 .exact iD.nil _
 exact hq
end
end Go.Proofs.YtlhjdflgjbkpmaaGreatDoor.W

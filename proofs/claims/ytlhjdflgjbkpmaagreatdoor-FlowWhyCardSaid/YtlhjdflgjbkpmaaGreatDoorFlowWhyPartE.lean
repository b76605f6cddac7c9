/- Part 5 of the proof of FlowWhy: its plain laws and the walks of its functions. -/
import Derived.Test.YtlhjdflgjbkpmaaGreatDoorFlowWhyPartD
set_option linter.all false
namespace Go.Proofs.YtlhjdflgjbkpmaaGreatDoor.W
section
open Go Go.RowKit Go.Proofs.YtlhjdflgjbkpmaaGreatDoor.E Go.Proofs.YtlhjdflgjbkpmaaGreatDoor.M
set_option maxRecDepth 100000
open Go.Proofs.Tryz
variable{fr:List bu}
set_option maxHeartbeats 1000000 in
theorem A7(s:lQ)(x:gL)(w:World)(hs:Ef (Kw w) s)(hx:Ke (Kw w) x):Calls Tryz.prog 35 #[.agg (MW s),.agg (u3 x).toArray] w (Pure (B (kT s x)) w):=by
 have BA:=hs.aq.sl.small
 have Kj:=hs.vars.sl.small
 unfold maxLen at BA Kj
 have hm3:=hx.code.small
 unfold maxLen at hm3
 refine eH func35 rfl rfl fun hH=>SR<|gO hH (v:= .agg _) rfl<|fun b3 w1 bq=>gO bq (v:= .agg _) rfl<|fun b6 w4 bY=>va (v:=B false) rfl<|aa<|ai<|SR<|V (fA fw 0 O aP O)<|lI bx bY 0 O O rfl<|V (bW O O)<|aa<|aG O (fun h8=> ?_) (fun h8=> ?_)
 .refine SR<|V (cC (cs:=CM _) gH O O O (bj (bY.blk (i:=1) O)))<|V (fA fw 16 O aP O)<|lI bx bY 0 O O rfl<|V (fA fw 1 O aP O)<|lI bx bY 0 O O rfl<|aH O bY (kN _ _ _ _ _ (hs.mono bY.kw)) (jE call76 O O (show _=I 2 from O) O)<|fun w9 cg=>mB rfl<|eK 16 O (fun h12=> ?_) (fun h12=> ?_)
  .refine V (fA fw 17 O kC O)<|V (aE iz O O (cg.cell (i:=0) O (v:= .string _) O))<|aH O cg (iK _ _) (ay call74 O)<|fun BR cD=>mB rfl<|aB rfl<|aa<|aj<|oB O ?_ cD
   (rw[ahU ‹x.op=10›,‹rB s x.var 2 x.bf=true›,l7];done)
  refine aF (v:=B false) rfl<|aB rfl<|aa<|aj<|oB O ?_ cg
  (rw[ahU ‹x.op=10›,‹rB s x.var 2 x.bf=false›,rq];done)
 refine an<|ai<|SR<|V (fA fw 1 O aP O)<|lI bx bY 0 O O rfl<|V (aN O O)<|mB rfl<|bM 24 O (fun Hu=> ?_) (fun Hu=> ?_)
 .refine aF (v:=B true) rfl<|aa<|cz rfl<|SR<|va (v:=B false) rfl<|aa<|aj<|oB O ?_ bY
  (rw[ahV J J];done)
 refine V (fA fw 1 O aP O)<|lI bx bY 0 O O rfl<|V (fA gH 0 O ox O)<|V (bZ (hs.aq.sl.hp bY) je O O (bY.cell (i:=1) O O))<|V (aD (hs.aq.sl.hp bY) O je O)<|V (dF O O)<|mB rfl<|aa<|aG O (fun Ob=> ?_) (fun Ob=> ?_)
 .refine SR<|va (v:=B false) rfl<|aa<|aj<|oB O ?_ bY
  (rw[ahV J J];done)
 refine an<|ai<|SR<|V (fA fw 0 O aP O)<|lI bx bY 0 O O rfl<|V (bW O O)<|aa<|aG O (fun Pt=> ?_) (fun Pt=> ?_)
 .refine SR<|V (cC (cs:=CM _) gH O O O (bj (bY.blk (i:=1) O)))<|V (fA fw 1 O aP O)<|lI bx bY 0 O O rfl<|V (fA fw 12 O HZ O)<|V (iN (sub:=SU _) qk O O O (bY.blk (i:=0) O) (ass _))<|aH O bY (rW _ _ _ J _ (hs.mono bY.kw) (hx.a.mono bY.kw)) (bA call77 O O O)<|fun TD eP=>mB rfl<|eK 41 O (fun Ji=> ?_) (fun Ji=> ?_)
  .refine V (cC (cs:=CM _) gH O O O (bj (eP.blk (i:=1) O)))<|V (fA fw 1 O aP O)<|lI bx eP 0 O O rfl<|V (fA fw 14 O HZ O)<|V (iN (sub:=SU _) qk O O O (eP.blk (i:=0) O) (ast _))<|aH O eP (rW _ _ _ J _ (hs.mono eP.kw) (hx.b.mono eP.kw)) (bA call77 O O O)<|fun Uq dG=>mB rfl<|aB rfl<|aa<|aj<|oB O ?_ dG
   (rw[apH ‹x.op=9› (show 0<=x.bf/\x.bf<s.aq.length by omega),‹wg s x.bf x.a=true›,l7];done)
  refine aF (v:=B false) rfl<|aB rfl<|aa<|aj<|oB O ?_ eP
  (rw[apH ‹x.op=9› (show 0<=x.bf/\x.bf<s.aq.length by omega),‹wg s x.bf x.a=false›,rq];done)
 refine an<|ai<|SR<|V (fA fw 0 O aP O)<|lI bx bY 0 O O rfl<|V (kL O O)<|mB rfl<|bM 52 O (fun Pr=> ?_) (fun Pr=> ?_)
 .refine aF (v:=B true) rfl<|mB rfl<|cF O rfl<|aF (v:=B true) rfl<|aa<|cz rfl<|SR<|va (v:=B false) rfl<|aa<|aj<|oB O ?_ bY
  (rw[axh J J J];done)
 refine V (fA fw 2 O x9 O)<|V (bZ (hx.code.sl.hp bY) ic O O (bY.cell (i:=0) O O))<|aH O bY (rV _ _ _ (hx.code.sl.hp bY)) (ay call78 O)<|fun w31 ij=>V (bJ O)<|mB rfl<|mB rfl<|eK 58 O (fun BT=> ?_) (fun BT=> ?_)
 .refine aF (v:=B true) rfl<|aa<|cz rfl<|SR<|va (v:=B false) rfl<|aa<|aj<|oB O ?_ ij
  (rw[Qo (show x.op=8 by omega) (show 0<=x.bf/\x.bf<s.aq.length by omega),ahS (nt ‹(!fY _)=true›),rq];done)
 refine V (cC (cs:=CM _) gH O O O (bj (ij.blk (i:=1) O)))<|V (fA fw 1 O aP O)<|lI bx ij 0 O O rfl<|V (fA fw 3 O kV O)<|V (iN (sub:=jH _) kQ O O O (ij.blk (i:=0) O) (abF _))<|aH O ij (mA _ _ _ J _ (hs.mono ij.kw)) (bA call79 O O O)<|fun w36 uF=>V (bJ O)<|mB rfl<|aa<|bX O (fun h40=> ?_) (fun h40=> ?_)
 .refine SR<|va (v:=B false) rfl<|aa<|aj<|oB O ?_ uF
  (rw[Qo (show x.op=8 by omega) (show 0<=x.bf/\x.bf<s.aq.length by omega),nt ‹(!mv s x.bf x.to)=true›,Ln];done)
 refine an<|ai<|SR<|va (v:=I 0) rfl<|aa<|aA<|bt (G:=Int) (fun k s' w'=>(Fr (rg 4 3 (rg 67 42 [])) _ s')/\(Hp w w' _)/\(s' 5=I k)/\(0<=k)/\(k<=x.code.length)/\(∀j:Int,0<=j->j<k->wh s x.bf (x.code.getD j.toNat bG)=true)) (fun k=>(x.code.length-k).toNat) (0) ⟨Fr.refl _ _,uF,rfl,J,J,fun j a b=>absurd b J⟩<| ?_
 rintro k aFC w41 ⟨W7,jW,E1,h0,hk,hg⟩
 obtain⟨akj,Oz⟩:=W7.w2 2 3
 refine ai<|SR<|aF E1<|V (fA fw 2 O x9 Oz)<|V (bZ (hx.code.sl.hp jW) ic O O (jW.cell (i:=0) O O))<|V (aD (hx.code.sl.hp jW) O ic O)<|V (aN O O)<|aa<|aG O (fun h43=> ?_) (fun h43=> ?_)
 .refine an<|ai<|aA<|SR<|V (fA fw 2 O x9 Oz)<|V (bZ (hx.code.sl.hp jW) ic O O (jW.cell (i:=0) O O))<|aF E1<|V (ah (hx.code.sl.hp jW) ic px O O J)<|V (dY (dv:=bG) gS (hx.code.sl.hp jW) ec O O O J)<|lN jW (aT zi)<|fun b46 w44 r9=>bg r9 (i:=0) O (dK (c':=(kq _).toArray) O O O (we _) (r9.blk (i:=0) O) O)<|fun w47 jR=>aa<|ai<|ew aQ jR<|fun w49 eO=>have aaE:=eO;AQ 0 O aaE (fA ec 0 O aP O)<|tI 1 O aaE bx 0 O O rfl<|AQ 2 O aaE (bW O O)<|AQ 3 O aaE (mV (B _) O)<|CC (dj:=82) O (fun W9=> ?_) (fun W9=> ?_)
  .refine AG 4 O O (bT W9) eO (fun w hS=>cC (cs:=CM _) gH O O akj (bj (hS.blk (i:=2) O)))<|BQ 5 O O (bT W9) eO (fA ec 1 O aP O)<|AG 6 O O (bT W9) eO (fun w hS=>aE bx O O (hS.cell (i:=0) O (v:=I _) O))<|BQ 7 O O (bT W9) eO (fA fw 1 O aP Oz)<|AG 8 O O (bT W9) eO (fun w hS=>aE bx O O (hS.cell (i:=1) O (v:=I _) O))<|A1 9<|cm O (yM O (bT W9)) O eO sR (kN _ _ _ _ _ (hs.mono eO.kw)) (jE call76 O O (show _=I 1 from O) O)<|fun w53 gU=>BQ 10 O O (bT W9) gU (bJ O)<|have aov:=gU;AQ 11 O aov (gN (bT W9) (v:=B _) O)<|AQ 12 O aov (mV (B _) O)<|Ma (dj:=91) O (fun PC=> ?_) (fun PC=> ?_)
   .refine AK 13 O O (bR (c:=true) PC) gU<|AK 14 O O (bR (c:=true) PC) gU<|AK 15 O O (bR (c:=true) PC) gU<|AK 16 O O (bR (c:=true) PC) gU<|AU 17 O O O gU<|AU 18 O O O gU<|AU 19 O O O gU<|AU 20 O O O gU<|AU 21 O O O gU<|AU 22 O O O gU<|AU 23 O O O gU<|AU 24 O O O gU<|AU 25 O O O gU<|AU 26 O O O gU<|AU 27 O O O gU<|AK 28 O O (bR (c:=true) PC) gU<|AQ 29 O aov (gN (bR (c:=true) PC) (v:=B true) O)<|AD<|cz rfl<|SR<|va (v:=B false) rfl<|aa<|aj<|oB O ?_ gU
    (rw[Qo (show x.op=8 by omega) (show 0<=x.bf/\x.bf<s.aq.length by omega),Nc h0 ‹k<_› (am0 ‹(List.getD x.code _ _).op=1› (nt ‹(!rB s _ 1 x.bf)=true›)),rq];done)
   refine BQ 13 O O (bR (c:=false) PC) gU (fA ec 0 O aP O)<|AG 14 O O (bR (c:=false) PC) gU (fun w hS=>aE bx O O (hS.cell (i:=0) O (v:=I _) O))<|BQ 15 O O (bR (c:=false) PC) gU (bW O O)<|BQ 16 O O (bR (c:=false) PC) gU (mV (B _) O)<|CC (dj:=95) O (fun Ku=> ?_) (fun Ku=> ?_)
   .refine BQ 17 O O (bT Ku) gU (fA gH 0 O ox akj)<|AG 18 O O (bT Ku) gU (fun w hS=>bZ (hs.aq.sl.hp hS) je O O (hS.cell (i:=2) O O))<|BQ 19 O O (bT Ku) gU (fA fw 1 O aP Oz)<|AG 20 O O (bT Ku) gU (fun w hS=>aE bx O O (hS.cell (i:=1) O (v:=I _) O))<|AG 21 O O (bT Ku) gU (fun w hS=>ah (hs.aq.sl.hp hS) je x8 O O J)<|BQ 22 O O (bT Ku) gU (fA sI 1 O vE O)<|AG 23 O O (bT Ku) gU (fun w hS=>mj (dv:=mP) (off:=1) (cs:=yj _) oG (hs.aq.sl.hp hS) dw O O O J (Ak _))<|BQ 24 O O (bT Ku) gU (fA ec 2 O fl O)<|AG 25 O O (bT Ku) gU (fun w hS=>nN bI O O O (hS.blk (i:=0) O) (D2 _))<|A1 26<|cm O (yM O (bT Ku)) O gU sR (nY _ _ _ ((hs.at J J).mono gU.kw)) (aL call80 O O)<|fun w60 Es=>BQ 27 O O (bT Ku) Es (bJ O)<|BQ 28 O O (bR (c:=false) PC) Es (gN (bT Ku) (v:=B _) O)<|have aFF:=Es;AQ 29 O aFF (dR (bR (c:=false) PC) (v:=B _) O)<|AD<|bX O (fun Sr=> ?_) (fun Sr=> ?_)
    .refine SR<|va (v:=B false) rfl<|aa<|aj<|oB O ?_ Es
     (rw[Qo (show x.op=8 by omega) (show 0<=x.bf/\x.bf<s.aq.length by omega),Nc h0 ‹k<_› (abJ ‹(List.getD x.code _ _).op=2› (nt ‹(!cI _ _)=true›)),rq];done)
    refine an<|au<|aF E1<|V (ax O O J)<|aI rfl<|aa<| ?_
    refine⟨k+1,aX,W7.u4.u4.u4.u4.u4.u4.u4.u4.u4.u4.u4,(Es.sub (sQ sR)),(aK I aM),J,J,?_⟩
    exact fun j a b=>if e:j=k then e▸K6 af3 (by exact .inr (nf ‹(!cI _ _)=false›))else hg j a J
   refine AK 17 O O (bF Ku) gU<|AK 18 O O (bF Ku) gU<|AK 19 O O (bF Ku) gU<|AK 20 O O (bF Ku) gU<|AK 21 O O (bF Ku) gU<|AK 22 O O (bF Ku) gU<|AK 23 O O (bF Ku) gU<|AK 24 O O (bF Ku) gU<|AK 25 O O (bF Ku) gU<|AK 26 O O (bF Ku) gU<|AK 27 O O (bF Ku) gU<|BQ 28 O O (bR (c:=false) PC) gU (dR (bF Ku) (v:=B false) O)<|AQ 29 O aov (dR (bR (c:=false) PC) (v:=B _) O)<|AD<|cT rfl<|an<|au<|aF E1<|V (ax O O J)<|aI rfl<|aa<| ?_
   refine⟨k+1,aX,W7.u4.u4.u4.u4.u4.u4.u4.u4.u4.u4.u4,(gU.sub (sQ sR)),(aK I aM),J,J,?_⟩
   exact fun j a b=>if e:j=k then e▸K6 af3 (by exact .inl ‹¬(List.getD x.code _ _).op=2›)else hg j a J
  refine AK 4 O O (bF W9) eO<|AK 5 O O (bF W9) eO<|AK 6 O O (bF W9) eO<|AK 7 O O (bF W9) eO<|AK 8 O O (bF W9) eO<|AK 9 O O (bF W9) eO<|AK 10 O O (bF W9) eO<|AQ 11 O aaE (dR (bF W9) (v:=B false) O)<|AQ 12 O aaE (mV (B _) O)<|BQ 13 O O O eO (fA ec 0 O aP O)<|AG 14 O O O eO (fun w hS=>aE bx O O (hS.cell (i:=0) O (v:=I _) O))<|BQ 15 O O O eO (bW O O)<|BQ 16 O O O eO (mV (B _) O)<|CC (dj:=95) O (fun Hy=> ?_) (fun Hy=> ?_)
  .refine BQ 17 O O (bT Hy) eO (fA gH 0 O ox akj)<|AG 18 O O (bT Hy) eO (fun w hS=>bZ (hs.aq.sl.hp hS) je O O (hS.cell (i:=2) O O))<|BQ 19 O O (bT Hy) eO (fA fw 1 O aP Oz)<|AG 20 O O (bT Hy) eO (fun w hS=>aE bx O O (hS.cell (i:=1) O (v:=I _) O))<|AG 21 O O (bT Hy) eO (fun w hS=>ah (hs.aq.sl.hp hS) je x8 O O J)<|BQ 22 O O (bT Hy) eO (fA sI 1 O vE O)<|AG 23 O O (bT Hy) eO (fun w hS=>mj (dv:=mP) (off:=1) (cs:=yj _) oG (hs.aq.sl.hp hS) dw O O O J (Ak _))<|BQ 24 O O (bT Hy) eO (fA ec 2 O fl O)<|AG 25 O O (bT Hy) eO (fun w hS=>nN bI O O O (hS.blk (i:=0) O) (D2 _))<|A1 26<|cm O (yM O (bT Hy)) O eO sR (nY _ _ _ ((hs.at J J).mono eO.kw)) (aL call80 O O)<|fun w67 kJ=>BQ 27 O O (bT Hy) kJ (bJ O)<|BQ 28 O O O kJ (gN (bT Hy) (v:=B _) O)<|have TP:=kJ;AQ 29 O TP (dR O (v:=B _) O)<|AD<|bX O (fun h71=> ?_) (fun h71=> ?_)
   .refine SR<|va (v:=B false) rfl<|aa<|aj<|oB O ?_ kJ
    (rw[Qo (show x.op=8 by omega) (show 0<=x.bf/\x.bf<s.aq.length by omega),Nc h0 ‹k<_› (abJ ‹(List.getD x.code _ _).op=2› (nt ‹(!cI _ _)=true›)),rq];done)
   refine an<|au<|aF E1<|V (ax O O J)<|aI rfl<|aa<| ?_
   refine⟨k+1,aX,W7.u4.u4.u4.u4.u4.u4.u4.u4.u4.u4.u4,(kJ.sub (sQ sR)),(aK I aM),J,J,?_⟩
   exact fun j a b=>if e:j=k then e▸K6 af7 (by exact .inr (nf ‹(!cI _ _)=false›))else hg j a J
  refine AK 17 O O (bF Hy) eO<|AK 18 O O (bF Hy) eO<|AK 19 O O (bF Hy) eO<|AK 20 O O (bF Hy) eO<|AK 21 O O (bF Hy) eO<|AK 22 O O (bF Hy) eO<|AK 23 O O (bF Hy) eO<|AK 24 O O (bF Hy) eO<|AK 25 O O (bF Hy) eO<|AK 26 O O (bF Hy) eO<|AK 27 O O (bF Hy) eO<|BQ 28 O O O eO (dR (bF Hy) (v:=B false) O)<|AQ 29 O aaE (dR O (v:=B _) O)<|AD<|cT rfl<|an<|au<|aF E1<|V (ax O O J)<|aI rfl<|aa<| ?_
  refine⟨k+1,aX,W7.u4.u4.u4.u4.u4.u4.u4.u4.u4.u4.u4,(eO.sub (sQ sR)),(aK I aM),J,J,?_⟩
  exact fun j a b=>if e:j=k then e▸K6 af7 (by exact .inl ‹¬(List.getD x.code _ _).op=2›)else hg j a J
 refine a8 (id:=0) rfl<|SR<|va (v:=B true) rfl<|aa<|aj<|oB O ?_ jW
 (rw[Qo (show x.op=8 by omega) (show 0<=x.bf/\x.bf<s.aq.length by omega),ad8 ‹¬k<_› hg (nf ‹(!fY _)=false›),nf ‹(!mv s x.bf x.to)=false›];rfl)
theorem Dm(s:kW)(op:Int)(v:Value)(l:List El)(hne:1<=l.length)(w:World)(hs:Sl w v 8 l.length (l.flatMap pM))(hsh:lm (Kw w) s)(hT:pc w):Calls Tryz.prog 139 #[.agg (qW s),I op,v] w (Pure (.agg (iM (pT (Kf s.sh op) l))) w):=by
 have hm:=hs.small
 unfold maxLen at hm
 refine eH func139 rfl rfl fun hH=>SR<|gO hH (v:= .agg _) rfl<|fun b3 w1 bq=>lN bq (aT fg)<|fun b6 w4 bY=>aa<|SR<| ?_
 refine V (run_move bz) ?_
 refine V (run_move bz) ?_
 refine V (aD (hs.hp bY) O bU O)<|V (eS O O J)<|V (ah (hs.hp bY) bU fl O O J)<|V (gy (hs.hp bY) bI O O O J)<|lN bY (aT fg)<|fun b9 w7 eX=>bg eX (i:=0) O (cR O O O (eX.blk (i:=0) O))<|fun Eo dr=>aa<|ai<|SR<| ?_
 refine V (run_move bz) ?_
 refine V (aD (hs.hp dr) O bU O)<|V (eS O O J)<|aI rfl<|aa<|aA<|bt (G:=Int×El) (fun⟨k,e1⟩ s' w'=>(Fr (8::(rg 18 19 [])) _ s')/\(Hp w w' (.blk b9 (.cells (iM e1) 37 (0,0))::_))/\(s' 8=I k)/\(-1<=k)/\(k<=(l.length:Int)-2)/\(e1=pT (Kf s.sh op) (l.drop (k+1).toNat))) (fun⟨k,e1⟩=>(k+1).toNat) (((l.length:Int)-2,(l.getD ((l.length:Int)-1).toNat df))) ⟨Fr.refl _ _,dr,rfl,J,J,(by rw[show((l.length:Int)-2+1).toNat=l.length-1 by omega,Na (by intro h;rw[h]at hne;simp at hne)];congr 1;omega)⟩<| ?_
 rintro⟨k,e1⟩ aal zl ⟨my,cM,Oe,h0,hk,he⟩
 obtain⟨po,zq,kU,aqP,Xa⟩:=my.w5 1 2 3 6 7
 refine ai<|SR<|aF Oe<|V (dF O O)<|aa<|aG O (fun Gl=> ?_) (fun Gl=> ?_)
 .refine an<|ai<|aA<|ai<|SR<|aF po<|V (bW O O)<|aa<|aG O (fun yt=> ?_) (fun yt=> ?_)
  .refine ai<|fX aQ cM (sQ sR)<|fun TC dQ=>have q7:=dQ.sub (sQ sR);AT 0 O q7 (fun w hS=>cC (cs:=[B _,_]) dw O O kU (bj (hS.blk (i:=1) O)))<|AQ 1 O q7 (run_move zq)<|AQ 2 O q7 (run_move Oe)<|AT 3 O q7 (fun w hS=>ah (hs.hp hS) bU fl O O J)<|AT 4 O q7 (fun w hS=>gy (hs.hp hS) bI O O O J)<|A1 5<|cf O aC O dQ (sQ sR) (cN bI O O Xa (dQ.blk (i:=0) O))<|A1 6<|cm O aC O dQ (sQ sR) (TJ _ _ _ _ (hsh.mono dQ.kw) (hT.hp dQ)) (bA call170 O O O)<|fun N4 cK=>A1 7<|dW O aC cK (j:=0) O (sQ sR) (cR O Xa O (cK.blk (i:=0) O))<|fun w25 jy=>AD<|a8 (id:=1) rfl<|au<|aF Oe<|V (eS O O J)<|aI rfl<|aa<| ?_
   refine⟨(k-1,_),aX,my.u4.u4.u4.u1.u1,jy,(aK I aM),J,J,?_⟩
   (rw[show(k-1+1).toNat=k.toNat by omega,K4 J J,<-he];exact apF ‹op=3›)
  refine an<|fX aQ cM (sQ sR)<|fun w27 iJ=>have aak:=iJ.sub (sQ sR);AQ 0 O aak (run_move zq)<|AQ 1 O aak (run_move Oe)<|AT 2 O aak (fun w hS=>ah (hs.hp hS) bU fl O O J)<|AT 3 O aak (fun w hS=>gy (hs.hp hS) bI O O O J)<|A1 4<|cf O aC O iJ (sQ sR) (cN bI O O Xa (iJ.blk (i:=0) O))<|A1 5<|cm O aC O iJ (sQ sR) (TK _ _ _) (aL call171 O O)<|fun w31 ij=>A1 6<|dW O aC ij (j:=0) O (sQ sR) (cR O Xa O (ij.blk (i:=0) O))<|fun w35 j8=>AD<|au<|aF Oe<|V (eS O O J)<|aI rfl<|aa<| ?_
  refine⟨(k-1,_),aX,my.u4.u4.u4.u1,j8,(aK I aM),J,J,?_⟩
  (rw[show(k-1+1).toNat=k.toNat by omega,K4 J J,<-he];exact apG ‹¬op=3›)
 refine a8 (id:=0) rfl<|SR<|V (cN bI O O Xa (cM.blk (i:=0) O))<|bg cM (i:=1) O (cR O aqP O (cM.blk (i:=1) O))<|fun w37 uG=>aa<|aj<|qJ O aqP uG (i:=1) O bI O jJ ⟨?_,uG.below⟩
 (exact aK Value.agg (mo (by rw[he,show(k+1).toNat=0 by omega];exact fun _ _=>rfl)))
set_option maxHeartbeats 1000000 in
theorem Xb(s:kW)(v:Value)(l:List dX)(u:Value)(vs:List El)(hl:l.length<=1000)(w:World)(hs:Sl w v 10 l.length (l.flatMap kq))(ht:Sl w u 8 vs.length (vs.flatMap pM))(hsh:lm (Kw w) s)(hT:pc w):Calls Tryz.prog 96 #[.agg (qW s),v,u] w (Pure (.tuple #[.agg (iM (eA s.sh l vs).1),B (eA s.sh l vs).2]) w):=by
 have hm:=hs.small
 unfold maxLen at hm
 have Kj:=ht.small
 unfold maxLen at Kj
 refine eH func96 rfl rfl fun hH=>SR<|gO hH (v:= .agg _) rfl<|fun b3 w1 bq=>lN bq (aT fg)<|fun b6 w4 bY=>va (v:=B false) rfl<|aa<|ai<|SR<| ?_
 refine V (run_move bz) ?_
 refine aH O bY (Hw _ _ _ (hs.hp bY)) (ay call103 O)<|fun w7 eX=>V (bJ O)<|aa<|bX O (fun h11=> ?_) (fun h11=> ?_)
 .refine SR<|V (dL (vs:=[]) O (oY))<|bg eX (i:=0) O (cR O O O (eX.blk (i:=0) O))<|fun zl bV=>va (v:=B false) rfl<|aa<|aj<|EK O O O bV (i:=0) O bI O jJ ⟨?_,bV.below⟩
  (rw[apE (nt ‹(!fY l)=true›)];rfl)
 refine an<|SR<|va (v:= .slice none 0 0) rfl<|have cD:=eX.eI 37 8;aa<|ai<|SR<| ?_
 refine V (run_move bz) ?_
 refine V (aD (hs.hp cD) O ic O)<|aF (v:=I 0) rfl<|aa<|aA<|have hr:fY l=true:=nf ‹(!fY l)=false›;bt (G:=Int×(List El)×Value) (fun⟨k,st,v8⟩ s' w'=>(Fr (7::8::(10::11::(rg 18 53 []))) _ s')/\(Hp w w' (.row v8 37 8 (st.length) (st.flatMap pM)::_))/\(s' 8=v8)/\(s' 18=I k)/\(0<=k)/\(k<=l.length)/\(ir s.sh vs l k=some st)/\(jt l k=some (st.length:Int))) (fun⟨k,st,v8⟩=>(l.length-k).toNat) ((0,[],(.slice none 0 0:Value))) ⟨Fr.refl _ _,cD,rfl,rfl,J,J,rfl,yX l⟩<| ?_
 rintro⟨k,st,v8⟩ ayO Tz ⟨xd,gW,zv,Dn,h0,hk,hst,EB⟩
 obtain⟨Q7,acI,zw,auh,aui⟩:=xd.w5 2 3 6 16 17
 have hdk:=K2 h0 hk EB
 refine SR<|V (aN Dn aui)<|aa<|ai<|aG O (fun Hu=> ?_) (fun Hu=> ?_)
 .refine an<|ai<|aA<|SR<|V (ah (hs.hp gW) ic px auh Dn J)<|V (dY (dv:=bG) gS (hs.hp gW) ec O O O J)<|lN gW (aT zi)<|fun b20 Lf iC=>bg iC (i:=0) O (dK (c':=(kq _).toArray) O O O (we _) (iC.blk (i:=0) O) O)<|fun N4 cK=>aa<|SR<|V (fA ec 0 O aP O)<|lI bx cK 0 O O rfl<|aa<|aA<|SR<|V (bW O O)<|aB rfl<|aa<|aG O (fun yI=> ?_) (fun yI=> ?_)
  .refine ai<|SR<|V (fA ec 1 O aP O)<|lI bx cK 0 O O rfl<|V (aN O O)<|mB rfl<|bM 47 O (fun WJ=> ?_) (fun WJ=> ?_)
   .refine aF (v:=B true) rfl<|aa<|cz rfl<|SR<|V (dL (vs:=[]) O (oY))<|bg cK (i:=2) O (cR O zw O (cK.blk (i:=2) O))<|fun w27 iJ=>va (v:=B false) rfl<|aa<|aj<|EK O zw O iJ (i:=2) O bI O jJ ⟨?_,iJ.below⟩
    (rw[K3 h0 ‹k<_› hst ‹(List.getD l k.toNat bG).op=1› J];rfl)
   refine V (fA ec 1 O aP O)<|lI bx cK 0 O O rfl<|aF Q7<|V (aD (ht.hp cK) O bU O)<|V (dF O O)<|mB rfl<|aa<|aG O (fun Pr=> ?_) (fun Pr=> ?_)
   .refine SR<|V (dL (vs:=[]) O (oY))<|bg cK (i:=2) O (cR O zw O (cK.blk (i:=2) O))<|fun w31 ij=>va (v:=B false) rfl<|aa<|aj<|EK O zw O ij (i:=2) O bI O jJ ⟨?_,ij.below⟩
    (rw[K3 h0 ‹k<_› hst ‹(List.getD l k.toNat bG).op=1› J];rfl)
   refine an<|au<|aF zv<|aF Q7<|V (fA ec 1 O aP O)<|lI bx cK 0 O O rfl<|V (ah (ht.hp cK) bU fl O O J)<|V (gy (ht.hp cK) bI O O O J)<|ud 1 1 cK (gf bU O O O O)<|fun b35 w33 kr=> ?_
   (try simp only[lC]at kr)
   refine gh O kr (i:=2) O (Hp.gR cY kr (i:=0) (l:=[_]) O fT) O O bU O O (size:=8) (bytes:=64) O O O az (gV _) Se af8<|fun v36 w37 uG=> ?_
   refine V (run_assign bz) ?_
   refine aa<|au<|V (ax Dn O J)<|mI rfl<|aa<| ?_
   refine⟨(k+1,st++[vs.getD (l.getD k.toNat bG).n.toNat df],v36),aX,xd.u4.u4.u4.u4.u4.u4.u4.u1,(Hp.conv (uG.sub (sQ (sQ sR))) Ik),rfl,(aK I aM),J,J,?_,?_⟩
   .exact ahP h0 ‹k<_› hst ‹(List.getD l k.toNat bG).op=1› ⟨J,J⟩
   (rw[ja h0 ‹k<_›,EB,u5 (.inl ‹(List.getD l k.toNat bG).op=1›)];simp;done)
  refine SR<|V (bW O O)<|aB rfl<|aa<|aG O (fun h40=> ?_) (fun h40=> ?_)
  .refine au<|aF zv<|V (fA ec 2 O fl O)<|V (nN bI O O O (cK.blk (i:=0) O) (D2 _))<|ud 1 1 cK (gf bU O O O O)<|fun b43 w41 q5=> ?_
   (try simp only[lC]at q5)
   refine gh O q5 (i:=2) O (Hp.gR cY q5 (i:=0) (l:=[_]) O fT) O O bU O O (size:=8) (bytes:=64) O O O az (gV _) Se af8<|fun v44 w45 oq=> ?_
   refine V (run_assign bz) ?_
   refine aa<|au<|V (ax Dn O J)<|mI rfl<|aa<| ?_
   refine⟨(k+1,st++[(l.getD k.toNat bG).c],v44),aX,xd.u4.u4.u4.u4.u1.u1,(Hp.conv (oq.sub (sQ (sQ sR))) Ik),rfl,(aK I aM),J,J,?_,?_⟩
   .exact amX h0 ‹k<_› hst ‹(List.getD l k.toNat bG).op=2›
   (rw[ja h0 ‹k<_›,EB,u5 (.inr ‹(List.getD l k.toNat bG).op=2›)];simp;done)
  refine SR<|aF zv<|V (aD (cK.sl (i:=1) O) O bU O)<|V (fA ec 1 O aP O)<|lI bx cK 0 O O rfl<|V (eS O O (by have hq:=(fW hr h0 ‹k<_› EB ‹¬(List.getD l k.toNat bG).op=1› ‹¬(List.getD l k.toNat bG).op=2›);omega))<|aI rfl<|aa<|have hpo:=(fW hr h0 ‹k<_› EB ‹¬(List.getD l k.toNat bG).op=1› ‹¬(List.getD l k.toNat bG).op=2›);fX aQ cK (sP (sQ sR))<|fun w47 jR=>have Xc:=jR.sub (sP (sQ sR));AQ 0 O Xc (run_move zv)<|AQ 1 O Xc (mV (I _) O)<|AQ 2 O Xc (mV (I _) O)<|AT 4 O Xc (fun w hS=>cC (cs:=[B _,_]) dw O O acI (bj (hS.blk (i:=2) O)))<|AQ 5 O Xc (fA ec 0 O aP O)<|tI 6 O Xc bx 0 O O rfl<|AQ 7 O Xc (run_move zv)<|AQ 8 O Xc (mV (I _) O)<|gj 3 9 aQ ?_ ?_
  .refine cf O aC O jR (sP (sQ sR)) (wj (jR.sl (i:=1) O) bU fl O O O J)<|A1 9<|cf O aC O jR (sP (sQ sR)) (gD (jR.sl (i:=1) O) bU fl O O J)<|A1 10<|cm O aC O jR (sP (sQ sR)) (Dm s (l.getD k.toNat bG).op _ (st.drop ((st.length:Int)-(l.getD k.toNat bG).n).toNat) LY _ (Sl.frE cY (jR.sl (i:=1) O) _ J) (hsh.mono jR.kw) (hT.hp jR)) (bA call139 O O O)<|fun w53 gU=>A1 11<|cB O aC O gU (sP (sQ sR)) (f:=fun b=> .slice (some ⟨b,0,none⟩) 1 1) (gf bU O O O O)<|fun b57 w55 nu=> ?_
   (try simp only[lC]at nu)
   refine A1 12<|SY O aC O nu (j:=2) O (q:=(((st.length:Int)-(l.getD k.toNat bG).n)).toNat) J (fun _=>(sQ (sP (sQ sR)))) (Hp.gR cY nu (i:=0) (l:=[_]) O fT) O O bU O O (size:=8) (bytes:=64) O O O aJ RY RX<|fun v60 w61 sj=> ?_
   refine AQ 13 O (sj.sub (sQ (sP (sQ sR)))) (run_assign bz) ?_
   refine AD<|au<|V (ax Dn O J)<|mI rfl<|aa<| ?_
   refine⟨(k+1,st.take ((st.length:Int)-(l.getD k.toNat bG).n).toNat++[pT (Kf s.sh (l.getD k.toNat bG).op) (st.drop ((st.length:Int)-(l.getD k.toNat bG).n).toNat)],v60),aX,xd.u4.u4.u4.u4.u4.u4.u4.u4,(Hp.conv (sj.sub (sQ (sQ sR))) R2),rfl,(aK I aM),J,J,?_,?_⟩
   .exact Bm h0 ‹k<_› hst ‹¬(List.getD l k.toNat bG).op=1› ‹¬(List.getD l k.toNat bG).op=2› O xh
   (have hq:=(fW hr h0 ‹k<_› EB ‹¬(List.getD l k.toNat bG).op=1› ‹¬(List.getD l k.toNat bG).op=2›);rw[hq.2.2,ed,ef,ey];congr 1<;>omega)
  refine cf O aC O jR (sP (sQ sR)) (gD (jR.sl (i:=1) O) bU fl O O J)<|gj 3 10 aQ ?_ ?_
  .refine cf O aC O jR (sP (sQ sR)) (wj (jR.sl (i:=1) O) bU fl O O O J)<|A1 10<|cm O aC O jR (sP (sQ sR)) (Dm s (l.getD k.toNat bG).op _ (st.drop ((st.length:Int)-(l.getD k.toNat bG).n).toNat) LY _ (Sl.frE cY (jR.sl (i:=1) O) _ J) (hsh.mono jR.kw) (hT.hp jR)) (bA call139 O O O)<|fun w67 kJ=>A1 11<|cB O aC O kJ (sP (sQ sR)) (f:=fun b=> .slice (some ⟨b,0,none⟩) 1 1) (gf bU O O O O)<|fun b71 w69 wI=> ?_
   (try simp only[lC]at wI)
   refine A1 12<|SY O aC O wI (j:=2) O (q:=(((st.length:Int)-(l.getD k.toNat bG).n)).toNat) J (fun _=>(sQ (sP (sQ sR)))) (Hp.gR cY wI (i:=0) (l:=[_]) O fT) O O bU O O (size:=8) (bytes:=64) O O O aJ RY RX<|fun v74 w75 oQ=> ?_
   refine AQ 13 O (oQ.sub (sQ (sP (sQ sR)))) (run_assign bz) ?_
   refine AD<|au<|V (ax Dn O J)<|mI rfl<|aa<| ?_
   refine⟨(k+1,st.take ((st.length:Int)-(l.getD k.toNat bG).n).toNat++[pT (Kf s.sh (l.getD k.toNat bG).op) (st.drop ((st.length:Int)-(l.getD k.toNat bG).n).toNat)],v74),aX,xd.u4.u4.u4.u4.u4.u4.u4.u4,(Hp.conv (oQ.sub (sQ (sQ sR))) R2),rfl,(aK I aM),J,J,?_,?_⟩
   .exact Bm h0 ‹k<_› hst ‹¬(List.getD l k.toNat bG).op=1› ‹¬(List.getD l k.toNat bG).op=2› O xh
   (have hq:=(fW hr h0 ‹k<_› EB ‹¬(List.getD l k.toNat bG).op=1› ‹¬(List.getD l k.toNat bG).op=2›);rw[hq.2.2,ed,ef,ey];congr 1<;>omega)
  refine cm O aC O jR (sP (sQ sR)) (Dm s (l.getD k.toNat bG).op _ (st.drop ((st.length:Int)-(l.getD k.toNat bG).n).toNat) LY _ (Sl.frE cY (jR.sl (i:=1) O) _ J) (hsh.mono jR.kw) (hT.hp jR)) (bA call139 O O O)<|fun w77 zx=>gj 3 11 aQ ?_ ?_
  .refine cf O aC O zx (sP (sQ sR)) (wj (zx.sl (i:=1) O) bU fl O O O J)<|A1 11<|cB O aC O zx (sP (sQ sR)) (f:=fun b=> .slice (some ⟨b,0,none⟩) 1 1) (gf bU O O O O)<|fun b83 w81 o5=> ?_
   (try simp only[lC]at o5)
   refine A1 12<|SY O aC O o5 (j:=2) O (q:=(((st.length:Int)-(l.getD k.toNat bG).n)).toNat) J (fun _=>(sQ (sP (sQ sR)))) (Hp.gR cY o5 (i:=0) (l:=[_]) O fT) O O bU O O (size:=8) (bytes:=64) O O O aJ RY RX<|fun v86 w87 zu=> ?_
   refine AQ 13 O (zu.sub (sQ (sP (sQ sR)))) (run_assign bz) ?_
   refine AD<|au<|V (ax Dn O J)<|mI rfl<|aa<| ?_
   refine⟨(k+1,st.take ((st.length:Int)-(l.getD k.toNat bG).n).toNat++[pT (Kf s.sh (l.getD k.toNat bG).op) (st.drop ((st.length:Int)-(l.getD k.toNat bG).n).toNat)],v86),aX,xd.u4.u4.u4.u4.u4.u4.u4.u4,(Hp.conv (zu.sub (sQ (sQ sR))) R2),rfl,(aK I aM),J,J,?_,?_⟩
   .exact Bm h0 ‹k<_› hst ‹¬(List.getD l k.toNat bG).op=1› ‹¬(List.getD l k.toNat bG).op=2› O xh
   (have hq:=(fW hr h0 ‹k<_› EB ‹¬(List.getD l k.toNat bG).op=1› ‹¬(List.getD l k.toNat bG).op=2›);rw[hq.2.2,ed,ef,ey];congr 1<;>omega)
  refine cB O aC O zx (sP (sQ sR)) (f:=fun b=> .slice (some ⟨b,0,none⟩) 1 1) (gf bU O O O O)<|fun b91 w89 nZ=> ?_
  (try simp only[lC]at nZ)
  refine A1 3<|cf O aC O nZ (sQ (sP (sQ sR))) (wj (nZ.sl (i:=2) O) bU fl O O O J)<|A1 12<|SY O aC O nZ (j:=2) O (q:=(((st.length:Int)-(l.getD k.toNat bG).n)).toNat) J (fun _=>(sQ (sP (sQ sR)))) (Hp.gR cY nZ (i:=0) (l:=[_]) O fT) O O bU O O (size:=8) (bytes:=64) O O O aJ RY RX<|fun v96 w97 Ow=> ?_
  refine AQ 13 O (Ow.sub (sQ (sP (sQ sR)))) (run_assign bz) ?_
  refine AD<|au<|V (ax Dn O J)<|mI rfl<|aa<| ?_
  refine⟨(k+1,st.take ((st.length:Int)-(l.getD k.toNat bG).n).toNat++[pT (Kf s.sh (l.getD k.toNat bG).op) (st.drop ((st.length:Int)-(l.getD k.toNat bG).n).toNat)],v96),aX,xd.u4.u4.u4.u4.u4.u4.u4.u4,(Hp.conv (Ow.sub (sQ (sQ sR))) R2),rfl,(aK I aM),J,J,?_,?_⟩
  .exact Bm h0 ‹k<_› hst ‹¬(List.getD l k.toNat bG).op=1› ‹¬(List.getD l k.toNat bG).op=2› O xh
  (have hq:=(fW hr h0 ‹k<_› EB ‹¬(List.getD l k.toNat bG).op=1› ‹¬(List.getD l k.toNat bG).op=2›);rw[hq.2.2,ed,ef,ey];congr 1<;>omega)
 refine a8 (id:=0) rfl<|SR<|aF zv<|V (ah (gW.sl (i:=0) O) bU fl O O R9)<|V (gy (gW.sl (i:=0) O) bI O O O R9)<|bg gW (i:=1) O (cR O zw O (gW.blk (i:=1) O))<|fun w99 wJ=>va (v:=B true) rfl<|aa<|aj<|EK O zw O wJ (i:=1) O bI O jJ ⟨?_,wJ.below⟩
 (rw[Nb hr hk ‹¬k<_› hst];rfl)
set_option maxHeartbeats 2000000 in
theorem n4(s:kW)(v:Value)(l:List dX)(u:Value)(vs:List El)(hl:l.length<=1000)(w:World)(hs:Sl w v 10 l.length (l.flatMap kq))(ht:Sl w u 8 vs.length (vs.flatMap pM))(hsh:lm (Kw w) s):Calls Tryz.prog 38 #[.agg (qW s),v,u] w (Pure (.tuple #[.agg (iM (eA s.sh l vs).1),B (eA s.sh l vs).2]) w):=by
 have hm:=hs.small
 unfold maxLen at hm
 have Kj:=ht.small
 unfold maxLen at Kj
 refine eH func38 rfl rfl fun hH=>SR<|gO hH (v:= .agg _) rfl<|fun b3 w1 bq=>lN bq (aT fg)<|fun b6 w4 bY=>va (v:=B false) rfl<|aa<|SR<|va (v:= .slice none 0 0) rfl<|have eE:=bY.eI 37 8;aa<|ai<|SR<| ?_
 refine V (run_move bz) ?_
 refine aH O eE (rV _ _ _ (hs.hp eE)) (ay call78 O)<|fun w8 iD=>V (bJ O)<|aa<|bX O (fun h12=> ?_) (fun h12=> ?_)
 .refine SR<|V (dL (vs:=[]) O (oY))<|bg iD (i:=1) O (cR O O O (iD.blk (i:=1) O))<|fun BR cD=> ?_
  simp only[z2,dm,pull]at cD
  refine va (v:=B false) rfl<|aa<|aj<|EK O O O cD (i:=1) O bI O jJ ⟨?_,cD.below⟩
  (rw[apE (nt ‹(!fY l)=true›)];rfl)
 refine an<|ai<|SR<|va (v:=I 0) rfl<|aa<|aA<|have hr:fY l=true:=nf ‹(!fY l)=false›;bt (G:=Int×(List El)×Value) (fun⟨k,st,v8⟩ s' w'=>(Fr (rg 7 6 (rg 17 86 [])) _ s')/\(Hp w w' (.row v8 37 8 (st.length) (st.flatMap pM)::_))/\(s' 8=v8)/\(s' 9=I k)/\(0<=k)/\(k<=l.length)/\(ir s.sh vs l k=some st)/\(jt l k=some (st.length:Int))) (fun⟨k,st,v8⟩=>(l.length-k).toNat) ((0,[],(.slice none 0 0:Value))) ⟨Fr.refl _ _,iD,rfl,rfl,J,J,rfl,yX l⟩<| ?_
 rintro⟨k,st,v8⟩ ayO Tz ⟨xd,gW,zv,Xd,h0,hk,hst,EB⟩
 obtain⟨Xe,Q7,acI,zw⟩:=xd.w4 1 2 3 6
 have hdk:=K2 h0 hk EB
 refine ai<|SR<|aF Xd<|aF Xe<|V (aD (hs.hp gW) O ic O)<|V (aN O O)<|aa<|aG O (fun Hu=> ?_) (fun Hu=> ?_)
 .refine an<|ai<|aA<|SR<|aF Xe<|aF Xd<|V (ah (hs.hp gW) ic px O O J)<|V (dY (dv:=bG) gS (hs.hp gW) ec O O O J)<|lN gW (aT zi)<|fun b20 Lf iC=>bg iC (i:=0) O (dK (c':=(kq _).toArray) O O O (we _) (iC.blk (i:=0) O) O)<|fun N4 cK=> ?_
  simp only[z2,dm,pull]at cK
  refine aa<|SR<|V (fA ec 0 O aP O)<|lI bx cK 0 O O rfl<|V (bW O O)<|aa<|aG O (fun yI=> ?_) (fun yI=> ?_)
  .refine au<|aF zv<|V (fA ec 2 O fl O)<|V (nN bI O O O (cK.blk (i:=0) O) (D2 _))<|ud 1 1 cK (gf bU O O O O)<|fun b27 w25 jy=> ?_
   (try simp only[lC]at jy)
   refine gh O jy (i:=2) O (Hp.gR cY jy (i:=0) (l:=[_]) O fT) O O bU O O (size:=8) (bytes:=64) O O O az (gV _) Se af0<|fun v28 w29 iU=> ?_
   simp only[z2,dm,pull]at iU
   refine V (run_assign bz) ?_
   refine aa<|au<|aF Xd<|V (ax O O J)<|aI rfl<|aa<| ?_
   refine⟨(k+1,st++[(l.getD k.toNat bG).c],v28),aX,xd.u4.u4.u4.u4.u4.u1,(Hp.conv (iU.sub (sQ (sQ sR))) Ik),rfl,(aK I aM),J,J,?_,?_⟩
   .exact amX h0 ‹k<_› hst ‹(List.getD l k.toNat bG).op=2›
   (rw[ja h0 ‹k<_›,EB,u5 (.inr ‹(List.getD l k.toNat bG).op=2›)];simp;done)
  refine SR<|V (fA ec 0 O aP O)<|lI bx cK 0 O O rfl<|V (bW O O)<|aa<|aG O (fun BZ=> ?_) (fun BZ=> ?_)
  .refine ai<|SR<|V (fA ec 1 O aP O)<|lI bx cK 0 O O rfl<|V (aN O O)<|mB rfl<|bM 41 O (fun h34=> ?_) (fun h34=> ?_)
   .refine aF (v:=B true) rfl<|aa<|cz rfl<|SR<|V (dL (vs:=[]) O (oY))<|bg cK (i:=2) O (cR O zw O (cK.blk (i:=2) O))<|fun w35 j8=> ?_
    simp only[z2,dm,pull]at j8
    refine va (v:=B false) rfl<|aa<|aj<|EK O zw O j8 (i:=2) O bI O jJ ⟨?_,j8.below⟩
    (rw[K3 h0 ‹k<_› hst ‹(List.getD l k.toNat bG).op=1› J];rfl)
   refine V (fA ec 1 O aP O)<|lI bx cK 0 O O rfl<|aF Q7<|V (aD (ht.hp cK) O bU O)<|V (dF O O)<|mB rfl<|aa<|aG O (fun h38=> ?_) (fun h38=> ?_)
   .refine SR<|V (dL (vs:=[]) O (oY))<|bg cK (i:=2) O (cR O zw O (cK.blk (i:=2) O))<|fun w39 lO=> ?_
    simp only[z2,dm,pull]at lO
    refine va (v:=B false) rfl<|aa<|aj<|EK O zw O lO (i:=2) O bI O jJ ⟨?_,lO.below⟩
    (rw[K3 h0 ‹k<_› hst ‹(List.getD l k.toNat bG).op=1› J];rfl)
   refine an<|au<|aF zv<|aF Q7<|V (fA ec 1 O aP O)<|lI bx cK 0 O O rfl<|V (ah (ht.hp cK) bU fl O O J)<|V (gy (ht.hp cK) bI O O O J)<|ud 1 1 cK (gf bU O O O O)<|fun b43 w41 q5=> ?_
   (try simp only[lC]at q5)
   refine gh O q5 (i:=2) O (Hp.gR cY q5 (i:=0) (l:=[_]) O fT) O O bU O O (size:=8) (bytes:=64) O O O az (gV _) Se af0<|fun v44 w45 oq=> ?_
   simp only[z2,dm,pull]at oq
   refine V (run_assign bz) ?_
   refine aa<|au<|aF Xd<|V (ax O O J)<|aI rfl<|aa<| ?_
   refine⟨(k+1,st++[vs.getD (l.getD k.toNat bG).n.toNat df],v44),aX,xd.u4.u4.u4.u4.u4.u4.u4.u4.u4.u1,(Hp.conv (oq.sub (sQ (sQ sR))) Ik),rfl,(aK I aM),J,J,?_,?_⟩
   .exact ahP h0 ‹k<_› hst ‹(List.getD l k.toNat bG).op=1› ⟨J,J⟩
   (rw[ja h0 ‹k<_›,EB,u5 (.inl ‹(List.getD l k.toNat bG).op=1›)];simp;done)
  refine SR<|aF zv<|aF zv<|V (aD (cK.sl (i:=1) O) O bU O)<|V (eS O O J)<|V (ah (cK.sl (i:=1) O) bU fl O O xh)<|V (gy (cK.sl (i:=1) O) bI O O O xh)<|lN cK (aT fg)<|fun b49 w47 jR=>bg jR (i:=0) O (cR O O O (jR.blk (i:=0) O))<|fun w50 qy=> ?_
  simp only[z2,dm,pull]at qy
  refine aa<|ai<|SR<|va (v:=I 2) rfl<|aa<|aA<|have hpo:=(fW hr h0 ‹k<_› EB ‹¬(List.getD l k.toNat bG).op=1› ‹¬(List.getD l k.toNat bG).op=2›);bt (G:=Int×El) (fun⟨j,e1⟩ s' w'=>(Fr (12::(rg 63 28 [])) _ s')/\(Hp w w' (.blk b49 (.cells (iM e1) 37 (0,0))::_))/\(s' 12=I j)/\(2<=j)/\(j<=(l.getD k.toNat bG).n+1)/\(e1=pT (Kf s.sh (l.getD k.toNat bG).op) (st.drop ((st.length:Int)-(j-1)).toNat))) (fun⟨j,e1⟩=>((l.getD k.toNat bG).n+1-j).toNat) ((2,(st.getD ((st.length:Int)-1).toNat df))) ⟨Fr.refl _ _,qy,rfl,J,J,(by rw[show((st.length:Int)-(2-1)).toNat=st.length-1 by omega,Na (by intro h;rw[h]at hpo;simp at hpo;omega)];congr 1;omega)⟩<| ?_
  rintro⟨j,e1⟩ aOp w52 ⟨Kx,B0,OA,j0,jk,he⟩
  obtain⟨aaF,OB⟩:=Kx.w2 10 11
  obtain⟨ayQ,Q8,JY⟩:=Kx.t3 3 acI 8 zv 9 Xd
  refine ai<|SR<|aF OA<|V (fA ec 1 O aP aaF)<|lI bx B0 1 O O rfl<|V (xj O O)<|aa<|aG O (fun h54=> ?_) (fun h54=> ?_)
  .refine an<|ai<|aA<|SR<|V (fA ec 0 O aP aaF)<|lI bx B0 1 O O rfl<|V (bW O O)<|aa<|aG O (fun Hx=> ?_) (fun Hx=> ?_)
   .refine fX aQ B0 (sQ sR)<|fun w57 oP=>have Xf:=oP.sub (sQ sR);AT 0 O Xf (fun w hS=>cC (cs:=[B _,_]) dw O O ayQ (bj (hS.blk (i:=3) O)))<|AQ 1 O Xf (run_move Q8)<|AQ 2 O Xf (run_move Q8)<|AT 3 O Xf (fun w hS=>aD (hS.sl (i:=1) O) O bU O)<|AQ 4 O Xf (run_move OA)<|AQ 5 O Xf (eS O O J)<|AT 6 O Xf (fun w hS=>ah (hS.sl (i:=1) O) bU fl O O J)<|AT 7 O Xf (fun w hS=>gy (hS.sl (i:=1) O) bI O O O J)<|A1 8<|cf O aC O oP (sQ sR) (cN bI O O OB (oP.blk (i:=0) O))<|A1 9<|cm O aC O oP (sQ sR) (sC _ _ _ _ (hsh.mono oP.kw)) (bA call39 O O O)<|fun w61 sj=>A1 10<|dW O aC sj (j:=0) O (sQ sR) (cR O OB O (sj.blk (i:=0) O))<|fun w65 aou=> ?_
    simp only[z2,dm,pull]at aou
    refine AD<|au<|aF OA<|V (ax O O J)<|aI rfl<|aa<| ?_
    refine⟨(j+1,_),aX,Kx.u4.u4.u4.u4.u4,aou,(aK I aM),J,J,?_⟩
    (rw[show((st.length:Int)-(j+1-1)).toNat=((st.length:Int)-j).toNat by omega,K4 J J,show((st.length:Int)-j+1).toNat=((st.length:Int)-(j-1)).toNat by omega,<-he];exact apF ‹(List.getD l k.toNat bG).op=3›)
   refine fX aQ B0 (sQ sR)<|fun w67 kJ=>have TP:=kJ.sub (sQ sR);AQ 0 O TP (run_move Q8)<|AQ 1 O TP (run_move Q8)<|AT 2 O TP (fun w hS=>aD (hS.sl (i:=1) O) O bU O)<|AQ 3 O TP (run_move OA)<|AQ 4 O TP (eS O O J)<|AT 5 O TP (fun w hS=>ah (hS.sl (i:=1) O) bU fl O O J)<|AT 6 O TP (fun w hS=>gy (hS.sl (i:=1) O) bI O O O J)<|A1 7<|cf O aC O kJ (sQ sR) (cN bI O O OB (kJ.blk (i:=0) O))<|A1 8<|cm O aC O kJ (sQ sR) (BY _ _ _) (aL call82 O O)<|fun w71 Jn=>A1 9<|dW O aC Jn (j:=0) O (sQ sR) (cR O OB O (Jn.blk (i:=0) O))<|fun w75 oQ=> ?_
   simp only[z2,dm,pull]at oQ
   refine AD<|au<|aF OA<|V (ax O O J)<|aI rfl<|aa<| ?_
   refine⟨(j+1,_),aX,Kx.u4.u4.u4.u4.u1.u1.u1,oQ,(aK I aM),J,J,?_⟩
   (rw[show((st.length:Int)-(j+1-1)).toNat=((st.length:Int)-j).toNat by omega,K4 J J,show((st.length:Int)-j+1).toNat=((st.length:Int)-(j-1)).toNat by omega,<-he];exact apG ‹¬(List.getD l k.toNat bG).op=3›)
  refine a8 (id:=2) rfl<|have he3:e1=pT (Kf s.sh (l.getD k.toNat bG).op) (st.drop ((st.length:Int)-(l.getD k.toNat bG).n).toNat):=(by rw[he];congr 2;omega);ew aQ B0<|fun w77 zx=>have Dp:=zx;AQ 1 O Dp (run_move Q8)<|AQ 2 O Dp (run_move Q8)<|AT 3 O Dp (fun w hS=>aD (hS.sl (i:=2) O) O bU O)<|AQ 4 O Dp (fA ec 1 O aP aaF)<|tI 5 O Dp bx 1 O O rfl<|AQ 6 O Dp (eS O O J)<|AT 9 O Dp (fun w hS=>cN bI O O OB (hS.blk (i:=0) O))<|asf 0 7 10 aQ ?_ ?_ ?_
  .refine cB O aC O zx sR (f:=fun b=> .slice (some ⟨b,0,none⟩) 0 0) (tj bU fl)<|fun b81 w79 pL=> ?_
   (try simp only[lC]at pL)
   have o5:=pL.sM 0 8 O az
   refine gj 7 10 aQ ?_ ?_
   .refine cf O aC O o5 (sQ sR) (rD (o5.sl (i:=3) O) bU fl O O J)<|gj 8 10 aQ ?_ ?_
    .refine fB O aC O o5 (j:=0) O (fun _=>(sQ sR)) ((o5.sl (i:=3) O).cut _ (by(have:=(fW hr h0 ‹k<_› EB ‹¬(List.getD l k.toNat bG).op=1› ‹¬(List.getD l k.toNat bG).op=2›);omega))) O O bU O O (size:=8) (bytes:=64) O O O az (fun u hu=>gV st u (uK hu)) J iA<|fun v87 w85 uH=> ?_
     simp only[z2,dm,pull]at uH
     refine A1 10<|cB O aC O uH (sQ sR) (f:=fun b=> .slice (some ⟨b,0,none⟩) 1 1) (gf bU O O O O)<|fun b90 w88 Jp=> ?_
     (try simp only[lC]at Jp)
     refine A1 11<|fB O aC O Jp (j:=1) O (fun _=>(sQ (sQ sR))) (Hp.gR cY Jp (i:=0) (l:=[_]) O fT) O O bU O O (size:=8) (bytes:=64) O O O az (gV _) Cq Cp<|fun v93 w91 Jo=> ?_
     simp only[z2,dm,pull]at Jo
     refine AQ 12 O (Jo.sub (sQ (sQ sR))) (run_assign bz) ?_
     refine AD<|au<|aF JY<|V (ax O O J)<|aI rfl<|aa<|have uI:=Hp.swap (Jo.perm (((pC pR).trans pS).trans (pC pR))) (i:=3) ya;?_
     simp only[z2,dm,pull]at uI
     refine⟨(k+1,st.take ((st.length:Int)-(l.getD k.toNat bG).n).toNat++[e1],v93),aX,(((xd.u4.u4.u4.u4.u4.u1.u1.u1).t Kx O)).u4.u4.u4.u4.u4,(Hp.conv (uI.sub (sQ (sQ (sQ sR)))) afW),rfl,(aK I aM),J,J,?_,?_⟩
     ·(rw[he3];exact Bm h0 ‹k<_› hst ‹¬(List.getD l k.toNat bG).op=1› ‹¬(List.getD l k.toNat bG).op=2› O xh)
     (have hq:=(fW hr h0 ‹k<_› EB ‹¬(List.getD l k.toNat bG).op=1› ‹¬(List.getD l k.toNat bG).op=2›);rw[hq.2.2,ed,ef,ey];congr 1<;>omega)
    refine cB O aC O o5 (sQ sR) (f:=fun b=> .slice (some ⟨b,0,none⟩) 1 1) (gf bU O O O O)<|fun b97 w95 qc=> ?_
    (try simp only[lC]at qc)
    refine A1 8<|fB O aC O qc (j:=1) O (fun _=>(sQ (sQ sR))) ((qc.sl (i:=4) O).cut _ (by(have:=(fW hr h0 ‹k<_› EB ‹¬(List.getD l k.toNat bG).op=1› ‹¬(List.getD l k.toNat bG).op=2›);omega))) O O bU O O (size:=8) (bytes:=64) O O O az (fun u hu=>gV st u (uK hu)) J iA<|fun aFK w98 PD=> ?_
    simp only[z2,dm,pull]at PD
    refine A1 11<|fB O aC O PD (j:=1) O (fun _=>(sQ (sQ sR))) (Hp.gR cY PD (i:=0) (l:=[_]) O fT) O O bU O O (size:=8) (bytes:=64) O O O az (gV _) Cq Cp<|fun aFL ae4 qd=> ?_
    simp only[z2,dm,pull]at qd
    refine AQ 12 O (qd.sub (sQ (sQ sR))) (run_assign bz) ?_
    refine AD<|au<|aF JY<|V (ax O O J)<|aI rfl<|aa<|have BB:=Hp.swap (qd.perm (((pC pR).trans pS).trans (pC pR))) (i:=3) ya;?_
    simp only[z2,dm,pull]at BB
    refine⟨(k+1,st.take ((st.length:Int)-(l.getD k.toNat bG).n).toNat++[e1],aFL),aX,(((xd.u4.u4.u4.u4.u4.u1.u1.u1).t Kx O)).u4.u4.u4.u4.u4,(Hp.conv (BB.sub (sQ (sQ (sQ sR)))) Ia),rfl,(aK I aM),J,J,?_,?_⟩
    ·(rw[he3];exact Bm h0 ‹k<_› hst ‹¬(List.getD l k.toNat bG).op=1› ‹¬(List.getD l k.toNat bG).op=2› O xh)
    (have hq:=(fW hr h0 ‹k<_› EB ‹¬(List.getD l k.toNat bG).op=1› ‹¬(List.getD l k.toNat bG).op=2›);rw[hq.2.2,ed,ef,ey];congr 1<;>omega)
   refine cB O aC O o5 (sQ sR) (f:=fun b=> .slice (some ⟨b,0,none⟩) 1 1) (gf bU O O O O)<|fun ayR aow ny=> ?_
   (try simp only[lC]at ny)
   refine A1 7<|cf O aC O ny (sQ (sQ sR)) (rD (ny.sl (i:=4) O) bU fl O O J)<|A1 8<|fB O aC O ny (j:=1) O (fun _=>(sQ (sQ sR))) ((ny.sl (i:=4) O).cut _ (by(have:=(fW hr h0 ‹k<_› EB ‹¬(List.getD l k.toNat bG).op=1› ‹¬(List.getD l k.toNat bG).op=2›);omega))) O O bU O O (size:=8) (bytes:=64) O O O az (fun u hu=>gV st u (uK hu)) J iA<|fun aOr aFM Hz=> ?_
   simp only[z2,dm,pull]at Hz
   refine A1 11<|fB O aC O Hz (j:=1) O (fun _=>(sQ (sQ sR))) (Hp.gR cY Hz (i:=0) (l:=[_]) O fT) O O bU O O (size:=8) (bytes:=64) O O O az (gV _) Cq Cp<|fun aFN ayS xJ=> ?_
   simp only[z2,dm,pull]at xJ
   refine AQ 12 O (xJ.sub (sQ (sQ sR))) (run_assign bz) ?_
   refine AD<|au<|aF JY<|V (ax O O J)<|aI rfl<|aa<|have zy:=Hp.swap (xJ.perm (((pC pR).trans pS).trans (pC pR))) (i:=3) ya;?_
   simp only[z2,dm,pull]at zy
   refine⟨(k+1,st.take ((st.length:Int)-(l.getD k.toNat bG).n).toNat++[e1],aFN),aX,(((xd.u4.u4.u4.u4.u4.u1.u1.u1).t Kx O)).u4.u4.u4.u4.u4,(Hp.conv (zy.sub (sQ (sQ (sQ sR)))) Ia),rfl,(aK I aM),J,J,?_,?_⟩
   ·(rw[he3];exact Bm h0 ‹k<_› hst ‹¬(List.getD l k.toNat bG).op=1› ‹¬(List.getD l k.toNat bG).op=2› O xh)
   (have hq:=(fW hr h0 ‹k<_› EB ‹¬(List.getD l k.toNat bG).op=1› ‹¬(List.getD l k.toNat bG).op=2›);rw[hq.2.2,ed,ef,ey];congr 1<;>omega)
  .refine cf O aC O zx sR (rD (zx.sl (i:=2) O) bU fl O O J)<|gj 0 10 aQ ?_ ?_
   .refine cB O aC O zx sR (f:=fun b=> .slice (some ⟨b,0,none⟩) 0 0) (tj bU fl)<|fun aOs aFO E2=> ?_
    (try simp only[lC]at E2)
    have OC:=E2.sM 0 8 O az
    refine gj 8 10 aQ ?_ ?_
    .refine fB O aC O OC (j:=0) O (fun _=>(sQ sR)) ((OC.sl (i:=3) O).cut _ (by(have:=(fW hr h0 ‹k<_› EB ‹¬(List.getD l k.toNat bG).op=1› ‹¬(List.getD l k.toNat bG).op=2›);omega))) O O bU O O (size:=8) (bytes:=64) O O O az (fun u hu=>gV st u (uK hu)) J iA<|fun aOt aox oe=> ?_
     simp only[z2,dm,pull]at oe
     refine A1 10<|cB O aC O oe (sQ sR) (f:=fun b=> .slice (some ⟨b,0,none⟩) 1 1) (gf bU O O O O)<|fun akk ayT JZ=> ?_
     (try simp only[lC]at JZ)
     refine A1 11<|fB O aC O JZ (j:=1) O (fun _=>(sQ (sQ sR))) (Hp.gR cY JZ (i:=0) (l:=[_]) O fT) O O bU O O (size:=8) (bytes:=64) O O O az (gV _) Cq Cp<|fun v131 aOu akl=> ?_
     simp only[z2,dm,pull]at akl
     refine AQ 12 O (akl.sub (sQ (sQ sR))) (run_assign bz) ?_
     refine AD<|au<|aF JY<|V (ax O O J)<|aI rfl<|aa<|have BC:=Hp.swap (akl.perm (((pC pR).trans pS).trans (pC pR))) (i:=3) ya;?_
     simp only[z2,dm,pull]at BC
     refine⟨(k+1,st.take ((st.length:Int)-(l.getD k.toNat bG).n).toNat++[e1],v131),aX,(((xd.u4.u4.u4.u4.u4.u1.u1.u1).t Kx O)).u4.u4.u4.u4.u4,(Hp.conv (BC.sub (sQ (sQ (sQ sR)))) afW),rfl,(aK I aM),J,J,?_,?_⟩
     ·(rw[he3];exact Bm h0 ‹k<_› hst ‹¬(List.getD l k.toNat bG).op=1› ‹¬(List.getD l k.toNat bG).op=2› O xh)
     (have hq:=(fW hr h0 ‹k<_› EB ‹¬(List.getD l k.toNat bG).op=1› ‹¬(List.getD l k.toNat bG).op=2›);rw[hq.2.2,ed,ef,ey];congr 1<;>omega)
    refine cB O aC O OC (sQ sR) (f:=fun b=> .slice (some ⟨b,0,none⟩) 1 1) (gf bU O O O O)<|fun aOv auj Dq=> ?_
    (try simp only[lC]at Dq)
    refine A1 8<|fB O aC O Dq (j:=1) O (fun _=>(sQ (sQ sR))) ((Dq.sl (i:=4) O).cut _ (by(have:=(fW hr h0 ‹k<_› EB ‹¬(List.getD l k.toNat bG).op=1› ‹¬(List.getD l k.toNat bG).op=2›);omega))) O O bU O O (size:=8) (bytes:=64) O O O az (fun u hu=>gV st u (uK hu)) J iA<|fun v138 aOw akm=> ?_
    simp only[z2,dm,pull]at akm
    refine A1 11<|fB O aC O akm (j:=1) O (fun _=>(sQ (sQ sR))) (Hp.gR cY akm (i:=0) (l:=[_]) O fT) O O bU O O (size:=8) (bytes:=64) O O O az (gV _) Cq Cp<|fun v141 aFP Q9=> ?_
    simp only[z2,dm,pull]at Q9
    refine AQ 12 O (Q9.sub (sQ (sQ sR))) (run_assign bz) ?_
    refine AD<|au<|aF JY<|V (ax O O J)<|aI rfl<|aa<|have og:=Hp.swap (Q9.perm (((pC pR).trans pS).trans (pC pR))) (i:=3) ya;?_
    simp only[z2,dm,pull]at og
    refine⟨(k+1,st.take ((st.length:Int)-(l.getD k.toNat bG).n).toNat++[e1],v141),aX,(((xd.u4.u4.u4.u4.u4.u1.u1.u1).t Kx O)).u4.u4.u4.u4.u4,(Hp.conv (og.sub (sQ (sQ (sQ sR)))) Ia),rfl,(aK I aM),J,J,?_,?_⟩
    ·(rw[he3];exact Bm h0 ‹k<_› hst ‹¬(List.getD l k.toNat bG).op=1› ‹¬(List.getD l k.toNat bG).op=2› O xh)
    (have hq:=(fW hr h0 ‹k<_› EB ‹¬(List.getD l k.toNat bG).op=1› ‹¬(List.getD l k.toNat bG).op=2›);rw[hq.2.2,ed,ef,ey];congr 1<;>omega)
   refine cB O aC O zx sR (f:=fun b=> .slice (some ⟨b,0,none⟩) 1 1) (gf bU O O O O)<|fun aOx auk xK=> ?_
   (try simp only[lC]at xK)
   refine A1 0<|cB O aC O xK (sQ sR) (f:=fun b=> .slice (some ⟨b,0,none⟩) 0 0) (tj bU fl)<|fun aOy aOz aqR=> ?_
   (try simp only[lC]at aqR)
   have Xg:=aqR.sM 0 8 O az
   refine A1 8<|fB O aC O Xg (j:=0) O (fun _=>(sQ (sQ sR))) ((Xg.sl (i:=4) O).cut _ (by(have:=(fW hr h0 ‹k<_› EB ‹¬(List.getD l k.toNat bG).op=1› ‹¬(List.getD l k.toNat bG).op=2›);omega))) O O bU O O (size:=8) (bytes:=64) O O O az (fun u hu=>gV st u (uK hu)) J iA<|fun v152 aFQ Dr=> ?_
   simp only[z2,dm,pull]at Dr
   refine A1 11<|fB O aC O Dr (j:=0) O (fun _=>(sQ (sQ sR))) (Hp.gR cY Dr (i:=1) (l:=[_]) O fT) O O bU O O (size:=8) (bytes:=64) O O O az (gV _) Cq Cp<|fun TQ aOA Ra=> ?_
   simp only[z2,dm,pull]at Ra
   refine AQ 12 O (Ra.sub (sQ (sQ sR))) (run_assign bz) ?_
   refine AD<|au<|aF JY<|V (ax O O J)<|aI rfl<|aa<|have aqS:=Hp.swap Ra (i:=3) ya;?_
   simp only[z2,dm,pull]at aqS
   refine⟨(k+1,st.take ((st.length:Int)-(l.getD k.toNat bG).n).toNat++[e1],TQ),aX,(((xd.u4.u4.u4.u4.u4.u1.u1.u1).t Kx O)).u4.u4.u4.u4.u4,(Hp.conv (aqS.sub (sQ (sQ (sQ sR)))) Ia),rfl,(aK I aM),J,J,?_,?_⟩
   ·(rw[he3];exact Bm h0 ‹k<_› hst ‹¬(List.getD l k.toNat bG).op=1› ‹¬(List.getD l k.toNat bG).op=2› O xh)
   (have hq:=(fW hr h0 ‹k<_› EB ‹¬(List.getD l k.toNat bG).op=1› ‹¬(List.getD l k.toNat bG).op=2›);rw[hq.2.2,ed,ef,ey];congr 1<;>omega)
  refine cB O aC O zx sR (f:=fun b=> .slice (some ⟨b,0,none⟩) 1 1) (gf bU O O O O)<|fun aOB aFR J0=> ?_
  (try simp only[lC]at J0)
  refine gj 0 7 aQ ?_ ?_
  .refine cB O aC O J0 (sQ sR) (f:=fun b=> .slice (some ⟨b,0,none⟩) 0 0) (tj bU fl)<|fun aOC ayU Xh=> ?_
   (try simp only[lC]at Xh)
   have lE:=Xh.sM 0 8 O az
   refine A1 7<|cf O aC O lE (sQ (sQ sR)) (rD (lE.sl (i:=4) O) bU fl O O J)<|A1 8<|fB O aC O lE (j:=0) O (fun _=>(sQ (sQ sR))) ((lE.sl (i:=4) O).cut _ (by(have:=(fW hr h0 ‹k<_› EB ‹¬(List.getD l k.toNat bG).op=1› ‹¬(List.getD l k.toNat bG).op=2›);omega))) O O bU O O (size:=8) (bytes:=64) O O O az (fun u hu=>gV st u (uK hu)) J iA<|fun v168 aFS OD=> ?_
   simp only[z2,dm,pull]at OD
   refine A1 11<|fB O aC O OD (j:=0) O (fun _=>(sQ (sQ sR))) (Hp.gR cY OD (i:=1) (l:=[_]) O fT) O O bU O O (size:=8) (bytes:=64) O O O az (gV _) Cq Cp<|fun v171 ayV BD=> ?_
   simp only[z2,dm,pull]at BD
   refine AQ 12 O (BD.sub (sQ (sQ sR))) (run_assign bz) ?_
   refine AD<|au<|aF JY<|V (ax O O J)<|aI rfl<|aa<|have aqT:=Hp.swap BD (i:=3) ya;?_
   simp only[z2,dm,pull]at aqT
   refine⟨(k+1,st.take ((st.length:Int)-(l.getD k.toNat bG).n).toNat++[e1],v171),aX,(((xd.u4.u4.u4.u4.u4.u1.u1.u1).t Kx O)).u4.u4.u4.u4.u4,(Hp.conv (aqT.sub (sQ (sQ (sQ sR)))) Ia),rfl,(aK I aM),J,J,?_,?_⟩
   ·(rw[he3];exact Bm h0 ‹k<_› hst ‹¬(List.getD l k.toNat bG).op=1› ‹¬(List.getD l k.toNat bG).op=2› O xh)
   (have hq:=(fW hr h0 ‹k<_› EB ‹¬(List.getD l k.toNat bG).op=1› ‹¬(List.getD l k.toNat bG).op=2›);rw[hq.2.2,ed,ef,ey];congr 1<;>omega)
  refine cf O aC O J0 (sQ sR) (rD (J0.sl (i:=3) O) bU fl O O J)<|A1 0<|cB O aC O J0 (sQ sR) (f:=fun b=> .slice (some ⟨b,0,none⟩) 0 0) (tj bU fl)<|fun aOD aFT OE=> ?_
  (try simp only[lC]at OE)
  have aqU:=OE.sM 0 8 O az
  refine A1 8<|fB O aC O aqU (j:=0) O (fun _=>(sQ (sQ sR))) ((aqU.sl (i:=4) O).cut _ (by(have:=(fW hr h0 ‹k<_› EB ‹¬(List.getD l k.toNat bG).op=1› ‹¬(List.getD l k.toNat bG).op=2›);omega))) O O bU O O (size:=8) (bytes:=64) O O O az (fun u hu=>gV st u (uK hu)) J iA<|fun aOE aOF akn=> ?_
  simp only[z2,dm,pull]at akn
  refine A1 11<|fB O aC O akn (j:=0) O (fun _=>(sQ (sQ sR))) (Hp.gR cY akn (i:=1) (l:=[_]) O fT) O O bU O O (size:=8) (bytes:=64) O O O az (gV _) Cq Cp<|fun aFU aOG ako=> ?_
  simp only[z2,dm,pull]at ako
  refine AQ 12 O (ako.sub (sQ (sQ sR))) (run_assign bz) ?_
  refine AD<|au<|aF JY<|V (ax O O J)<|aI rfl<|aa<|have aqV:=Hp.swap ako (i:=3) ya;?_
  simp only[z2,dm,pull]at aqV
  refine⟨(k+1,st.take ((st.length:Int)-(l.getD k.toNat bG).n).toNat++[e1],aFU),aX,(((xd.u4.u4.u4.u4.u4.u1.u1.u1).t Kx O)).u4.u4.u4.u4.u4,(Hp.conv (aqV.sub (sQ (sQ (sQ sR)))) Ia),rfl,(aK I aM),J,J,?_,?_⟩
  ·(rw[he3];exact Bm h0 ‹k<_› hst ‹¬(List.getD l k.toNat bG).op=1› ‹¬(List.getD l k.toNat bG).op=2› O xh)
  (have hq:=(fW hr h0 ‹k<_› EB ‹¬(List.getD l k.toNat bG).op=1› ‹¬(List.getD l k.toNat bG).op=2›);rw[hq.2.2,ed,ef,ey];congr 1<;>omega)
 refine a8 (id:=0) rfl<|SR<|aF zv<|V (ah (gW.sl (i:=0) O) bU fl O O R9)<|V (gy (gW.sl (i:=0) O) bI O O O R9)<|bg gW (i:=1) O (cR O zw O (gW.blk (i:=1) O))<|fun aOH akp=> ?_
 simp only[z2,dm,pull]at akp
 refine va (v:=B true) rfl<|aa<|aj<|EK O zw O akp (i:=1) O bI O jJ ⟨?_,akp.below⟩
 (rw[Nb hr hk ‹¬k<_› hst];rfl)
theorem lU(b:Nat)(r:Rl)(d s:Int)(vw vj:Value)(a:BitVec 64)(w:World)(hb:w.heap[b]?=some (.cells (lS r d s vw vj).toArray 212 (0,0)))(hW:Sl w vw 1 (oH r (pts r).toNat).length ((oH r (pts r).toNat).map U)):Calls Tryz.prog 174 #[.pointer (some ⟨b,0,none⟩),U a] w (Pure (I (EM r a)) w):=by
 have hp:=dA r
 have hpp:pts r=max 0 (min r.n 64):=rfl
 have Ur:=Ax (r:=r) (k:=(pts r).toNat)
 refine eH func174 rfl rfl fun hH=>SR<|va (v:=I 0) rfl<|aa<|ai<|SR<|aF (v:=Pn _ _) rfl<|V (af O)<|V (fA nP 68 O jB O)<|V (aE dg O O (hH.eT hb EO))<|V (aD (hW.hp hH) O dg O)<|aF (v:=I 0) rfl<|aa<|aA<|bt (G:=Int) (fun k s' w'=>(Fr (rg 4 3 (rg 12 10 [])) _ s')/\(Hp w w' _)/\(s' 12=I k)/\(0<=k)/\(k<=pts r)/\(∀j:Int,0<=j->j<k->bQ r j≠a)) (fun k=>(pts r-k).toNat) (0) ⟨Fr.refl _ _,hH,rfl,J,J,fun j a b=>absurd b J⟩<| ?_
 rintro k sg1 w1 ⟨uT,jc,acJ,h0,hk,hf⟩
 obtain⟨AM,ayW,ayX⟩:=uT.w3 1 10 11
 refine SR<|V (aN acJ ayX)<|aa<|ai<|aG O (fun h3=> ?_) (fun h3=> ?_)
 .refine an<|ai<|aA<|SR<|aF acJ<|V (ah (hW.hp jc) dg cQ ayW acJ J)<|V (aE dO O O (sY (hW.hp jc) J))<|aI rfl<|aU rfl<|aa<|SR<|mU rfl<|aF AM<|V (jm O O)<|aa<|aG O (fun h5=> ?_) (fun h5=> ?_)
  .refine SR<|mI rfl<|aI rfl<|aa<|aj<|oI O ?_ jc
   exact(asH h0 J aR hf).symm
  refine an<|au<|V (ax acJ O J)<|mI rfl<|aa<| ?_
  refine⟨k+1,aX,uT.u4.u4.u1.u1.u1,jc,(aK I aM),J,J,?_⟩
  exact fun j a b=>if e:j=k then e▸‹¬bQ r k=_›else hf j a J
 refine a8 (id:=0) rfl<|SR<|va (v:=I (-1)) rfl<|aa<|aj<|oI O ?_ jc
 exact(axs (k:=k) J hf).symm
set_option maxHeartbeats 1000000 in
theorem F8(W0:World)(b:Nat)(r:Rl)(L:List bu)(w:World)(hT:pc W0)(hH:Hp W0 w (.blk b (.cells (lS r 0 1 (.slice none 0 0) (.slice none 0 0)).toArray 212 (0,0))::L)):Calls Tryz.prog 173 #[.pointer (some ⟨b,0,none⟩)] w (j3 fun u w'=>u= .tuple #[]/\∃(v1 v2:Value) (rs:List S7) (Z:List bu),I2 (Kz KN Z) r v1 v2 rs/\Hp W0 w' (.blk b (.cells (lS r 0 1 (v1) (v2)).toArray 212 (0,0))::(Z++L))):=by
 have hp:=dA r
 have hpp:pts r=max 0 (min r.n 64):=rfl
 have Ur:=Ax (r:=r) (k:=(pts r).toNat)
 refine en func173 rfl rfl<|have hN:=(hH.eI 100 1).eI 35 1;SR<|aF (v:=Pn _ _) rfl<|V (af O)<|V (fA nP 0 O iV O)<|V (fA bS 0 O aP O)<|V (aE bx O O (hN.cell (i:=2) O axt))<|V (vI O O)<|V (Gt O O)<|aI rfl<|aa<|ai<|SR<|mI rfl<|aF (v:=I 0) rfl<|aa<|aA<|bt (G:=Int×Value) (fun⟨k,v1⟩ s' w'=>(Fr (3::(rg 17 19 [])) _ s')/\(Hp W0 w' (.row v1 35 1 (oH r (k).toNat).length ((oH r (k).toNat).map U)::_:: .blk b (.cells (lS r 0 1 (v1) (.slice none 0 0)).toArray 212 (0,0))::_))/\(s' 17=I k)/\(0<=k)/\(k<=pts r)) (fun⟨k,v1⟩=>(pts r-k).toNat) ((0,.slice none 0 0)) ⟨Fr.refl _ _,hN,rfl,J,J⟩<| ?_
 rintro⟨k,v1⟩ sg1 w1 ⟨uT,jc,akq,h0,hk⟩
 obtain⟨mF,ajZ,ayY⟩:=uT.w3 0 2 16
 have hwk:=Ax (r:=r) (k:=k.toNat)
 refine SR<|V (aN akq ayY)<|aa<|ai<|aG O (fun h3=> ?_) (fun h3=> ?_)
 .refine an<|FH (G:=(Value)) jc (3::(rg 19 16 [])) (fun(L:List bu) (v3:(Value))=>((L).set 2 (.blk b (.cells (lS r 0 1 (v3) (.slice none 0 0)).toArray 212 (0,0)))).set 0 (.row v3 35 1 (oH r ((k+1)).toNat).length ((oH r ((k+1)).toNat).map U))) (fun(v3:(Value)) s'=>True) ?_ ?_
  .refine aA<|SR<|aF akq<|aI rfl<|aa<|fX aQ jc (sQ (sP (sQ sR)))<|fun w4 bY=>have Pq:=bY.sub (sQ (sP (sQ sR)));AQ 0 O Pq (run_move mF)<|AQ 1 O Pq (run_move mF)<|AQ 2 O Pq (af O)<|AQ 3 O Pq (fA nP 68 O jB O)<|AQ 5 O Pq (run_move mF)<|AQ 6 O Pq (af O)<|AQ 7 O Pq (fA nP 0 O iV O)<|AQ 9 O Pq (mV (I _) O)<|gj 4 8 aQ ?_ ?_
   .refine cf O aC O bY (sQ (sP (sQ sR))) (aE dg O O (bY.cell (i:=2) O EO))<|A1 8<|cf O aC O bY (sQ (sP (sQ sR))) (I3 bS O O O (bY.blk (i:=2) O))<|A1 10<|cm O aC O bY (sQ (sP (sQ sR))) (o3 _ _ _ (hT.hp bY)) (aL H9 O O)<|fun Eo dr=>A1 11<|cB O aC O dr (sQ (sP (sQ sR))) (f:=fun b=> .slice (some ⟨b,0,none⟩) 1 1) (cA dg O O (sz:=1) (vs:=[U _]) O O az az O O)<|fun b14 zl bV=> ?_
    (try simp only[lC]at bV)
    refine A1 12<|fB O aC O bV (j:=1) O (fun _=>(sQ (sQ (sP (sQ sR))))) (bV.dU (i:=0) (n:=1) (sz:=1) O O az) O O dg O O (size:=1) (bytes:=8) O O O az gZ J iA<|fun v17 Tz cH=> ?_
    simp only[z2,dm,pull]at cH
    refine AQ 13 O (cH.sub (sQ (sQ (sP (sQ sR))))) (af O)<|AQ 14 O (cH.sub (sQ (sQ (sP (sQ sR))))) (fA nP 68 O jB O)<|A1 15<|dW O aC cH (j:=3) O (sQ (sQ (sP (sQ sR)))) (bK O O (v:=v17) O (aZ (cH.get (i:=1) O)).1 (aZ (cH.get (i:=1) O)).2 (cH.blk (i:=3) O) LR)<|fun w20 fK=> ?_
    simp only[z2,dm,pull]at fK
    rw[GX]at fK
    refine AD ?_
    refine⟨((Fr.refl _ _)).u4.u4.u4.u4.u1,v17,(Hp.conv (fK.sub (sQ sR)) Sa),trivial⟩
   refine cf O aC O bY (sQ (sP (sQ sR))) (I3 bS O O O (bY.blk (i:=2) O))<|gj 4 10 aQ ?_ ?_
   .refine cf O aC O bY (sQ (sP (sQ sR))) (aE dg O O (bY.cell (i:=2) O EO))<|A1 10<|cm O aC O bY (sQ (sP (sQ sR))) (o3 _ _ _ (hT.hp bY)) (aL H9 O O)<|fun Uq dG=>A1 11<|cB O aC O dG (sQ (sP (sQ sR))) (f:=fun b=> .slice (some ⟨b,0,none⟩) 1 1) (cA dg O O (sz:=1) (vs:=[U _]) O O az az O O)<|fun b30 w28 gE=> ?_
    (try simp only[lC]at gE)
    refine A1 12<|fB O aC O gE (j:=1) O (fun _=>(sQ (sQ (sP (sQ sR))))) (gE.dU (i:=0) (n:=1) (sz:=1) O O az) O O dg O O (size:=1) (bytes:=8) O O O az gZ J iA<|fun v33 w31 ij=> ?_
    simp only[z2,dm,pull]at ij
    refine AQ 13 O (ij.sub (sQ (sQ (sP (sQ sR))))) (af O)<|AQ 14 O (ij.sub (sQ (sQ (sP (sQ sR))))) (fA nP 68 O jB O)<|A1 15<|dW O aC ij (j:=3) O (sQ (sQ (sP (sQ sR)))) (bK O O (v:=v33) O (aZ (ij.get (i:=1) O)).1 (aZ (ij.get (i:=1) O)).2 (ij.blk (i:=3) O) LR)<|fun w36 uF=> ?_
    simp only[z2,dm,pull]at uF
    rw[GX]at uF
    refine AD ?_
    refine⟨((Fr.refl _ _)).u4.u4.u4.u4.u1,v33,(Hp.conv (uF.sub (sQ sR)) Sa),trivial⟩
   refine cm O aC O bY (sQ (sP (sQ sR))) (o3 _ _ _ (hT.hp bY)) (aL H9 O O)<|fun w38 jS=>gj 4 11 aQ ?_ ?_
   .refine cf O aC O jS (sQ (sP (sQ sR))) (aE dg O O (jS.cell (i:=2) O EO))<|A1 11<|cB O aC O jS (sQ (sP (sQ sR))) (f:=fun b=> .slice (some ⟨b,0,none⟩) 1 1) (cA dg O O (sz:=1) (vs:=[U _]) O O az az O O)<|fun b44 w42 mz=> ?_
    (try simp only[lC]at mz)
    refine A1 12<|fB O aC O mz (j:=1) O (fun _=>(sQ (sQ (sP (sQ sR))))) (mz.dU (i:=0) (n:=1) (sz:=1) O O az) O O dg O O (size:=1) (bytes:=8) O O O az gZ J iA<|fun v47 w45 oq=> ?_
    simp only[z2,dm,pull]at oq
    refine AQ 13 O (oq.sub (sQ (sQ (sP (sQ sR))))) (af O)<|AQ 14 O (oq.sub (sQ (sQ (sP (sQ sR))))) (fA nP 68 O jB O)<|A1 15<|dW O aC oq (j:=3) O (sQ (sQ (sP (sQ sR)))) (bK O O (v:=v47) O (aZ (oq.get (i:=1) O)).1 (aZ (oq.get (i:=1) O)).2 (oq.blk (i:=3) O) LR)<|fun w50 qy=> ?_
    simp only[z2,dm,pull]at qy
    rw[GX]at qy
    refine AD ?_
    refine⟨((Fr.refl _ _)).u4.u4.u4.u4.u1,v47,(Hp.conv (qy.sub (sQ sR)) Sa),trivial⟩
   refine cB O aC O jS (sQ (sP (sQ sR))) (f:=fun b=> .slice (some ⟨b,0,none⟩) 1 1) (cA dg O O (sz:=1) (vs:=[U _]) O O az az O O)<|fun b54 w52 jA=> ?_
   (try simp only[lC]at jA)
   refine A1 4<|cf O aC O jA (sQ (sQ (sP (sQ sR)))) (aE dg O O (jA.cell (i:=3) O EO))<|A1 12<|fB O aC O jA (j:=1) O (fun _=>(sQ (sQ (sP (sQ sR))))) (jA.dU (i:=0) (n:=1) (sz:=1) O O az) O O dg O O (size:=1) (bytes:=8) O O O az gZ J iA<|fun v59 w57 oP=> ?_
   simp only[z2,dm,pull]at oP
   refine AQ 13 O (oP.sub (sQ (sQ (sP (sQ sR))))) (af O)<|AQ 14 O (oP.sub (sQ (sQ (sP (sQ sR))))) (fA nP 68 O jB O)<|A1 15<|dW O aC oP (j:=3) O (sQ (sQ (sP (sQ sR)))) (bK O O (v:=v59) O (aZ (oP.get (i:=1) O)).1 (aZ (oP.get (i:=1) O)).2 (oP.blk (i:=3) O) LR)<|fun w62 o6=> ?_
   simp only[z2,dm,pull]at o6
   rw[GX]at o6
   refine AD ?_
   refine⟨((Fr.refl _ _)).u4.u4.u4.u4.u1,v59,(Hp.conv (o6.sub (sQ sR)) Sa),trivial⟩
  rintro v3 aOJ w64 ay0 xa-
  simp only[z2,dm,pull]at xa
  have aul:=ay0.t1 17 akq
  refine au<|V (ax aul O J)<|mI rfl<|aa<| ?_
  refine⟨(k+1,v3),aX,(((uT.u O).t ay0 O)).u1.u1,(Hp.conv xa aM),(aK I aM),J,J⟩
 refine a8 (id:=0) rfl<|SR<|aF ajZ<|aF (v:=I 0) rfl<|aa<|aA<|have JH:k.toNat=(pts r).toNat:=J;?_
 rw[JH]at jc
 refine bt (G:=Int×Value×(List S7)×(List bu)) (fun⟨i,v2,rs,Z1⟩ s' w'=>(Fr (rg 4 5 (rg 37 76 [])) _ s')/\(Hp W0 w' (_:: .row v2 100 1 rs.length (rs.map S7.v):: .blk b (.cells (lS r 0 1 (v1) (v2)).toArray 212 (0,0))::Z1))/\(s' 37=I i)/\(0<=i)/\(i<=pts r)/\(rs.map S7.l=FN r (pts r).toNat i.toNat)/\(∃Zr,Z1=Zr++L/\∀x∈rs,oE (Kz KN Zr) x.v 1 x.l.length (x.l.map U))/\(rs.length=i.toNat)) (fun⟨i,v2,rs,Z1⟩=>(pts r-i).toNat) ((0,.slice none 0 0,[],L)) ⟨Fr.refl _ _,jc,rfl,J,J,rfl,⟨[],rfl,fun x hx=>by cases hx⟩,rfl⟩ ?_
 rintro⟨i,v2,rs,Z1⟩ aOK w65 ⟨aum,wZ,aaG,i0,hi,hrs,hZ,hln⟩
 have aun:=aum.w1 36
 obtain⟨ay1,aqW⟩:=aum.t2 0 mF 2 ajZ
 obtain⟨Zr,rfl,hE⟩:=hZ
 refine SR<|V (aN aaG aun)<|aa<|ai<|aG O (fun h67=> ?_) (fun h67=> ?_)
 .refine an<|ai<|aA<|SR<|aF aaG<|aI rfl<|aa<|SR<|aF aqW<|YL O wZ (f:=fun b=>(.slice (some ⟨b,0,none⟩) (pts r).toNat (pts r).toNat)) (Qe (cl:=fun x:BitVec 64=>[U x]) (sz:=1) (z0:=0#64) (n:=(pts r).toNat) (fun _=>rfl) az dg O O aQ O (aK I (show _=(((pts r).toNat:Nat):Int)from by omega)) (aK I (show _=(((pts r).toNat:Nat):Int)from by omega)) (by show 8*_<=_;omega) iA)<|fun b68 w69 wI=> ?_
  rw[mk_zero (r:=r) (i:=i)]at wI
  have akr:=wI.sM (pts r).toNat 1 (by rw[gA,Cx,l9]) iA
  refine V (run_assign bz) ?_
  refine aa<|ai<|SR<|aF aqW<|aF (v:=I 0) rfl<|aa<|aA<|bt (G:=Int) (fun j s' w'=>(Fr (rg 6 3 (rg 43 59 [])) _ s')/\(Hp W0 w' (.row (.slice (some ⟨b68,0,none⟩) (pts r).toNat (pts r).toNat) 35 1 (pts r).toNat ((Ay r i (pts r).toNat j.toNat).map U)::_))/\(s' 43=I j)/\(0<=j)/\(j<=pts r)) (fun j=>(pts r-j).toNat) (0) ⟨Fr.refl _ _,akr,rfl,J,J⟩<| ?_
  rintro j aOL w72 ⟨aks,Jn,TR,j0,hj⟩
  obtain⟨aqX,akt,auo⟩:=aks.w3 4 5 42
  obtain⟨E3,aup⟩:=aks.t2 0 ay1 37 aaG
  refine SR<|V (aN TR auo)<|aa<|ai<|aG O (fun h74=> ?_) (fun h74=> ?_)
  .refine an<|ai<|aA<|SR<|aF TR<|aI rfl<|aa<|ai<|fX aQ Jn (sQ sR)<|fun w75 oQ=>have q9:=oQ.sub (sQ sR);AQ 0 O q9 (run_move akt)<|AQ 1 O q9 (mV (I _) O)<|AQ 2 O q9 (run_move E3)<|AQ 3 O q9 (af O)<|AQ 4 O q9 (fA nP 68 O jB O)<|AT 5 O q9 (fun w hS=>aE dg O O (hS.cell (i:=2) O EO))<|AQ 6 O q9 (run_move aqX)<|AT 7 O q9 (fun w hS=>ah (hS.sl (i:=0) O) dg cQ O O J)<|AT 8 O q9 (fun w hS=>aE dO O O (sY (hS.sl (i:=0) O) J))<|AQ 9 O q9 (run_move E3)<|AQ 10 O q9 (af O)<|AQ 11 O q9 (fA nP 68 O jB O)<|AT 12 O q9 (fun w hS=>aE dg O O (hS.cell (i:=2) O EO))<|AQ 13 O q9 (mV (I _) O)<|AT 14 O q9 (fun w hS=>ah (hS.sl (i:=0) O) dg cQ O O J)<|AT 15 O q9 (fun w hS=>aE dO O O (sY (hS.sl (i:=0) O) J))<|AQ 16 O q9 (iG O O)<|A1 17<|cf O aC O oQ (sQ sR) (ah (oQ.sl (i:=0) O) dg cQ O O J)<|A1 18<|asx (u:=U _) O aC oQ (i:=0) O (fun _=>(sQ sR)) J O O O O O J<|fun w81 o5=> ?_
   simp only[z2,dm,pull]at o5
   rw[CQ af9,GV,l9]at o5
   refine AD<|ai<|ew aQ o5<|fun w83 kx=>have sq:=kx;AQ 0 O sq (run_move E3)<|AQ 1 O sq (af O)<|AQ 2 O sq (fA nP 0 O iV O)<|AT 3 O sq (fun w hS=>I3 bS O O O (hS.blk (i:=3) O))<|AQ 4 O sq (run_move E3)<|AQ 5 O sq (run_move E3)<|AQ 6 O sq (af O)<|AQ 7 O sq (fA nP 68 O jB O)<|AT 8 O sq (fun w hS=>aE dg O O (hS.cell (i:=3) O EO))<|AQ 9 O sq (run_move aqX)<|AT 10 O sq (fun w hS=>ah (hS.sl (i:=1) O) dg cQ O O J)<|AT 11 O sq (fun w hS=>aE dO O O (sY (hS.sl (i:=1) O) J))<|AQ 13 O sq (run_move E3)<|AQ 14 O sq (run_move E3)<|AQ 15 O sq (af O)<|AQ 16 O sq (fA nP 68 O jB O)<|AT 17 O sq (fun w hS=>aE dg O O (hS.cell (i:=3) O EO))<|AQ 18 O sq (mV (I _) O)<|AT 19 O sq (fun w hS=>ah (hS.sl (i:=1) O) dg cQ O O J)<|AT 20 O sq (fun w hS=>aE dO O O (sY (hS.sl (i:=1) O) J))<|A1 12<|cm O aC O kx sR (lU _ _ _ _ _ _ _ _ (kx.blk (i:=3) O) (kx.sl (i:=1) O)) (aL call174 O O)<|fun w85 uH=>A1 21<|cm O aC O uH sR (lU _ _ _ _ _ _ _ _ (uH.blk (i:=3) O) (uH.sl (i:=1) O)) (aL call174 O O)<|fun w87 zu=>A1 22<|cm O aC O zu sR (AZ _ _ _ _ (hT.hp zu)) (bA call168 O O O)<|fun w89 nZ=>have Dt:=nZ;?_
   refine AQ 23 O Dt (run_move bz) ?_
   refine AQ 24 O Dt (bk O (v:=I _) O)<|AQ 25 O Dt (bk O (v:=B _) O)<|AQ 26 O Dt (aV (I _) O)<|AQ 27 O Dt (aV (B _) O)<|AD<|SR<|mB rfl<|aa<|bX O (fun h92=> ?_) (fun h92=> ?_)
   .refine au<|aF akt<|mI rfl<|aF E3<|V (af O)<|V (fA nP 68 O jB O)<|V (aE dg O O (nZ.cell (i:=3) O EO))<|mI rfl<|V (ah (nZ.sl (i:=1) O) dg cQ O O afY)<|V (aE dO O O (sY (nZ.sl (i:=1) O) afY))<|V (ah (nZ.sl (i:=0) O) dg cQ O O J)<|Ap (u:=U _) nZ (i:=0) O J O O O O O J<|fun w93 uI=> ?_
    simp only[z2,dm,pull]at uI
    rw[CQ af9,GV,l9]at uI
    refine aa<|au<|V (ax TR O J)<|mI rfl<|aa<| ?_
    refine⟨j+1,aX,aks.u4.u4.u4.u4.u4.u4.u4.u4.u4.u4.u4.u4.u4.u4.u4.u1.u1,(Hp.conv uI (by rw[aek J (aeh ‹_=true›).symm];done)),(aK I aM),J,J⟩
   refine an<|au<|V (ax TR O J)<|mI rfl<|aa<| ?_
   refine⟨j+1,aX,aks.u4.u4.u4.u4.u4.u4.u4.u4.u4.u4.u4.u4.u4,(Hp.conv nZ (by rw[VO J (ain ‹_=false›).symm];done)),(aK I aM),J,J⟩
  refine a8 (id:=4) rfl<|au<|aF E3<|aF E3<|V (af O)<|V (fA nP 69 O sizeOf210 O)<|V (aE LI O O (Jn.cell (i:=3) O apN))<|aF akt<|ud 1 1 Jn (yU (v:=(.slice (some ⟨b68,0,none⟩) (pts r).toNat (pts r).toNat)) O LI O O O O)<|fun b97 w95 qc=> ?_
  (try simp only[lC]at qc)
  refine gh O qc (i:=3) O (qc.dU (i:=0) (n:=1) (sz:=1) O O az) O O LI O O (size:=1) (bytes:=24) O O O az gZ J iA<|fun v98 w99 wJ=> ?_
  simp only[z2,dm,pull]at wJ
  refine V (af O)<|V (fA nP 69 O sizeOf210 O)<|bg wJ (i:=4) O (bK O O (v:=v98) O (aZ (wJ.get (i:=3) O)).1 (aZ (wJ.get (i:=3) O)).2 (wJ.blk (i:=4) O) LR)<|fun ae4 qd=> ?_
  simp only[z2,dm,pull]at qd
  rw[aip]at qd
  refine aa<|au<| ?_
  rw[show j.toNat=(pts r).toNat by omega]at qd
  obtain⟨PB,ake,akf,-⟩:=(qd.pj [1]).SG (KN)
  have ny:Hp _ ae4 (_::_::_::_::(PB++(Zr++L))):=ake.Gh (L:=[_,_,_,_]) (L':=(Zr++L))
  refine V (ax aup O J)<|mI rfl<|aa<| ?_
  refine⟨(i+1,v98,rs++[S7.mk (.slice (some ⟨b68,0,none⟩) (pts r).toNat (pts r).toNat) (Ay r i (pts r).toNat (pts r).toNat)],(PB++(Zr++L))),aX,(((aum.u4.u4).t aks O)).u4.u4.u4.u1,(Hp.conv (ny.sub (sQ sR)) (by simp only[gP,ed,lZ,Ci,ey];done)),(aK I aM),J,J,?_,?_,?_⟩
  .rw[gP,hrs,ZD i0];rfl
  .exact⟨PB++Zr,(dH _ _ _).symm,ais hE akf⟩
  rw[ed,ey];omega
 refine a8 (id:=2) O ?_
 obtain⟨aoy,ay2,ay3,-⟩:=wZ.SG (KN)
 have Rb:Hp _ w65 (_::_::(aoy++(Zr++L))):=ay2.Gh (L:=[_,_]) (L':=(Zr++L))
 obtain⟨ay4,ay5,ay6,-⟩:=Rb.SG (KN)
 have xJ:Hp _ w65 (_::(ay4++(aoy++(Zr++L)))):=ay5.Gh (L:=[_]) (L':=(aoy++(Zr++L)))
 have ei:i=pts r:=J
 rw[show i.toNat=(pts r).toNat by omega]at hrs
 have hTV:I2 (Kz KN (ay4++(aoy++Zr))) r v1 v2 rs:=⟨ay3.mono (Le.zz (fun x hx=>(bH _ (dI _ hx)))),ay6.mono (Le.zz (fun x hx=>(dI _ hx))),fun x hx=>(hE x hx).mono (Le.zz (fun x hx=>(bH _ (bH _ hx)))),hrs⟩
 exact rC O ⟨rfl,v1,v2,rs,_,hTV,by simpa only[dH]using xJ⟩
section
theorem OF(w:World):(callFunc 259 #[]).run Tryz.prog w= .ok (.value (.tuple #[])) w:=run_call_mark0 func259 aQ aQ aQ .disable aQ w
theorem Rc(w:World):(callFunc 261 #[]).run Tryz.prog w= .ok (.value (.tuple #[])) w:=run_call_mark0 func261 aQ aQ aQ .enable aQ w
theorem aaH(a:Addr)(w:World):(callFunc 262 #[.pointer (some a)]).run Tryz.prog w= .ok (.value (.tuple #[])) w:=run_call_marked func262 aQ aQ aQ .acquire aQ a w
theorem aku(a:Addr)(w:World):(callFunc 264 #[.pointer (some a)]).run Tryz.prog w= .ok (.value (.tuple #[])) w:=run_call_marked func264 aQ aQ aQ .releaseMerge aQ a w
theorem akv(a:Addr)(x:Value)(u:FrameMode)(w:World)(hc:w.cell? a=some x)(hz:w.frozen? a=false):
  CallsD Tryz.prog 237 #[.pointer (some a),.bool true] u w fun e u' w'=>u'=u/\(e= .returned (.tuple #[])/\w'=w.drew.setCell a (.int .u32 1)):=by
 have hc':w.drew.cell? a=some x:=by go_simp
 have hz':w.drew.frozen? a=false:=by go_simp
 have hst:=run_call_store (P:=Tryz.prog) func255 aQ aQ aQ aQ (k:= .u32) (y:=1) hc' hz'
 go_enter_d func237,ntmps237
 go_wp2
 go_region_calls
 all_goals(go_end0;exact⟨rfl,rfl⟩)
theorem ae5(a:Addr)(u:FrameMode)(w:World)(hc:w.cell? a=some (.int .i32 1))(hz:w.frozen? a=false):
  CallsD Tryz.prog 236 #[.pointer (some a)] u w fun e u' w'=>u'=u/\(e= .returned (.tuple #[])/\w'=w.setCell a (.int .i32 0)):=by
 have hd:=OF
 have he:=Rc
 have hr:=aku
 have aye:=run_call_add (P:=Tryz.prog) func265 aQ aQ aQ .i32 aQ (y:= -1) (s:=0) hc hz (by simp[go_sem];rfl)
 have hcv:=run_convert_to_unsafe (P:=Tryz.prog) (src:=273) (dst:=277) underlying273 underlying277 aQ hc
 go_enter_d func236,ntmps236
 go_wp2
 go_end0
 go_wp2
 go_end0
 exact⟨rfl,rfl⟩
theorem aoz(a:Addr)(w:World)(hc:w.cell? a=some (.int .i32 0))(hz:w.frozen? a=false):
  Calls Tryz.prog 235 #[.pointer (some a)] w fun e w'=>e= .returned (.tuple #[])/\w'=w.setCell a (.int .i32 1):=by
 have hd:=OF
 have he:=Rc
 have ha:=aaH
 have aOO:=run_call_cas_hit (P:=Tryz.prog) func260 aQ aQ aQ .i32 aQ (y:=1) hc hz
 have hc':(w.setCell a (.int .i32 1)).cell? a=some (.int .i32 1):=World.cell?_setCell_same w a _ hc
 have hcv:=run_convert_to_unsafe (P:=Tryz.prog) (src:=273) (dst:=277) underlying273 underlying277 aQ hc'
 go_enter func235,ntmps235
 go_wp2
 refine bodyPost_ret (results_none O _ _ _) O ?_
 go_wp2
 go_end0
 exact⟨rfl,rfl⟩
theorem aoA{q:Value->World->Prop}{e:Ending}{w:World}(h:j3 q e w):∃v,e= .returned v/\q v w:=by
 cases e<;>first|exact⟨_,rfl,h⟩|exact h.elim
set_option maxRecDepth 100000 in
set_option maxHeartbeats 1600000 in
theorem aoB(W0 w:World)(b:Nat)(r:Rl)(L:List bu)(hT:pc W0)(hH:Hp W0 w (.blk b (.cells (lS r 0 0 (.slice none 0 0) (.slice none 0 0)).toArray 212 (0,0))::L)):
  Calls Tryz.prog 207 #[.pointer (some ⟨b,65,none⟩),.func (.func 173) #[.pointer (some ⟨b,0,none⟩)] #[]] w fun e w'=>e= .returned (.tuple #[])/\∃(v1 v2:Value) (rs:List S7) (Z:List bu),I2 (Kz KN Z) r v1 v2 rs/\Hp W0 w' (.blk b (.cells (lS r 1 0 (v1) (v2)).toArray 212 (0,0))::(Z++L)):=by
 have Hy:w.cell? ⟨b,65+1,none⟩=some (.int .i32 0):=hH.cell (i:=0) O apM
 have f66:w.frozen? ⟨b,65+1,none⟩=false:=hH.fz (i:=0) O
 have jc:=hH.setCell (i:=0) (b:=b) (o:=66) (v:= .int .i32 1) O
 simp only[jd,VP]at jc
 have hl:=Ys (P:=Tryz.prog) func234 aQ aQ aQ .u32 aQ (w:=w.setCell ⟨b,65+1,none⟩ (.int .i32 1)) (a:=⟨b,65,none⟩) (x:=0) (jc.cell (i:=0) O abN)
 have ay7:∀(x:Bool) (w:World),(Op.unary .not (.bool x)).run Tryz.prog w= .ok (.bool (!x)) w:=fun _ _=>rfl
 go_enter_defers func207,ntmps207
 go_wp2_with (go_at_call 235;refine(aoz ⟨b,65+1,none⟩ _ Hy f66).mono ?_;rintro e w' ⟨rfl,rfl⟩)
 go_wp2_with (first|(go_at_call 173;refine(F8 W0 b r L _ hT jc).mono ?_;intro e w' hr;obtain⟨v,rfl,rfl,v1,v2,rs,Z,hV,bq⟩:=aoA hr)|(go_at_call 206;go_in))
 refine leaves_cons (f:=237) (args:=#[.pointer (some ⟨b,65,none⟩),.bool true]) aJ (by simp[go_sem])<|(akv ⟨b,65,none⟩ (.int .u32 0) .returning _ (bq.cell (i:=0) O abN) (bq.fz (i:=0) O)).mono<| ?_
 rintro e u' w'' ⟨rfl,rfl,rfl⟩
 have uo:=bq.drew.setCell (i:=0) (b:=b) (o:=65) (v:= .int .u32 1) O
 simp only[jd,aiq]at uo
 refine leaves_cons (f:=236) (args:=#[.pointer (some ⟨b,66,none⟩)]) (by simp[settle]) (by simp[go_sem])<|(ae5 ⟨b,66,none⟩ _ _ (uo.cell (i:=0) O apM) (uo.fz (i:=0) O)).mono<| ?_
 rintro e u' w'' ⟨rfl,rfl,rfl⟩
 have ix:=uo.setCell (i:=0) (b:=b) (o:=66) (v:= .int .i32 0) O
 simp only[jd,VP]at ix
 simp[Leaves,settle,results,results207]
 exact⟨v1,v2,rs,Z,hV,ix⟩
set_option maxRecDepth 100000 in
set_option maxHeartbeats 1600000 in
theorem akw(W0 w:World)(b:Nat)(r:Rl)(L:List bu)(hT:pc W0)(hH:Hp W0 w (.blk b (.cells (lS r 0 0 (.slice none 0 0) (.slice none 0 0)).toArray 212 (0,0))::L)):
  Calls Tryz.prog 172 #[.pointer (some ⟨b,65,none⟩),.func (.func 173) #[.pointer (some ⟨b,0,none⟩)] #[]] w fun e w'=>e= .returned (.tuple #[])/\∃(v1 v2:Value) (rs:List S7) (Z:List bu),I2 (Kz KN Z) r v1 v2 rs/\Hp W0 w' (.blk b (.cells (lS r 1 0 (v1) (v2)).toArray 212 (0,0))::(Z++L)):=by
 have hl:=Ys (P:=Tryz.prog) func234 aQ aQ aQ .u32 aQ (hH.cell (i:=0) O abN)
 have ay7:∀(x:Bool) (w:World),(Op.unary .not (.bool x)).run Tryz.prog w= .ok (.bool (!x)) w:=fun _ _=>rfl
 go_enter func172,ntmps172
 go_wp2_with (first|(go_at_call 207;refine(aoB W0 _ b r L hT hH).mono ?_;rintro e w' ⟨rfl,hq⟩)|(go_at_call 206;go_in))
 go_end0
 exact⟨rfl,hq⟩
theorem aoC(w:World)(b:Nat)(fv:Value)(h0:w.cell? ⟨b,65,none⟩=some (.int .u32 1)):
  Calls Tryz.prog 172 #[.pointer (some ⟨b,65,none⟩),fv] w fun e w'=>e= .returned (.tuple #[])/\w'=w:=by
 have hl:=Ys (P:=Tryz.prog) func234 aQ aQ aQ .u32 aQ h0
 have ay7:∀(x:Bool) (w:World),(Op.unary .not (.bool x)).run Tryz.prog w= .ok (.bool (!x)) w:=fun _ _=>rfl
 go_enter func172,ntmps172
 go_wp2
 go_end0
 exact⟨rfl,rfl⟩
theorem auq(W0 w:World)(b:Nat)(r:Rl)(Z L:List bu)(hT:pc W0)(hZ:TbZ 212 r b Z)(hH:Hp W0 w (Z++L)):
  Calls Tryz.prog 172 #[.pointer (some ⟨b,65,none⟩),.func (.func 173) #[.pointer (some ⟨b,0,none⟩)] #[]] w (j3 fun u w'=>u= .tuple #[]/\∃(v1 v2:Value) (rs:List S7) (Z:List bu),I2 (Kz KN Z) r v1 v2 rs/\Hp W0 w' (.blk b (.cells (lS r 1 0 (v1) (v2)).toArray 212 (0,0))::(Z++L))):=by
 rcases hZ with rfl|⟨v1,v2,rs,Zr,rfl,hV⟩
 .exact(akw W0 w b r L hT hH).mono fun e w' ⟨he,hq⟩=>by subst he;exact⟨rfl,hq⟩
 exact(aoC w b _ (hH.cell (i:=0) O abN)).mono fun e w' ⟨he,hw⟩=>by subst he hw;exact⟨rfl,v1,v2,rs,Zr,hV,hH⟩
end
theorem Et(W0:World)(b:Nat)(r:Rl)(Z L:List bu)(a c:BitVec 64)(w:World)(hT:pc W0)(hZ:TbZ 212 r b Z)(hH:Hp W0 w (Z++L)):Calls Tryz.prog 142 #[.pointer (some ⟨b,0,none⟩),U a,U c] w (j3 fun u w'=>u=U (jr r a c)/\∃Z',TbZ 212 r b Z'/\Hp W0 w' (Z'++L)):=by
 refine en func142 rfl rfl<|SR<|va (v:=U 0#64) rfl<|aa<|SR<|aF (v:=Pn _ _) rfl<|V (af O)<|V (fA nP 65 O sizeOf209 O)<|aF (v:=Pn _ _) rfl<|V (ait (v:=Pn _ _) O)<|cG O (auq W0 _ b r Z L hT hZ hH) (aL call172 O O)<| ?_
 rintro _ w1 ⟨rfl,v1,v2,rs,Zr,hV,bq⟩
 have ha:=apO r a
 have hc:=apO r c
 have hln:=hV.len
 have hp:=dA r
 refine aa<|SR<|aF (v:=Pn _ _) rfl<|mU rfl<|aH O bq (lU _ _ _ _ _ _ _ _ (bq.blk (i:=0) O) ((hV.words).mono (bq.kz KN.le (fun x hx=>(mT (dI _ hx))))).sl) (aL call174 O O)<|fun w3 ix=>aF (v:=Pn _ _) rfl<|mU rfl<|aH O ix (lU _ _ _ _ _ _ _ _ (ix.blk (i:=0) O) ((hV.words).mono (ix.kz KN.le (fun x hx=>(mT (dI _ hx))))).sl) (aL call174 O O)<|fun w5 jQ=>aI rfl<|aI rfl<|aa<|ai<|SR<|mI rfl<|V (aN O O)<|mB rfl<|bM 23 O (fun h8=> ?_) (fun h8=> ?_)
 .refine aF (v:=B true) rfl<|aa<|cz rfl<|SR<|mU rfl<|mU rfl<|V (iG O O)<|aU rfl<|aa<|aj<|jx O (v:=U (jr r a c)) (jZ O (aK U (by exact Qx J))) ⟨rfl,_,.inr ⟨v1,v2,rs,Zr,rfl,hV⟩,jQ⟩
 refine mI rfl<|V (aN O O)<|mB rfl<|aa<|aG O (fun h10=> ?_) (fun h10=> ?_)
 .refine SR<|mU rfl<|mU rfl<|V (iG O O)<|aU rfl<|aa<|aj<|jx O (v:=U (jr r a c)) (jZ O (aK U (by exact Qx J))) ⟨rfl,_,.inr ⟨v1,v2,rs,Zr,rfl,hV⟩,jQ⟩
 refine an<|SR<|have hrw:=(hV.row (i:=EM r a) J).1;have hrl:(rs.getD (EM r a).toNat ru0).l.length=(pts r).toNat:=(by rw[hrw,Cx]);aF (v:=Pn _ _) rfl<|V (af O)<|V (fA nP 69 O sizeOf210 O)<|V (aE LI O O (jQ.cell (i:=0) O apN))<|mI rfl<|V (ah ((hV.air).mono (jQ.kz KN.le (fun x hx=>(mT (dI _ hx))))).sl LI jB O O J)<|V (aE dg O O (((hV.air).mono (jQ.kz KN.le (fun x hx=>(mT (dI _ hx))))).sl.cell _ _ (asJ J)))<|mI rfl<|V (ah (((hV.row J).2).mono (jQ.kz KN.le (fun x hx=>(mT (dI _ hx))))).sl dg cQ O O J)<|V (aE dO O O ((((hV.row J).2).mono (jQ.kz KN.le (fun x hx=>(mT (dI _ hx))))).sl.atU J J))<|aU rfl<|aa<|aj<|jx O (v:=U (jr r a c)) (jZ O (aK U (by rw[hrw,anl J];exact aio J))) ⟨rfl,_,.inr ⟨v1,v2,rs,Zr,rfl,hV⟩,jQ⟩
theorem Jq(W0:World)(B:Nat)(tb:Kh)(tl:List (Nat×Rl))(Z R:List bu)(a c:El)(w:World)(hT:pc W0)(htl:∀i,i<8->∀p,tb i=some p->p∈tl)(hB:Kz (Kw W0) R B (.cells (VQ tb).toArray 199 (0,0)))(hZ:wW 212 tl Z)(hH:Hp W0 w (Z++R)):Calls Tryz.prog 141 #[.agg (iM a),.agg (iM c),.pointer (some ⟨B,0,none⟩)] w (j3 fun u w'=>u= .agg (iM (pE tb a c))/\∃Z',wW 212 tl Z'/\Hp W0 w' (Z'++R)):=by
 refine en func141 rfl rfl<|SR<|gO hH (v:= .agg _) rfl<|fun b3 w1 bq=>gO bq (v:= .agg _) rfl<|fun b6 w4 bY=>lN bY (aT fg)<|fun b9 w7 eX=>aa<|ai<|SR<|V (cC (cs:=VQ tb) Yt O O O (bj (eX.kz (Le.refl _) (fun x hx=>(mT (mT (mT (bH _ hx))))) _ _ hB)))<|aF (v:=I 0) rfl<|aa<|aA<|bt (G:=Int×El×(List bu)) (fun⟨k,e1,Z1⟩ s' w'=>(Fr (6::7::(rg 9 25 [])) _ s')/\(Hp W0 w' (_::_:: .blk b3 (.cells (iM e1) 37 (0,0))::Z1))/\(s' 9=I k)/\(0<=k)/\(k<=8)/\(e1=ng (pE tb a c) a k)/\(∃Zt,Z1=Zt++R/\wW 212 tl Zt)) (fun⟨k,e1,Z1⟩=>(8-k).toNat) ((0,a,(Z++R))) ⟨Fr.refl _ _,eX,rfl,J,J,(vX _ _).symm,⟨_,rfl,hZ⟩⟩<| ?_
 rintro⟨k,e1,Z1⟩ WR Eo ⟨nX,cg,Ou,h0,hk,hr,hS⟩
 obtain⟨qb,Q5,On,zm⟩:=nX.w4 3 4 5 8
 obtain⟨Zt,rfl,hZt⟩:=hS
 refine SR<|V (aN Ou O)<|aa<|ai<|aG O (fun h12=> ?_) (fun h12=> ?_)
 .refine an<|ai<|aA<|SR<|aF Ou<|V (L7 Yt isAgg198 sizeOf198 zm Ou J (asM _ J))<|aI rfl<| ?_
  refine V (run_assign bz) ?_
  refine aa<|ai<|SR<| ?_
  refine V (run_move bz) ?_
  refine V (Qy underlying198 O O)<|aa<|bX O (fun Gl=> ?_) (fun Gl=> ?_)
  .refine ai<|fX aQ cg (sP (sP (sQ (sA sR))))<|fun Tz cH=>have uk:=cH.sub (sP (sP (sQ (sA sR))));AQ 0 O uk (mV (I _) O)<| ?_
   refine AQ 1 O uk (run_move bz) ?_
   refine AQ 2 O uk (mV (I _) O)<|AQ 3 O uk (a7 bI cQ qb O J)<|AQ 5 O uk (mV (I _) O)<|AQ 6 O uk (a7 bI cQ Q5 O J)<|tV 7 O uk dO 1 O O (jM _ J)<|A1 4<|cf O aC O cH (sP (sP (sQ (sA sR)))) (aE dO O O (cH.cell (i:=2) O (jM _ J)))<|A1 8<| ?_
   obtain⟨⟨bi,ri⟩,hi⟩:=Option.isSome_iff_exists.1 ‹(tb k.toNat).isSome=true›
   obtain⟨z27,Y22,aF1,aF2,ay8⟩:=hZt.pick (htl _ J _ hi)
   refine yl O aC O (Et W0 bi ri z27 (Y22++([_,_,_]++R)) _ _ _ hT aF1 (Hp.axu (A:=[_,_,_]) cH aF2)) (bA call142 (aK aiu hi) O O) (fun u w' ⟨_,z',hz',h⟩=>let⟨Z',_,q2⟩:=ay8 z' hz';Hp.sub (L:=_::_::_::(Z'++R)) (Hp.apP (A:=[_,_,_]) h q2) (sP (sP (sQ (sA sR))))) ?_
   rintro _ Uq ⟨rfl,z34,aF3,rU⟩
   obtain⟨ay9,aF4,aF5⟩:=ay8 z34 aF3
   have ku:Hp _ Uq (_::_::_::(ay9++R)):=Hp.apP (A:=[_,_,_]) rU aF5
   refine AQ 9 O (ku.sub (sP (sP (sQ (sA sR))))) (a7 bI cQ qb O J)<|A1 10<|dW O aC ku (j:=2) O (sP (sP (sQ (sA sR)))) (bK O O (v:=U _) O O O (ku.blk (i:=2) O) yb)<|fun w37 uG=> ?_
   rw[oa]at uG
   refine AD<|a8 (id:=1) rfl<|au<|V (ax Ou O J)<|mI rfl<|aa<| ?_
   refine⟨(k+1,_,(ay9++R)),aX,nX.u4.u4.u4.u4.u1.u1.u1,uG,(aK I aM),J,J,?_,?_⟩
   .exact asN hr h0 hi
   exact⟨_,rfl,aF4⟩
  refine an<|fX aQ cg (sP (sP (sQ sR)))<|fun w39 lO=>have wK:=lO.sub (sP (sP (sQ sR)));AQ 0 O wK (mV (I _) O)<|AQ 1 O wK (a7 bI cQ qb O J)<|AQ 3 O wK (mV (I _) O)<|AQ 4 O wK (a7 bI cQ Q5 O J)<|tV 5 O wK dO 1 O O (jM _ J)<|A1 2<|cf O aC O lO (sP (sP (sQ sR))) (aE dO O O (lO.cell (i:=2) O (jM _ J)))<|AQ 6 O wK (iG O O)<|AQ 7 O wK (a7 bI cQ qb O J)<|A1 8<|dW O aC lO (j:=2) O (sP (sP (sQ sR))) (bK O O (v:=U _) O O O (lO.blk (i:=2) O) yb)<|fun w45 oq=> ?_
  rw[oa]at oq
  refine AD<|au<|V (ax Ou O J)<|mI rfl<|aa<| ?_
  refine⟨(k+1,_,(Zt++R)),aX,nX.u4.u4.u4.u4.u1,oq,(aK I aM),J,J,?_,?_⟩
  .exact axv hr h0 ‹(tb k.toNat).isSome=false›
  exact⟨_,rfl,hZt⟩
 refine a8 (id:=0) rfl<|SR<|V (cN bI O O qb (cg.blk (i:=2) O))<|bg cg (i:=0) O (cR O On O (cg.blk (i:=0) O))<|fun w47 jR=>aa<|aj<|qJ O On jR (i:=0) O bI O jJ ⟨aK Value.agg (mo LU),Zt,hZt,jR.sub (sQ (sQ (sQ sR)))⟩
theorem OG(s:kW)(w:World)(hs:lm (Kw w) s):Calls Tryz.prog 98 #[.agg (qW s)] w (j3 fun u w'=>∃(B:Nat) (tb:Kh) (tl:List (Nat×Rl)) (Zt:List bu),u= .func (.func 141) #[] #[.pointer (some ⟨B,0,none⟩)]/\aiw s.sh tb/\(∀i,i<8->∀p,tb i=some p->p∈tl)/\wW 212 tl Zt/\Hp w w' (Zt++[.blk B (.cells (VQ tb).toArray 199 (0,0))])):=by
 have BA:=hs.a6.small
 unfold maxLen at BA
 refine eH func98 rfl rfl fun hH=>SR<|gO hH (v:= .agg _) rfl<|fun b3 w1 bq=>va (v:= .nilFunc) rfl<|aa<|SR<|lN bq (aT Tryz.zeroValue199)<|fun b6 w4 bY=>aa<|ai<|SR<|V (fA dw 1 O jC O)<|lV di bY 1 O O rfl<|V (aD (hs.a6.sl.hp bY) O di O)<|aF (v:=I 0) rfl<|aa<|aA<|bt (G:=Int×(List (Nat×Rl))×Kh×(List bu)) (fun⟨k,tl,tb,Z⟩ s' w'=>(Fr (4::5::(rg 9 19 [])) _ s')/\(Hp w w' (.blk b6 (.cells ((VQ tb).toArray) 199 (0,0))::_::Z))/\(s' 9=I k)/\(0<=k)/\(k<=s.a6.length)/\(I4 s.sh k tb)/\(∀i,i<8->∀p,tb i=some p->p∈tl)/\(wW 212 tl Z)) (fun⟨k,tl,tb,Z⟩=>(s.a6.length-k).toNat) ((0,[],tb0,[])) ⟨Fr.refl _ _,bY,rfl,J,J,I4.start _,(fun i _ p hp=>(by cases hp)),rfl⟩<| ?_
 rintro⟨k,tl,tb,Z⟩ sg7 w7 ⟨Ep,eE,Px,h0,hk,hTo,htl,hZ⟩
 obtain⟨WU,aF6,aur⟩:=Ep.w3 3 7 8
 refine SR<|V (aN Px aur)<|aa<|ai<|aG O (fun h9=> ?_) (fun h9=> ?_)
 .refine an<|ai<|aA<|SR<|aF Px<|V (ah (hs.a6.sl.hp eE) di qn aF6 Px J)<|V (dY (dv:=iB) fC (hs.a6.sl.hp eE) dx O O O J)<|lN eE (aT uf)<|fun b12 Eo dr=>aI rfl<|bg dr (i:=0) O (sU (hs.at J J) O O O (dr.blk (i:=0) O))<|fun BR cD=>aa<|SR<|mI rfl<|V (aN O O)<|mB rfl<|bM 16 O (fun yt=> ?_) (fun yt=> ?_)
  .refine V (fA dx 0 O aP O)<|lI bx cD 0 O O rfl<|V (bW O O)<|mB rfl<|aa<|aG O (fun p9=> ?_) (fun p9=> ?_)
   .refine au<|mI rfl<|V (fA dx 2 O iV O)<|V (iT bS O O O (cD.blk (i:=0) O))<|V (dL (vs:=[(0,.agg (dV _))]) O (aeO _))<|gO cD (v:= .agg _) rfl<|fun b21 Q2 cP=>V (a7 Yt sizeOf198 WU O J)<|bg cP (i:=2) O (bK O O (v:=Pn _ _) O O O (cP.blk (i:=2) O) (by rw[vz,ann];omega))<|fun TD eP=> ?_
    rw[aiv tb (s.a6.getD k.toNat iB).rel]at eP
    have gM:Hp _ TD (_::_::_::([bu.blk b21 (.cells (lS (s.a6.getD k.toNat iB).rel 0 0 (.slice none 0 0) (.slice none 0 0)).toArray 212 (0,0))]++Z)):=Hp.Gh (Z:=[bu.blk b21 (.cells (lS (s.a6.getD k.toNat iB).rel 0 0 (.slice none 0 0) (.slice none 0 0)).toArray 212 (0,0))]) (L:=[_,_,_]) (L':=Z) eP
    refine aa<|au<|V (ax Px O J)<|mI rfl<|aa<| ?_
    refine⟨(k+1,((b21,(s.a6.getD k.toNat iB).rel)::tl),VR tb k.toNat (b21,(s.a6.getD k.toNat iB).rel),([bu.blk b21 (.cells (lS (s.a6.getD k.toNat iB).rel 0 0 (.slice none 0 0) (.slice none 0 0)).toArray 212 (0,0))]++Z)),aX,Ep.u4.u4.u4.u4.u4.u1,(Hp.conv (gM.sub (sQ sR)) aM),(aK I aM),J,J,?_,?_,?_⟩
    .exact hTo.put h0 (by rw[pB];omega) (by rw[iE];assumption) (by rw[iE];rfl)
    .exact anp htl
    exact wW.cons hZ
   refine an<|au<|V (ax Px O J)<|mI rfl<|aa<| ?_
   refine⟨(k+1,tl,tb,Z),aX,Ep.u4.u4.u4.u1.u1.u1,(Hp.conv (cD.sub (sQ sR)) aM),(aK I aM),J,J,?_,?_,?_⟩
   .exact hTo.skip h0 afU
   .exact htl
   exact hZ
  refine aF (v:=B false) rfl<|aa<|cT rfl<|an<|au<|V (ax Px O J)<|mI rfl<|aa<| ?_
  refine⟨(k+1,tl,tb,Z),aX,Ep.u4.u4.u4.u1.u1.u1,(Hp.conv (cD.sub (sQ sR)) aM),(aK I aM),J,J,?_,?_,?_⟩
  .exact hTo.skip h0 afU
  .exact htl
  exact hZ
 refine a8 (id:=0) rfl<|SR<|V (CD WU)<|va (v:= .func _ _ _) rfl<|aa<|aj<|jx rfl (v:= .func (.func 141) #[] #[.pointer (some ⟨b6,0,none⟩)]) rfl ⟨b6,tb,tl,Z,rfl,hTo.all (by rw[pB];omega),htl,hZ,(eE.sub (sP (sQ sR))).perm (uq (l₁:=[_]))⟩
theorem mC(W0:World)(m off:Nat)(C:Array Value)(te:TypeId)(x:Int)(L:List bu)(hx: -9000000000000000000<=x/\x<=9000000000000000000)(hc:C[off]?=some (I x))(w:World)(hH:Hp W0 w (.blk m (.cells C te (0,0))::L)):Calls Tryz.prog 61 #[.pointer (some ⟨m,off,none⟩),I 1] w (j3 fun u w'=>u=I (x+1)/\Hp W0 w' (.blk m (.cells (C.setIfInBounds off (I (x+1))) te (0,0))::L)):=by
 refine en func61 rfl rfl<|SR<|va (v:=I 0) rfl<|aa<|SR<|aF (v:=Pn _ _) rfl<|V (af O)<|V (fA underlying133 0 O sizeOf2 O)<|mI rfl<|V (ZE (run_call_add (P:=Tryz.prog) func106 aQ aQ aQ .i64 aQ (hH.cell (i:=0) O hc) (hH.fz (i:=0) O) (anr J)) O O)<|have bq:=hH.setCell (i:=0) (b:=m) (o:=off) (v:=I (x+1)) rfl;?_
 simp only[jd]at bq
 refine aI rfl<|aa<|aj<|jx O (v:=I (x+1)) O ⟨rfl,bq⟩
theorem oR(m:Nat)(c:Cn)(w:World)(hb:w.heap[m]?=some (.cells #[B true,I c.e,I c.l,I c.j] 135 (0,0))):Calls Tryz.prog 60 #[.pointer (some ⟨m,0,none⟩)] w (Pure (B true) w):=by
 refine eH func60 rfl rfl fun hH=>SR<|va (v:=B false) rfl<|aa<|SR<|aF (v:=Pn _ _) rfl<|V (Qy (o:=some (_,Rl.none)) Fl O O)<|mB rfl<|cF O rfl<|aF (v:=Pn _ _) rfl<|V (af O)<|V (fA RO 0 O oy O)<|V (aE xY O O (hH.eT hb (v:=B _) O))<|mB rfl<|aB rfl<|aa<|aj<|oB O ?_ hH
 rfl
theorem A8(m:Nat)(w:World):Calls Tryz.prog 63 #[.pointer (some ⟨m,0,none⟩)] w (Pure (.pointer (some ⟨m,1,none⟩)) w):=by
 refine eH func63 rfl rfl fun hH=>SR<|va (v:= .pointer none) rfl<|aa<|SR<|aF (v:=Pn _ _) rfl<|V (af O)<|V (fA RO 1 O sizeOf133 O)<|va (v:=Pn _ _) rfl<|aa<|aj<|Gu O ?_ hH.below
 rfl
theorem A9(m:Nat)(w:World):Calls Tryz.prog 65 #[.pointer (some ⟨m,0,none⟩)] w (Pure (.pointer (some ⟨m,2,none⟩)) w):=by
 refine eH func65 rfl rfl fun hH=>SR<|va (v:= .pointer none) rfl<|aa<|SR<|aF (v:=Pn _ _) rfl<|V (af O)<|V (fA RO 2 O sizeOf133 O)<|va (v:=Pn _ _) rfl<|aa<|aj<|Gu O ?_ hH.below
 rfl
theorem Ba(m:Nat)(w:World):Calls Tryz.prog 67 #[.pointer (some ⟨m,0,none⟩)] w (Pure (.pointer (some ⟨m,3,none⟩)) w):=by
 refine eH func67 rfl rfl fun hH=>SR<|va (v:= .pointer none) rfl<|aa<|SR<|aF (v:=Pn _ _) rfl<|V (af O)<|V (fA RO 3 O sizeOf133 O)<|va (v:=Pn _ _) rfl<|aa<|aj<|Gu O ?_ hH.below
 rfl
theorem akx(W0:World)(b2 m:Nat)(c:Cn)(L:List bu)(hc:c.ok)(w:World)(hB:Kz (Kw W0) L b2 (.cells #[pt m] 72 (0,0)))(hH:Hp W0 w (.blk m (.cells #[B true,I c.e,I c.l,I c.j] 135 (0,0))::L)):Calls Tryz.prog 59 #[.func (.func 63) #[] #[],.pointer (some ⟨b2,0,none⟩)] w (j3 fun u w'=>u= .tuple #[]/\Hp W0 w' (s0 TX m (Kd.e.up c)::L)):=by
 unfold Cn.ok at hc
 refine en func59 rfl rfl<|SR<|V (aE Fl rfl rfl (wo (hH.kz (Le.refl _) (fun x hx=>(mT hx)) _ _ hB) (v:=Pn _ _) O))<|aH O hH (oR _ _ _ (hH.blk (i:=0) O)) (ay call60 O)<|fun w1 bq=>aa<|cz rfl<|au<|aF (v:= .func _ _ _) rfl<|V (aE Fl O O (wo (bq.kz (Le.refl _) (fun x hx=>(mT hx)) _ _ hB) (v:=Pn _ _) O))<|aH O bq (A8 _ _) (lH call63 (cs:=[]) O O)<|fun w4 bY=>cG O (mC W0 m 1 _ _ c.e L J O _ bY) (aL call61 O O)<| ?_
 rintro _ w6 ⟨rfl,eE⟩
 refine aa<|rC O ⟨rfl,eE⟩
theorem aky(W0:World)(b2 m:Nat)(c:Cn)(L:List bu)(hc:c.ok)(w:World)(hB:Kz (Kw W0) L b2 (.cells #[pt m] 72 (0,0)))(hH:Hp W0 w (.blk m (.cells #[B true,I c.e,I c.l,I c.j] 135 (0,0))::L)):Calls Tryz.prog 59 #[.func (.func 65) #[] #[],.pointer (some ⟨b2,0,none⟩)] w (j3 fun u w'=>u= .tuple #[]/\Hp W0 w' (s0 TX m (Kd.l.up c)::L)):=by
 unfold Cn.ok at hc
 refine en func59 rfl rfl<|SR<|V (aE Fl rfl rfl (wo (hH.kz (Le.refl _) (fun x hx=>(mT hx)) _ _ hB) (v:=Pn _ _) O))<|aH O hH (oR _ _ _ (hH.blk (i:=0) O)) (ay call60 O)<|fun w1 bq=>aa<|cz rfl<|au<|aF (v:= .func _ _ _) rfl<|V (aE Fl O O (wo (bq.kz (Le.refl _) (fun x hx=>(mT hx)) _ _ hB) (v:=Pn _ _) O))<|aH O bq (A9 _ _) (lH call65 (cs:=[]) O O)<|fun w4 bY=>cG O (mC W0 m 2 _ _ c.l L J O _ bY) (aL call61 O O)<| ?_
 rintro _ w6 ⟨rfl,eE⟩
 refine aa<|rC O ⟨rfl,eE⟩
theorem akz(W0:World)(b2 m:Nat)(c:Cn)(L:List bu)(hc:c.ok)(w:World)(hB:Kz (Kw W0) L b2 (.cells #[pt m] 72 (0,0)))(hH:Hp W0 w (.blk m (.cells #[B true,I c.e,I c.l,I c.j] 135 (0,0))::L)):Calls Tryz.prog 59 #[.func (.func 67) #[] #[],.pointer (some ⟨b2,0,none⟩)] w (j3 fun u w'=>u= .tuple #[]/\Hp W0 w' (s0 TX m (Kd.j.up c)::L)):=by
 unfold Cn.ok at hc
 refine en func59 rfl rfl<|SR<|V (aE Fl rfl rfl (wo (hH.kz (Le.refl _) (fun x hx=>(mT hx)) _ _ hB) (v:=Pn _ _) O))<|aH O hH (oR _ _ _ (hH.blk (i:=0) O)) (ay call60 O)<|fun w1 bq=>aa<|cz rfl<|au<|aF (v:= .func _ _ _) rfl<|V (aE Fl O O (wo (bq.kz (Le.refl _) (fun x hx=>(mT hx)) _ _ hB) (v:=Pn _ _) O))<|aH O bq (Ba _ _) (lH call67 (cs:=[]) O O)<|fun w4 bY=>cG O (mC W0 m 3 _ _ c.j L J O _ bY) (aL call61 O O)<| ?_
 rintro _ w6 ⟨rfl,eE⟩
 refine aa<|rC O ⟨rfl,eE⟩
theorem Du(W0:World)(b5 b3 b2 m:Nat)(c:Cn)(fe:FuncId)(ae:List Value)(x1 x2:Value)(v u:Value)(ee:El)(bb:Bool)(Y R:List bu)(Q:List bu->Prop)(hc:c.ok)(w:World)(hfe:∀args w,(callFunc fe args).run Tryz.prog w= .ok (.enter fe args) w)(h5:Kz (Kw W0) R b5 (.cells #[jO 59 #[pt b2]] 139 (0,0)))(h2:Kz (Kw W0) R b2 (.cells #[pt m] 72 (0,0)))(h3:Kz (Kw W0) R b3 (.cells #[jO fe ae.toArray,x1,x2] 117 (0,0)))(hin:∀(w1:World) (A:List bu),Hp W0 w1 ((s0 TX m (Kd.e.up c)::Y)++(A++R))->Calls Tryz.prog fe (v::u::ae).toArray w1 (j3 fun x w'=>x= .tuple #[.agg (iM ee),B bb]/\∃Z',Q Z'/\Hp W0 w' (Z'++(A++R))))(hH:Hp W0 w ((s0 TX m c::Y)++R)):Calls Tryz.prog 62 #[v,u,.pointer (some ⟨b5,0,none⟩),.pointer (some ⟨b3,0,none⟩)] w (j3 fun x w'=>x= .tuple #[.agg (iM ee),B bb]/\∃Z',Q Z'/\Hp W0 w' (Z'++R)):=by
 refine en func62 rfl rfl<|SR<|lN hH (aT fg)<|fun b3 w1 bq=>va (v:=B false) rfl<|aa<|SR<|V (aE Yu O O (wo (bq.kz (Le.refl _) (fun x hx=>(mT (mT (bH _ hx)))) _ _ h5) (v:= .func _ _ _) O))<|have hF4:=Hp.sZ (A:=[_]) (Zf:=[_]) (R:=(Y++R)) bq;cG O (akx W0 b2 m c _ hc _ (Le.zz (fun x hx=>bH _ (bH _ hx)) _ _ h2) hF4) (lH call59 (cs:=[pt b2]) O O)<| ?_
 rintro _ w5 ⟨rfl,h6⟩
 have eE:Hp _ w5 (_::_::(Y++R)):=Hp.pn (A:=[_]) (Zf:=[_]) h6
 refine aa<|ai<|SR<|V (fA ru 0 O sizeOf114 O)<|V (aE RP O O (wo (eE.kz (Le.refl _) (fun x hx=>(mT (mT (bH _ hx)))) _ _ h3) (v:= .func _ _ _) O))<|V (VT RP O O)<|aa<|cT rfl<|an<|SR<|V (fA ru 0 O sizeOf114 O)<|V (aE RP O O (wo (eE.kz (Le.refl _) (fun x hx=>(mT (mT (bH _ hx)))) _ _ h3) (v:= .func _ _ _) O))<| ?_
 refine V (run_move bz) ?_
 refine V (run_move bz) ?_
 have hF8:=Hp.sZ (A:=[_]) (Zf:=_::Y) (R:=R) eE
 refine cG O (hin _ _ hF8) (iY hfe (cs:=ae) O O O) ?_
 rintro _ w9 ⟨rfl,Z',hq,h10⟩
 have dr:Hp _ w9 (_::(Z'++R)):=Hp.pn (A:=[_]) h10
 refine V (bk O (v:= .agg _) O)<|V (bk O (v:=B _) O)<|bg dr (i:=0) O (cR O O O (dr.blk (i:=0) O))<|fun BR cD=>aB rfl<|aa<|aj<|EK O O O cD (i:=0) O bI O jJ ⟨rfl,Z',hq,cD.sub (sQ sR)⟩
theorem Dv(W0:World)(b5 b3 b2 m:Nat)(c:Cn)(fe:FuncId)(ae:List Value)(x1 x2:Value)(a b:El)(bb:Bool)(Y R:List bu)(Q:List bu->Prop)(hc:c.ok)(w:World)(hfe:∀args w,(callFunc fe args).run Tryz.prog w= .ok (.enter fe args) w)(h5:Kz (Kw W0) R b5 (.cells #[jO 59 #[pt b2]] 139 (0,0)))(h2:Kz (Kw W0) R b2 (.cells #[pt m] 72 (0,0)))(h3:Kz (Kw W0) R b3 (.cells #[x1,jO fe ae.toArray,x2] 117 (0,0)))(hin:∀(w1:World) (A:List bu),Hp W0 w1 ((s0 TX m (Kd.l.up c)::Y)++(A++R))->Calls Tryz.prog fe (.agg (iM a):: .agg (iM b)::ae).toArray w1 (j3 fun x w'=>x=B bb/\∃Z',Q Z'/\Hp W0 w' (Z'++(A++R))))(hH:Hp W0 w ((s0 TX m c::Y)++R)):Calls Tryz.prog 64 #[.agg (iM a),.agg (iM b),.pointer (some ⟨b5,0,none⟩),.pointer (some ⟨b3,0,none⟩)] w (j3 fun x w'=>x=B bb/\∃Z',Q Z'/\Hp W0 w' (Z'++R)):=by
 refine en func64 rfl rfl<|SR<|gO hH (v:= .agg _) rfl<|fun b3 w1 bq=>gO bq (v:= .agg _) rfl<|fun b6 w4 bY=>va (v:=B false) rfl<|aa<|SR<|V (aE Yu O O (wo (bY.kz (Le.refl _) (fun x hx=>(mT (mT (mT (bH _ hx))))) _ _ h5) (v:= .func _ _ _) O))<|have hF7:=Hp.sZ (A:=[_,_]) (Zf:=[_]) (R:=(Y++R)) bY;cG O (aky W0 b2 m c _ hc _ (Le.zz (fun x hx=>bH _ (bH _ hx)) _ _ h2) hF7) (lH call59 (cs:=[pt b2]) O O)<| ?_
 rintro _ w8 ⟨rfl,h9⟩
 have cg:Hp _ w8 (_::_::_::(Y++R)):=Hp.pn (A:=[_,_]) (Zf:=[_]) h9
 refine aa<|SR<|V (fA ru 1 O sizeOf65 O)<|V (aE LN O O (wo (cg.kz (Le.refl _) (fun x hx=>(mT (mT (mT (bH _ hx))))) _ _ h3) (v:= .func _ _ _) O))<|V (VU LN O O)<|mB rfl<|cF O rfl<|V (fA ru 1 O sizeOf65 O)<|V (aE LN O O (wo (cg.kz (Le.refl _) (fun x hx=>(mT (mT (mT (bH _ hx))))) _ _ h3) (v:= .func _ _ _) O))<|V (cN bI O O O (cg.blk (i:=1) O))<|V (cN bI O O O (cg.blk (i:=0) O))<|have aF7:=Hp.sZ (A:=[_,_]) (Zf:=_::Y) (R:=R) cg;cG O (hin _ _ aF7) (iY hfe (cs:=ae) O O O)<| ?_
 rintro _ zl ⟨rfl,Z',hq,TB⟩
 have cD:Hp _ zl (_::_::(Z'++R)):=Hp.pn (A:=[_,_]) TB
 refine mB rfl<|aB rfl<|aa<|aj<|jx O (v:=B bb) O ⟨rfl,Z',hq,cD.sub (sQ (sQ sR))⟩
theorem Dw(W0:World)(b5 b3 b2 m:Nat)(c:Cn)(fe:FuncId)(ae:List Value)(x1 x2:Value)(a b:El)(ee:El)(Y R:List bu)(Q:List bu->Prop)(hc:c.ok)(w:World)(hfe:∀args w,(callFunc fe args).run Tryz.prog w= .ok (.enter fe args) w)(h5:Kz (Kw W0) R b5 (.cells #[jO 59 #[pt b2]] 139 (0,0)))(h2:Kz (Kw W0) R b2 (.cells #[pt m] 72 (0,0)))(h3:Kz (Kw W0) R b3 (.cells #[x1,x2,jO fe ae.toArray] 117 (0,0)))(hin:∀(w1:World) (A:List bu),Hp W0 w1 ((s0 TX m (Kd.j.up c)::Y)++(A++R))->Calls Tryz.prog fe (.agg (iM a):: .agg (iM b)::ae).toArray w1 (j3 fun x w'=>x= .agg (iM ee)/\∃Z',Q Z'/\Hp W0 w' (Z'++(A++R))))(hH:Hp W0 w ((s0 TX m c::Y)++R)):Calls Tryz.prog 66 #[.agg (iM a),.agg (iM b),.pointer (some ⟨b5,0,none⟩),.pointer (some ⟨b3,0,none⟩)] w (j3 fun x w'=>x= .agg (iM ee)/\∃Z',Q Z'/\Hp W0 w' (Z'++R)):=by
 refine en func66 rfl rfl<|SR<|gO hH (v:= .agg _) rfl<|fun b3 w1 bq=>gO bq (v:= .agg _) rfl<|fun b6 w4 bY=>lN bY (aT fg)<|fun b9 w7 eX=>aa<|SR<|V (aE Yu O O (wo (eX.kz (Le.refl _) (fun x hx=>(mT (mT (mT (mT (bH _ hx)))))) _ _ h5) (v:= .func _ _ _) O))<|have aF8:=Hp.sZ (A:=[_,_,_]) (Zf:=[_]) (R:=(Y++R)) eX;cG O (akz W0 b2 m c _ hc _ (Le.zz (fun x hx=>bH _ (bH _ hx)) _ _ h2) aF8) (lH call59 (cs:=[pt b2]) O O)<| ?_
 rintro _ Je ⟨rfl,h12⟩
 have bV:Hp _ Je (_::_::_::_::(Y++R)):=Hp.pn (A:=[_,_,_]) (Zf:=[_]) h12
 refine aa<|ai<|SR<|V (fA ru 2 O sizeOf115 O)<|V (aE LJ O O (wo (bV.kz (Le.refl _) (fun x hx=>(mT (mT (mT (mT (bH _ hx)))))) _ _ h3) (v:= .func _ _ _) O))<|V (VT LJ O O)<|aa<|cT rfl<|an<|SR<|V (fA ru 2 O sizeOf115 O)<|V (aE LJ O O (wo (bV.kz (Le.refl _) (fun x hx=>(mT (mT (mT (mT (bH _ hx)))))) _ _ h3) (v:= .func _ _ _) O))<|V (cN bI O O O (bV.blk (i:=2) O))<|V (cN bI O O O (bV.blk (i:=1) O))<|have aF9:=Hp.sZ (A:=[_,_,_]) (Zf:=_::Y) (R:=R) bV;cG O (hin _ _ aF9) (iY hfe (cs:=ae) O O O)<| ?_
 rintro _ Tz ⟨rfl,Z',hq,yt⟩
 have er:Hp _ Tz (_::_::_::(Z'++R)):=Hp.pn (A:=[_,_,_]) yt
 refine bg er (i:=0) O (cR O O O (er.blk (i:=0) O))<|fun Lf iC=>aa<|aj<|qJ O O iC (i:=0) O bI O jJ ⟨rfl,Z',hq,iC.sub (sQ (sQ (sQ sR)))⟩
theorem TS(Bk:Nat)(s:kW)(v:Value)(l:List dX)(u:Value)(vs:List El)(hl:l.length<=1000)(w:World)(hs:Sl w v 10 l.length (l.flatMap kq))(ht:Sl w u 8 vs.length (vs.flatMap pM))(hsh:lm (Kw w) s)(hb:w.heap[Bk]?=some (.cells (qW s) 56 (0,0)))(hT:pc w):Calls Tryz.prog 95 #[v,u,.pointer (some ⟨Bk,0,none⟩)] w (Pure (.tuple #[.agg (iM (eA s.sh l vs).1),B (eA s.sh l vs).2]) w):=by
 refine eH func95 rfl rfl fun hH=>SR<|lN hH (aT fg)<|fun b3 w1 bq=>va (v:=B false) rfl<|aa<|SR<|V (cC (cs:=[B _,_]) dw O O O (bj (bq.ext hb)))<| ?_
 refine V (run_move bz) ?_
 refine V (run_move bz) ?_
 refine aH O bq (Xb _ _ _ _ _ J _ (hs.hp bq) (ht.hp bq) (hsh.mono bq.kw) (hT.hp bq)) (bA call96 O O O)<|fun w4 bY=>V (bk O (v:= .agg _) O)<|V (bk O (v:=B _) O)<|bg bY (i:=0) O (cR O O O (bY.blk (i:=0) O))<|fun w7 eX=>aB rfl<|aa<|aj<|EK O O O eX (i:=0) O bI O jJ ⟨?_,eX.below⟩
 rfl
theorem OH(K:Vu)(s:kW)(hfn:s.a6.length<=1000)(hnn:∀f∈s.a6,f.names.length<=1000)(w:World)(hK:Le K (Kw w))(hs:lm K s):Calls Tryz.prog 52 #[.agg (qW s)] w (j3 fun u w'=>∃(f1 f2 f3:FuncId) (a1 a2 a3:Array Value) (p:kW) (tb:Kh) (tl:List (Nat×Rl)) (Zt Z:List bu),u= .agg #[jO f1 a1,jO f2 a2,jO f3 a3]/\BK TX (Kz K Z) (.base p tb) (jO f1 a1) (jO f2 a2) (jO f3 a3)/\p.sh=s.sh/\aiw p.sh tb/\(∀i,i<8->∀q,tb i=some q->q∈tl)/\wW 212 tl Zt/\Hp w w' (Zt++Z)):=by
 refine eH func52 rfl rfl fun hH=>SR<|gO hH (v:= .agg _) rfl<|fun b3 w1 bq=>lN bq (aT WC)<|fun b6 w4 bY=>aa<|SR<|V (cC (cs:=[B _,_]) dw O O O (bj (bY.blk (i:=1) O)))<|ud 1 1 bY (MU RN O O O (l:=[s]) O az az O)<|fun b9 w7 eX=>IN O eX (Bz K (.slice (some ⟨b9,0,none⟩) 1 1) [s] (show 1<=1000 by decide) (by simpa using hfn) (by simpa using hnn) _ (hK.trans eX.kw) (Hp.gR MS eX (i:=0) (l:=[s]) O (show 1<=maxLen by decide)) ⟨fun x hx=>by rw[gG.1 hx];exact hs⟩) (ay call51 O)<|fun v12 BR Z15 cD aGa=>have er:Hp _ BR (_::_::_::Z15):=cD.amN (L:=[_,_,_]);?_
 obtain⟨p18,rfl,aza,aus⟩:=aGa
 refine lN er (aT Tryz.zeroValue56)<|fun b23 N4 cK=>bg cK (i:=0) O (DY aus O O O (cK.blk (i:=0) O) O)<|fun w24 om=>aa<|SR<|V (fA dw 0 O oy O)<|V (aE xY O O (om.cell (i:=3) O (v:=B _) O))<|V (fA dw 0 O oy O)<|bg (c':=#[B s.tuple,p18.fv]) om (i:=0) O (bK (off:=0+0) O O (v:=B s.tuple) O O O (om.blk (i:=0) O) aJ)<|fun w27 iJ=>have XF:lm _ ⟨s.tuple,p18.fv,p18.a6⟩:=⟨aus.a6,aus.each⟩;aa<|SR<| ?_
 refine V (CD bz) ?_
 refine V (cC (cs:=[B _,_]) dw O O O (bj (iJ.blk (i:=0) O)))<|cG O (OG ⟨s.tuple,p18.fv,p18.a6⟩ _ (XF.mono (iJ.kz hK (fun x hx=>(mT (mT (mT (mT hx)))))))) (ay call98 O)<| ?_
 rintro _ w33 ⟨azb,azc,aGb,akB,rfl,azd,aze,azf,h37⟩
 have uG:Hp _ w33 (_::_::_::_::((akB++[_])++Z15)):=Hp.pn (A:=[_,_,_,_]) (Zf:=akB++[_]) (R:=Z15) (iJ.GH h37)
 refine V (dL (vs:=[(0,jO _ _),(1,jO _ _),(2,jO _ _)]) O (aeP _ _ _ _ _ _))<|bg uG (i:=2) O (dK O O O (by simp[Value.oneCell',pt,jO]) (uG.blk (i:=2) O) O)<|fun w39 lO=>aa<|aj<|have jW:Hp _ w39 (_::_::_::([bu.blk b23 (.cells ([B s.tuple,p18.fv]).toArray 56 (0,0))]++((akB++[_])++Z15))):=Hp.Gh (Z:=[bu.blk b23 (.cells ([B s.tuple,p18.fv]).toArray 56 (0,0))]) (L:=[_,_,_]) (L':=((akB++[_])++Z15)) lO;qJ O O jW (i:=1) O ru O O ⟨_,_,_,_,_,_,⟨s.tuple,p18.fv,p18.a6⟩,azc,aGb,akB,([bu.blk b23 (.cells ([B s.tuple,p18.fv]).toArray 56 (0,0))]++([bu.blk azb (.cells (VQ azc).toArray 199 (0,0))]++Z15)),rfl,⟨b23,azb,rfl,rfl,rfl,.inr aJ,XF.mono (Le.zz fun x hx=>rz),.inr aJ⟩,?_,azd,aze,azf,?_⟩
 .have hq:=aK Sh.a6 aza;simp only[Bj,uM,List.flatMap_nil,mG]at hq
  show(⟨s.tuple,p18.a6.map qI.fc⟩:Sh)=s.sh;rw[show p18.a6.map qI.fc=s.sh.a6 from hq];rfl
 exact(jW.sub (sQ (sQ (sQ sR)))).perm (by rw[dH];exact xf _ _ _)
section
theorem azg{K:Vu}{d:Wr}{e l j:Value}(h:BK TX K d e l j):asO Tryz.prog e:=by
 cases d with
 |base p tb=>obtain⟨B1,B2,rfl,rfl,rfl,-⟩:=h;exact⟨_,_,rfl,call95⟩
 |wrap m d=>obtain⟨b2,b3,b5,e',l',j',rfl,rfl,rfl,-⟩:=h;exact⟨_,_,rfl,call62⟩
theorem akC(W0:World)(ids:List Nat)(tl:List (Nat×Rl))(hT:pc W0)(v:Value)(il:List dX)(u:Value)(vs:List El)(hil:il.length<=1000)(d:Wr):∀(n:Nat) (f:Ct) (Z R:List bu) (e l j:Value) (w:World),BK TX (Kz (Kw W0) R) d e l j->d.Fz ids tl->kY (BN fr) ids f tl Z->FO n f->n+d.dep<=1000000000000->(∀Z' w',Hp W0 w' (Z'++R)->Sl w' v 10 il.length (il.flatMap kq))->(∀Z' w',Hp W0 w' (Z'++R)->Sl w' u 8 vs.length (vs.flatMap pM))->Hp W0 w (Z++R)->
  Az Tryz.prog e [v,u] w (j3 fun x w'=>x= .tuple #[.agg (iM (eA d.sh.sh il vs).1),B (eA d.sh.sh il vs).2]/\∃Z',kY (BN fr) ids (d.tick .e f) tl Z'/\Hp W0 w' (Z'++R)):=by
 induction d with
 |base p tb=>
  intro n f Z R e l j w hO hi hZ hf hn hs ht hH
  obtain⟨B1,B2,rfl,rfl,rfl,h4,h5,h6⟩:=hO
  have hk:=hH.kz (Le.refl _) (Z:=R) fun x hx=>bH _ hx
  refine⟨_,[pt B1],rfl,call95,?_⟩
  exact(TS B1 p v il u vs hil w (hs Z w hH) (ht Z w hH) (h5.mono hk) (hk _ _ h4) (hT.hp hH)).mono fun x w' hx=>j3.mono (fun y w2 hy=>⟨hy.1,Z,hZ,hH.call hy.2⟩) hx
 |wrap m d ih=>
  intro n f Z R e l j w hO hi hZ hf hn hs ht hH
  obtain⟨b2,b3,b5,e',l',j',rfl,rfl,rfl,h5,h2,h3,hd⟩:=hO
  obtain⟨fe,ce,he,hfe⟩:=azg hd
  subst he
  obtain⟨Y,hp,hq⟩:=hZ.pick hi.1 hH
  obtain⟨Z1,hz1,hp1⟩:=hq (Kd.e.up (f m))
  have hn':n+(d.dep+1)<=1000000000000:=hn
  refine⟨_,[pt b5,pt b3],rfl,call62,?_⟩
  refine Du W0 b5 b3 b2 m (f m) fe ce _ _ v u (eA d.sh.sh il vs).1 (eA d.sh.sh il vs).2 Y R (fun Z'=>kY (BN fr) ids (d.tick .e (jV .e m f)) tl Z') (hf.ok J m) w hfe h5 h2 h3 (fun w1 A h=> ?_) (hH.perm (hp.append_right R))
  exact(ih (n+1) (jV .e m f) Z1 (A++R) _ _ _ w1 (hd.mono (Le.zz fun x hx=>bH _ hx)) hi.2 hz1 (hf.tick _ m) J (fun Z' w' h=>hs (Z'++A) w' (by rw[dH];exact h)) (fun Z' w' h=>ht (Z'++A) w' (by rw[dH];exact h)) (h.perm (hp1.append_right _))).get
theorem azi{K:Vu}{d:Wr}{e l j:Value}(h:BK TX K d e l j):asO Tryz.prog l:=by
 cases d with
 |base p tb=>obtain⟨B1,B2,rfl,rfl,rfl,-⟩:=h;exact⟨_,_,rfl,call97⟩
 |wrap m d=>obtain⟨b2,b3,b5,e',l',j',rfl,rfl,rfl,-⟩:=h;exact⟨_,_,rfl,call64⟩
theorem akD(W0:World)(ids:List Nat)(tl:List (Nat×Rl))(hT:pc W0)(a b:El)(d:Wr):∀(n:Nat) (f:Ct) (Z R:List bu) (e l j:Value) (w:World),BK TX (Kz (Kw W0) R) d e l j->d.Fz ids tl->kY (BN fr) ids f tl Z->FO n f->n+d.dep<=1000000000000->Hp W0 w (Z++R)->
  Az Tryz.prog l [.agg (iM a),.agg (iM b)] w (j3 fun x w'=>x=B (cS a b)/\∃Z',kY (BN fr) ids (d.tick .l f) tl Z'/\Hp W0 w' (Z'++R)):=by
 induction d with
 |base p tb=>
  intro n f Z R e l j w hO hi hZ hf hn hH
  obtain⟨B1,B2,rfl,rfl,rfl,h4,h5,h6⟩:=hO
  have hk:=hH.kz (Le.refl _) (Z:=R) fun x hx=>bH _ hx
  refine⟨_,[],rfl,call97,?_⟩
  exact(WY a b w).mono fun x w' hx=>j3.mono (fun y w2 hy=>⟨hy.1,Z,hZ,hH.call hy.2⟩) hx
 |wrap m d ih=>
  intro n f Z R e l j w hO hi hZ hf hn hH
  obtain⟨b2,b3,b5,e',l',j',rfl,rfl,rfl,h5,h2,h3,hd⟩:=hO
  obtain⟨fe,ce,he,hfe⟩:=azi hd
  subst he
  obtain⟨Y,hp,hq⟩:=hZ.pick hi.1 hH
  obtain⟨Z1,hz1,hp1⟩:=hq (Kd.l.up (f m))
  have hn':n+(d.dep+1)<=1000000000000:=hn
  refine⟨_,[pt b5,pt b3],rfl,call64,?_⟩
  refine Dv W0 b5 b3 b2 m (f m) fe ce _ _ a b (cS a b) Y R (fun Z'=>kY (BN fr) ids (d.tick .l (jV .l m f)) tl Z') (hf.ok J m) w hfe h5 h2 h3 (fun w1 A h=> ?_) (hH.perm (hp.append_right R))
  exact(ih (n+1) (jV .l m f) Z1 (A++R) _ _ _ w1 (hd.mono (Le.zz fun x hx=>bH _ hx)) hi.2 hz1 (hf.tick _ m) J (h.perm (hp1.append_right _))).get
theorem azj{K:Vu}{d:Wr}{e l j:Value}(h:BK TX K d e l j):asO Tryz.prog j:=by
 cases d with
 |base p tb=>obtain⟨B1,B2,rfl,rfl,rfl,-⟩:=h;exact⟨_,_,rfl,call141⟩
 |wrap m d=>obtain⟨b2,b3,b5,e',l',j',rfl,rfl,rfl,-⟩:=h;exact⟨_,_,rfl,call66⟩
theorem akE(W0:World)(ids:List Nat)(tl:List (Nat×Rl))(hT:pc W0)(a b:El)(d:Wr):∀(n:Nat) (f:Ct) (Z R:List bu) (e l j:Value) (w:World),BK TX (Kz (Kw W0) R) d e l j->d.Fz ids tl->kY (BN fr) ids f tl Z->FO n f->n+d.dep<=1000000000000->Hp W0 w (Z++R)->
  Az Tryz.prog j [.agg (iM a),.agg (iM b)] w (j3 fun x w'=>x= .agg (iM (pE d.tb a b))/\∃Z',kY (BN fr) ids (d.tick .j f) tl Z'/\Hp W0 w' (Z'++R)):=by
 induction d with
 |base p tb=>
  intro n f Z R e l j w hO hi hZ hf hn hH
  obtain⟨B1,B2,rfl,rfl,rfl,h4,h5,h6⟩:=hO
  have hk:=hH.kz (Le.refl _) (Z:=R) fun x hx=>bH _ hx
  refine⟨_,[pt B2],rfl,call141,?_⟩
  obtain⟨Zt,hzt,rfl⟩:=hZ
  refine(Jq W0 B2 tb tl Zt ((ids.map (fun m=>s0 TX m (f m))++fr)++R) a b w hT hi.2 (Le.zz (fun x hx=>bH _ hx) _ _ h6) hzt (hH.perm (by rw[dH];exact xf _ _ _))).mono fun x w' hx=>j3.mono (fun y w2 hy=>⟨hy.1,?_⟩) hx
  obtain⟨-,Z',hz',h'⟩:=hy
  exact⟨_,⟨Z',hz',rfl⟩,h'.perm (by rw[dH (_++_) Z' R];exact xf _ _ _)⟩
 |wrap m d ih=>
  intro n f Z R e l j w hO hi hZ hf hn hH
  obtain⟨b2,b3,b5,e',l',j',rfl,rfl,rfl,h5,h2,h3,hd⟩:=hO
  obtain⟨fe,ce,he,hfe⟩:=azj hd
  subst he
  obtain⟨Y,hp,hq⟩:=hZ.pick hi.1 hH
  obtain⟨Z1,hz1,hp1⟩:=hq (Kd.j.up (f m))
  have hn':n+(d.dep+1)<=1000000000000:=hn
  refine⟨_,[pt b5,pt b3],rfl,call66,?_⟩
  refine Dw W0 b5 b3 b2 m (f m) fe ce _ _ a b (pE d.tb a b) Y R (fun Z'=>kY (BN fr) ids (d.tick .j (jV .j m f)) tl Z') (hf.ok J m) w hfe h5 h2 h3 (fun w1 A h=> ?_) (hH.perm (hp.append_right R))
  exact(ih (n+1) (jV .j m f) Z1 (A++R) _ _ _ w1 (hd.mono (Le.zz fun x hx=>bH _ hx)) hi.2 hz1 (hf.tick _ m) J (h.perm (hp1.append_right _))).get
end
end
section
open Go Go.RowKit Go.Proofs.YtlhjdflgjbkpmaaGreatDoor.E Go.Proofs.YtlhjdflgjbkpmaaGreatDoor.M
set_option maxRecDepth 100000
open Go.Proofs.Tryz
abbrev FX:FTy:=(⟨(⟨134,243,193,3,35,8⟩:UT),111,35,1,3⟩:FTy)
theorem xL{nA nB nC nD nE nF nG nH nI nJ nK nL:Value}(F:Nat)(vW vU vT:Value)(cnt:Int)(W:List (BitVec 64))(w:World)(hb:w.heap[F]?=some (.cells #[nA,nB,nC,nD,nE,nF,nG,nH,vW,vU,vT,I cnt,nI,nJ,nK,nL] 111 (0,0)))(hW:Sl w vW 1 W.length (W.map U)):Calls Tryz.prog 133 #[.pointer (some ⟨F,8,none⟩)] w (Pure (I W.length) w):=by
 refine eH func133 rfl rfl fun hH=>SR<|va (v:=I 0) rfl<|aa<|ai<|SR<|aF (v:=Pn _ _) rfl<|V (k9 l8 O O)<|aa<|cT rfl<|an<|SR<|aF (v:=Pn _ _) rfl<|V (af O)<|V (fA mH 0 O jB O)<|V (aE dg O O (hH.eT hb O))<|V (aD (hW.hp hH) O dg O)<|aI rfl<|aa<|aj<|oI O ?_ hH
 rfl
theorem zA{nA nB nC nD nE nF nG nH nI nJ nK nL:Value}(F:Nat)(vW vU vT:Value)(cnt:Int)(W:List (BitVec 64))(i:Int)(w:World)(hb:w.heap[F]?=some (.cells #[nA,nB,nC,nD,nE,nF,nG,nH,vW,vU,vT,I cnt,nI,nJ,nK,nL] 111 (0,0)))(hW:Sl w vW 1 W.length (W.map U)):Calls Tryz.prog 218 #[.pointer (some ⟨F,8,none⟩),I i] w (Pure (B (decide (0<=i/\i<W.length))) w):=by
 refine eH func218 rfl rfl fun hH=>SR<|va (v:=B false) rfl<|aa<|SR<|mI rfl<|V (dF O O)<|mB rfl<|bM 7 O (fun h2=> ?_) (fun h2=> ?_)
 .refine mI rfl<|aF (v:=Pn _ _) rfl<|aH O hH (xL _ _ _ _ _ _ _ (hH.ext hb) (hW.hp hH)) (ay call133 O)<|fun w3 ix=>V (aN O O)<|mB rfl<|aB rfl<|aa<|aj<|oB O ?_ ix
  (simp;omega)
 refine aF (v:=B false) rfl<|aB rfl<|aa<|aj<|oB O ?_ hH
 (rw[hG J];done)
theorem HA{nA nB nC nD nE nF nG nH nI nJ nK nL:Value}(F:Nat)(vW vU vT:Value)(cnt:Int)(W:List (BitVec 64))(i:Int)(hi:0<=i/\i<W.length)(w:World)(hb:w.heap[F]?=some (.cells #[nA,nB,nC,nD,nE,nF,nG,nH,vW,vU,vT,I cnt,nI,nJ,nK,nL] 111 (0,0)))(hW:Sl w vW 1 W.length (W.map U)):Calls Tryz.prog 190 #[.pointer (some ⟨F,8,none⟩),I i] w (Pure (U (W.getD i.toNat 0)) w):=by
 refine eH func190 rfl rfl fun hH=>SR<|va (v:=U 0#64) rfl<|aa<|ai<|SR<|aF (v:=Pn _ _) rfl<|mI rfl<|aH O hH (zA _ _ _ _ _ _ _ _ (hH.ext hb) (hW.hp hH)) (aL call218 O O)<|fun w1 bq=>V (vH O)<|aa<|aG O (fun h6=> ?_) (fun h6=> ?_)
 .refine SR<|va (v:=U 0#64) rfl<|aa<|aj<|oU O ?_ bq
  omega
 refine an<|SR<|aF (v:=Pn _ _) rfl<|V (af O)<|V (fA mH 0 O jB O)<|V (aE dg O O (bq.eT hb O))<|mI rfl<|V (ah (hW.hp bq) dg cQ O O J)<|V (aE dO O O (Sl.atU (hW.hp bq) J J))<|aU rfl<|aa<|aj<|oU O ?_ bq
 rfl
theorem m4{nA nB nC nD nE nF nG nH nI nJ nK nL:Value}(F:Nat)(vW vU vT:Value)(cnt:Int)(W:List (BitVec 64))(us:List Value)(w:World)(hb:w.heap[F]?=some (.cells #[nA,nB,nC,nD,nE,nF,nG,nH,vW,vU,vT,I cnt,nI,nJ,nK,nL] 111 (0,0)))(hW:Sl w vW 1 W.length (W.map U))(hU:Sl w vU 1 us.length us):Calls Tryz.prog 90 #[.pointer (some ⟨F,8,none⟩)] w (Pure (I us.length) w):=by
 refine eH func90 rfl rfl fun hH=>SR<|va (v:=I 0) rfl<|aa<|ai<|SR<|aF (v:=Pn _ _) rfl<|V (k9 l8 O O)<|aa<|cT rfl<|an<|SR<|aF (v:=Pn _ _) rfl<|V (af O)<|V (fA mH 1 O kB O)<|V (aE ia O O (hH.eT hb O))<|V (aD (hU.hp hH) O ia O)<|aI rfl<|aa<|aj<|oI O ?_ hH
 rfl
theorem dz{nA nB nC nD nE nF nG nH nI nJ nK nL:Value}(F:Nat)(vW vU vT:Value)(cnt:Int)(W:List (BitVec 64))(i k:Int)(hi:0<=i/\i<1000000/\0<=k/\k<4/\4*i+k<W.length)(w:World)(hb:w.heap[F]?=some (.cells #[nA,nB,nC,nD,nE,nF,nG,nH,vW,vU,vT,I cnt,nI,nJ,nK,nL] 111 (0,0)))(hW:Sl w vW 1 W.length (W.map U)):Calls Tryz.prog 159 #[.pointer (some ⟨F,8,none⟩),I i,I k] w (Pure (I (W.getD (4*i+k).toNat 0).toInt) w):=by
 refine eH func159 rfl rfl fun hH=>SR<|va (v:=I 0) rfl<|aa<|SR<|aF (v:=Pn _ _) rfl<|V (af O)<|V (fA zP 0 O zU O)<|mI rfl<|V (z8 O O J)<|mI rfl<|V (ax O O J)<|aH O hH (HA _ _ _ _ _ _ _ J _ (hH.ext hb) (hW.hp hH)) (aL call190 O O)<|fun w1 bq=>V (YK dO bx O)<|aI rfl<|aa<|aj<|oI O ?_ bq
 rfl
theorem lW{nA nB nC nD nE nF nG nH nI nJ nK nL:Value}(F:Nat)(vW vU vT:Value)(cnt:Int)(nd:List qN)(hn:nd.length<=1000000)(w:World)(hb:w.heap[F]?=some (.cells #[nA,nB,nC,nD,nE,nF,nG,nH,vW,vU,vT,I cnt,nI,nJ,nK,nL] 111 (0,0)))(hW:Sl w vW 1 (bE nd).length ((bE nd).map U)):Calls Tryz.prog 89 #[.pointer (some ⟨F,8,none⟩)] w (Pure (I nd.length) w):=by
 have Ur:=iF nd
 refine eH func89 rfl rfl fun hH=>SR<|va (v:=I 0) rfl<|aa<|ai<|SR<|aF (v:=Pn _ _) rfl<|V (k9 LK O O)<|aa<|cT rfl<|an<|SR<|aF (v:=Pn _ _) rfl<|V (af O)<|V (fA iy 0 O vD O)<|V (fA zP 0 O zU O)<|aH O hH (xL _ _ _ _ _ _ _ (hH.ext hb) (hW.hp hH)) (ay call133 O)<|fun w1 bq=>V (amd O O J J)<|aI rfl<|aa<|aj<|oI O ?_ bq
 omega
theorem m5{nA nB nC nD nE nF nG nH nI nJ nK nL:Value}(F:Nat)(vW vU vT:Value)(cnt:Int)(nd:List qN)(i:Int)(hn:nd.length<=1000000)(w:World)(hb:w.heap[F]?=some (.cells #[nA,nB,nC,nD,nE,nF,nG,nH,vW,vU,vT,I cnt,nI,nJ,nK,nL] 111 (0,0)))(hW:Sl w vW 1 (bE nd).length ((bE nd).map U)):Calls Tryz.prog 158 #[.pointer (some ⟨F,8,none⟩),I i] w (Pure (B (decide (0<=i/\i<nd.length))) w):=by
 refine eH func158 rfl rfl fun hH=>SR<|va (v:=B false) rfl<|aa<|SR<|mI rfl<|V (dF O O)<|mB rfl<|bM 7 O (fun h2=> ?_) (fun h2=> ?_)
 .refine mI rfl<|aF (v:=Pn _ _) rfl<|aH O hH (lW _ _ _ _ _ _ jK _ (hH.ext hb) (hW.hp hH)) (ay call89 O)<|fun w3 ix=>V (aN O O)<|mB rfl<|aB rfl<|aa<|aj<|oB O ?_ ix
  (simp;omega)
 refine aF (v:=B false) rfl<|aB rfl<|aa<|aj<|oB O ?_ hH
 (rw[hG J];done)
theorem B4{nA nB nC nD nE nF nG nH nI nJ nK nL:Value}(F:Nat)(vW vU vT:Value)(cnt:Int)(W:List (BitVec 64))(w:World)(hb:w.heap[F]?=some (.cells #[nA,nB,nC,nD,nE,nF,nG,nH,vW,vU,vT,I cnt,nI,nJ,nK,nL] 111 (0,0)))(hW:Sl w vW 1 W.length (W.map U)):Calls Tryz.prog 123 #[.pointer (some ⟨F,8,none⟩)] w (Pure (I cnt) w):=by
 refine eH func123 rfl rfl fun hH=>SR<|va (v:=I 0) rfl<|aa<|ai<|SR<|aF (v:=Pn _ _) rfl<|V (k9 LK O O)<|aa<|cT rfl<|an<|SR<|aF (v:=Pn _ _) rfl<|V (af O)<|V (fA iy 3 O aP O)<|V (aE bx O O (hH.eT hb (v:=I _) O))<|aI rfl<|aa<|aj<|oI O ?_ hH
 rfl
theorem Dx{nA nB nC nD nE nF nG nH nI nJ nK nL:Value}(F:Nat)(vW vU vT:Value)(cnt:Int)(W:List (BitVec 64))(ts:List Int)(w:World)(hb:w.heap[F]?=some (.cells #[nA,nB,nC,nD,nE,nF,nG,nH,vW,vU,vT,I cnt,nI,nJ,nK,nL] 111 (0,0)))(hW:Sl w vW 1 W.length (W.map U))(hT:Sl w vT 1 ts.length (ts.map I)):Calls Tryz.prog 46 #[.pointer (some ⟨F,8,none⟩)] w (Pure (I ts.length) w):=by
 refine eH func46 rfl rfl fun hH=>SR<|va (v:=I 0) rfl<|aa<|ai<|SR<|aF (v:=Pn _ _) rfl<|V (k9 LK O O)<|aa<|cT rfl<|an<|SR<|aF (v:=Pn _ _) rfl<|V (af O)<|V (fA iy 2 O dJ O)<|V (aE bD O O (hH.eT hb O))<|V (aD (hT.hp hH) O bD O)<|aI rfl<|aa<|aj<|oI O ?_ hH
 rfl
theorem oS{nA nB nC nD nE nF nG nH nI nJ nK nL:Value}(F:Nat)(vW vU vT:Value)(cnt:Int)(nd:List qN)(cl:List Nat)(i:Int)(hn:nd.length<=1000000)(hf:Fo nd cl)(hi:0<=i/\i<nd.length)(w:World)(hb:w.heap[F]?=some (.cells #[nA,nB,nC,nD,nE,nF,nG,nH,vW,vU,vT,I cnt,nI,nJ,nK,nL] 111 (0,0)))(hW:Sl w vW 1 (bE nd).length ((bE nd).map U)):Calls Tryz.prog 160 #[.pointer (some ⟨F,8,none⟩),I i] w (Pure (I (ph nd cl i.toNat)) w):=by
 have Ur:=iF nd
 refine eH func160 rfl rfl fun hH=>SR<|va (v:=I 0) rfl<|aa<|ai<|aA<|bt (G:=Nat) (fun c s' w'=>(Fr (1::(rg 5 12 [])) _ s')/\(Hp w w' _)/\(s' 1=I (c:Int))/\(c<nd.length)/\(cr cl c=cr cl i.toNat)) (fun c=>nd.length-kS nd c) (i.toNat) ⟨Fr.refl _ _,hH,(aK I (show i=((i.toNat:Nat):Int)by omega)),J,rfl⟩<| ?_
 rintro c sg1 w1 ⟨uT,jc,AM,hc,oF⟩
 have mF:=uT.w1 0
 have hcu:=anh hf hn hc
 refine ai<|SR<|aF mF<|V (af O)<|V (fA iy 0 O vD O)<|aF AM<|aH O jc (dz _ _ _ _ _ _ _ _ J _ (jc.ext hb) (hW.hp jc)) (bA uC O O (show _=I 0 from O))<|fun w2 uo=>aF AM<|V (kL O O)<|aa<|aG O (fun h5=> ?_) (fun h5=> ?_)
 .refine an<|aA<|au<|aF mF<|V (af O)<|V (fA iy 0 O vD O)<|aF AM<|aH O uo (dz _ _ _ _ _ _ _ _ J _ (uo.ext hb) (hW.hp uo)) (bA uC O O (show _=I 0 from O))<|fun w6 eE=>aI rfl<|aa<| ?_
  refine⟨sX nd c,?_,uT.u4.u4.u4.u1,eE,(aK I hcu),?_,?_⟩
  .have hne:sX nd c≠c:=fun e=>‹_≠(c:Int)› (hcu.trans (by rw[e]));exact(S1 hf hc O).2.2 hne
  .exact(S1 hf hc oF).1
  exact(S1 hf hc oF).2.1
 refine a8 (id:=0) rfl<|SR<|aF AM<|aI rfl<|aa<|aj<|oI O ?_ uo
 exact aK (fun x:Nat=>(x:Int)) (aie hf J hc J oF)
theorem Dy{nA nB nC nD nE nF nG nH nI nJ nK nL:Value}(F:Nat)(vW vU vT:Value)(cnt:Int)(nd:List qN)(cl:List Nat)(i:Int)(hn:nd.length<=1000000)(hf:Fo nd cl)(w:World)(hb:w.heap[F]?=some (.cells #[nA,nB,nC,nD,nE,nF,nG,nH,vW,vU,vT,I cnt,nI,nJ,nK,nL] 111 (0,0)))(hW:Sl w vW 1 (bE nd).length ((bE nd).map U)):Calls Tryz.prog 128 #[.pointer (some ⟨F,8,none⟩),I i] w (Pure (I (fP cl i)) w):=by
 have Ur:=iF nd
 refine eH func128 rfl rfl fun hH=>SR<|va (v:=I 0) rfl<|aa<|ai<|SR<|aF (v:=Pn _ _) rfl<|mI rfl<|aH O hH (m5 _ _ _ _ _ _ _ jK _ (hH.ext hb) (hW.hp hH)) (aL call158 O O)<|fun w1 bq=>V (vH O)<|aa<|aG O (fun h6=> ?_) (fun h6=> ?_)
 .refine SR<|va (v:=I (-1)) rfl<|aa<|aj<|oI O ?_ bq
  exact aee hf J
 refine an<|ai<|ew aQ bq<|fun w7 eX=>have zh8:=eX;AQ 0 O zh8 (mV (Pn _ _) O)<|AQ 1 O zh8 (af O)<|AQ 2 O zh8 (fA iy 0 O vD O)<|AQ 3 O zh8 (mV (Pn _ _) O)<|AQ 4 O zh8 (mV (I _) O)<|A1 5<|cm O aC O eX sR (oS _ _ _ _ _ nd cl _ jK jK J _ (eX.ext hb) (hW.hp eX)) (aL call160 O O)<|fun w9 cg=>A1 6<|cm O aC O cg sR (dz _ _ _ _ _ _ _ _ (by have:=(pP hf (i:=i.toNat) J).1;omega) _ (cg.ext hb) (hW.hp cg)) (bA uC O O (show _=I 3 from O))<|fun Je cM=>AQ 7 O cM (aV (I _) O)<|AD<|aj<|oI O ?_ cM
 exact aef hf hn J
theorem Eu{nA nB nC nD nE nF nG nH nI nJ nK nL:Value}(W0:World)(F:Nat)(vW vU vT:Value)(cnt:Int)(cW:Option (Nat×Array Value))(W:List (BitVec 64))(L:List bu)(b1 b2:Nat)(n:Int)(hn:0<=n/\n<=W.length)(w:World)(h1:bu.blk b1 (.cells #[.pointer (some ⟨F,8,none⟩)] 193 (0,0))∈L)(h2:bu.blk b2 (.cells #[I n] 3 (0,0))∈L)(zF:cO cW vW (W.map U))(hH:Hp W0 w (.blk F (.cells #[nA,nB,nC,nD,nE,nF,nG,nH,vW,vU,vT,I (cnt),nI,nJ,nK,nL] 111 (0,0))::cE cW vW 35 (W.map U)::L)):Calls Tryz.prog 134 #[.pointer (some ⟨b1,0,none⟩),.pointer (some ⟨b2,0,none⟩)] w (j3 fun u w'=>u= .tuple #[]/\∃v' c',cO c' v' ((W.take n.toNat).map U)/\Hp W0 w' (.blk F (.cells #[nA,nB,nC,nD,nE,nF,nG,nH,v',vU,vT,I (cnt),nI,nJ,nK,nL] 111 (0,0))::cE c' v' 35 ((W.take n.toNat).map U)::L)):=by
 refine en func134 rfl rfl<|fX aQ hH (sQ (sQ sR))<|fun w1 bq=>have k7:=bq.sub (sQ (sQ sR));AT 0 O k7 (fun w hS=>aE l8 O O (hS.pD h1 (v:=Pn _ _) O))<|AT 1 O k7 (fun w hS=>aE l8 O O (hS.pD h1 (v:=Pn _ _) O))<|AQ 2 O k7 (af O)<|AQ 3 O k7 (fA mH 0 O jB O)<|AT 5 O k7 (fun w hS=>aE bx O O (hS.pD h2 (v:=I _) O))<|AT 6 O k7 (fun w hS=>aE bx O O (hS.pD h2 (v:=I _) O))<|A1 4<|cf O aC O bq (sQ (sQ sR)) (aE dg O O (bq.cell (i:=0) O O))<|A1 7<|cf O aC O bq (sQ (sQ sR)) (wj (bq.yY (i:=1) O zF) dg cQ O O O J)<|AQ 8 O k7 (af O)<|AQ 9 O k7 (fA mH 0 O jB O)<|A1 10<|have hs1:=((bq.yY (i:=1) O zF)).tO (n:=(n).toNat) J;?_
 obtain⟨c9,azl,dr⟩:=bq.asD (i:=1) O zF (m:=(n).toNat) YG
 simp only[jd,lf,<-Cg]at dr azl
 refine dW O aC dr (j:=0) O (sQ (sQ sR)) (bK O O (v:=(tO vW (n).toNat)) O (iu hs1).2 (iu hs1).1 (dr.blk (i:=0) O) aJ)<|fun zl bV=>AD<|rC O ⟨rfl,(tO vW (n).toNat),c9,azl,bV⟩
theorem Ev{nA nB nC nD nE nF nG nH nI nJ nK nL:Value}(W0:World)(F:Nat)(vW vU vT:Value)(cnt:Int)(cW:Option (Nat×Array Value))(W:List (BitVec 64))(L:List bu)(b1 b2 b3:Nat)(i:Int)(b:BitVec 64)(hi:0<=i/\i<W.length)(w:World)(h1:bu.blk b1 (.cells #[U b] 35 (0,0))∈L)(h2:bu.blk b2 (.cells #[.pointer (some ⟨F,8,none⟩)] 193 (0,0))∈L)(h3:bu.blk b3 (.cells #[I i] 3 (0,0))∈L)(zF:cO cW vW (W.map U))(hH:Hp W0 w (.blk F (.cells #[nA,nB,nC,nD,nE,nF,nG,nH,vW,vU,vT,I (cnt),nI,nJ,nK,nL] 111 (0,0))::cE cW vW 35 (W.map U)::L)):Calls Tryz.prog 243 #[.pointer (some ⟨b1,0,none⟩),.pointer (some ⟨b2,0,none⟩),.pointer (some ⟨b3,0,none⟩)] w (j3 fun u w'=>u= .tuple #[]/\∃v' c',cO c' v' ((W.set i.toNat b).map U)/\Hp W0 w' (.blk F (.cells #[nA,nB,nC,nD,nE,nF,nG,nH,v',vU,vT,I (cnt),nI,nJ,nK,nL] 111 (0,0))::cE c' v' 35 ((W.set i.toNat b).map U)::L)):=by
 refine en func243 rfl rfl<|fX aQ hH (sP (sQ sR))<|fun w1 bq=>have k7:=bq.sub (sP (sQ sR));AT 0 O k7 (fun w hS=>aE l8 O O (hS.pD (mT h2) (v:=Pn _ _) O))<|AQ 1 O k7 (af O)<|AQ 2 O k7 (fA mH 0 O jB O)<|tV 3 O k7 dg 0 O O rfl<|AT 4 O k7 (fun w hS=>aE bx O O (hS.pD (mT h3) (v:=I _) O))<|AT 5 O k7 (fun w hS=>aE dO O O (hS.pD (mT h1) (v:=U _) O))<|A1 6<|cf O aC O bq (sP (sQ sR)) (ah (bq.yY (i:=1) O zF) dg cQ O O J)<|A1 7<|ail (u:=U _) O aC bq (i:=1) O zF (fun _ _=>(sP (sQ sR))) YG O O O O rfl<|fun c7 w9 hk8 cg=> ?_
 simp only[jd,lf,GV]at cg hk8
 refine AD<|rC O ⟨rfl,vW,c7,hk8,cg⟩
theorem rX{nA nB nC nD nE nF nG nH nI nJ nK nL:Value}(W0:World)(F:Nat)(vW vU vT:Value)(cnt:Int)(cW cU:Option (Nat×Array Value))(W:List (BitVec 64))(ul:List (Value×jU))(L:List bu)(b:BitVec 64)(Ur:W.length<=4000000)(O4:ul.length<=4000000)(w:World)(zF:cO cW vW (W.map U))(J1:cO cU vU (ul.map Prod.fst))(hH:Hp W0 w (.blk F (.cells #[nA,nB,nC,nD,nE,nF,nG,nH,vW,vU,vT,I (cnt),nI,nJ,nK,nL] 111 (0,0))::cE cW vW 35 (W.map U)::cE cU vU 1 (ul.map Prod.fst)::L)):Calls Tryz.prog 91 #[.pointer (some ⟨F,8,none⟩),U b] w (j3 fun u w'=>u=I W.length/\∃(v':Value) (c':Option (Nat×Array Value)) (v2:Value) (c2:Option (Nat×Array Value)) (zB:List (Value×jU)) (Lb:List bu),cO c' v' ((W++[b]).map U)/\cO c2 v2 (zB.map Prod.fst)/\zB.map Prod.snd=ul.map Prod.snd++[jU.add W.length]/\zB.take ul.length=ul/\zB.length<=ul.length+1/\(∀x∈zB.drop ul.length,pV (⟨134,243,193,3,35,8⟩:UT) F Lb x)/\Hp W0 w' (.blk F (.cells #[nA,nB,nC,nD,nE,nF,nG,nH,v',v2,vT,I (cnt),nI,nJ,nK,nL] 111 (0,0))::cE c' v' 35 ((W++[b]).map U)::cE c2 v2 1 (zB.map Prod.fst)::(Lb++L))):=by
 refine en func91 rfl rfl<|SR<|gO hH (v:=Pn _ _) rfl<|fun b3 w1 bq=>va (v:=I 0) rfl<|aa<|ai<|SR<|lP l8 bq 0 O O rfl<|V (k9 l8 O O)<|aa<|cT rfl<|an<|SR<|lP l8 bq 0 O O rfl<|V (af O)<|V (fA mH 0 O jB O)<|lV dg bq 1 O O rfl<|V (aD (bq.yY (i:=2) O zF) O dg O)<|lN bq (aT Tryz.zeroValue3)<|fun b6 w4 bY=>bg bY (i:=0) O (bK O O (v:=I _) O O O (bY.blk (i:=0) O) az)<|fun w7 eX=>aa<|ai<|fX aQ eX (sP (sP (sQ (sQ sR))))<|fun w9 cg=>have AX:=cg.sub (sP (sP (sQ (sQ sR))));tP 0 O AX l8 1 O O rfl<|tP 1 O AX l8 1 O O rfl<|AQ 2 O AX (af O)<|AQ 3 O AX (fA mH 0 O jB O)<|AQ 5 O AX (mV (U _) O)<|gj 4 6 aQ ?_ ?_
 .refine cf O aC O cg (sP (sP (sQ (sQ sR)))) (aE dg O O (cg.cell (i:=2) O O))<|A1 6<|cB O aC O cg (sP (sP (sQ (sQ sR)))) (f:=fun b=> .slice (some ⟨b,0,none⟩) 1 1) (cA dg O O (sz:=1) (vs:=[U _]) O O az az O O)<|fun b15 BR cD=> ?_
  (try simp only[lC]at cD)
  refine A1 7<|CR (y0:=U b) O aC O cD (i:=4) O zF (fun _ _=>(sQ (sP (sP (sQ (sQ sR)))))) (cD.dU (i:=0) (n:=1) (sz:=1) O O az) O O dg O O O (bytes:=8) O O O py py<|fun v18 Q2 cP=> ?_
  rw[Qw]at cP
  refine AQ 8 O (cP.sub (sQ (sP (sP (sQ (sQ sR)))))) (af O)<|AQ 9 O (cP.sub (sQ (sP (sP (sQ (sQ sR)))))) (fA mH 0 O jB O)<|A1 10<|dW O aC cP (j:=3) O (sQ (sP (sP (sQ (sQ sR))))) (bK O O (v:=v18) O (iu (cP.yY (i:=4) O trivial)).2 (iu (cP.yY (i:=4) O trivial)).1 (cP.blk (i:=3) O) aJ)<|fun w23 gM=>AD<|ai<|fX aQ gM (sP (sP (sP (sQ (sP (sQ sR))))))<|fun w25 jy=>have Kq:=jy.sub (sP (sP (sP (sQ (sP (sQ sR))))));tP 0 O Kq l8 2 O O rfl<|tP 1 O Kq l8 2 O O rfl<|AQ 2 O Kq (af O)<|AQ 3 O Kq (fA mH 1 O kB O)<| ?_
  refine AQ 5 O Kq (tA bz bz) ?_
  refine gj 4 6 aQ ?_ ?_
  .refine cf O aC O jy (sP (sP (sP (sQ (sP (sQ sR)))))) (aE ia O O (jy.cell (i:=3) O O))<|A1 6<|cB O aC O jy (sP (sP (sP (sQ (sP (sQ sR)))))) (f:=fun b=> .slice (some ⟨b,0,none⟩) 1 1) (cA ia O O (sz:=1) (vs:=[.func _ _ _]) O O az az O O)<|fun b31 w29 iU=> ?_
   (try simp only[lC]at iU)
   refine A1 7<|CR (y0:= .func (.func 134) #[] #[.pointer (some ⟨b3,0,none⟩),.pointer (some ⟨b6,0,none⟩)]) rfl aC rfl iU (i:=6) O J1 (fun _ _=>(sQ (sP (sP (sP (sQ (sP (sQ sR)))))))) (iU.dU (i:=0) (n:=1) (sz:=1) O O az) O O ia O O O (bytes:=8) O O O py py<|fun v34 w35 j8=> ?_
   rw[vk (jU.add W.length)]at j8
   refine AQ 8 O (j8.sub (sQ (sP (sP (sP (sQ (sP (sQ sR)))))))) (af O)<|AQ 9 O (j8.sub (sQ (sP (sP (sP (sQ (sP (sQ sR)))))))) (fA mH 1 O kB O)<|A1 10<|dW O aC j8 (j:=4) O (sQ (sP (sP (sP (sQ (sP (sQ sR))))))) (bK O O (v:=v34) O (iu (j8.BJ (i:=6) O trivial)).2 (iu (j8.BJ (i:=6) O trivial)).1 (j8.blk (i:=4) O) aJ)<|fun w39 lO=>AD<|SR<|lI bx lO 2 O O rfl<|aI rfl<|aa<|aj<|jx O (v:=I W.length) O ⟨rfl,v18,none,v34,none,(ul++[(.func (.func 134) #[] #[.pointer (some ⟨b3,0,none⟩),.pointer (some ⟨b6,0,none⟩)],jU.add W.length)]),[bu.blk b3 (.cells #[.pointer (some ⟨F,8,none⟩)] 193 (0,0)),bu.blk b6 (.cells #[I W.length] 3 (0,0))],trivial,trivial,aJ,aJ,aJ,?_,(lO.pj [4,4,4,3,2]).sub (sP (sP (sP (sP (sP (sQ (sQ sR)))))))⟩
   intro x hx;rw[Fi,gG]at hx;subst hx;exact⟨_,_,rfl,aJ,aJ⟩
  refine cB O aC O jy (sP (sP (sP (sQ (sP (sQ sR)))))) (f:=fun b=> .slice (some ⟨b,0,none⟩) 1 1) (cA ia O O (sz:=1) (vs:=[.func _ _ _]) O O az az O O)<|fun b43 w41 q5=> ?_
  (try simp only[lC]at q5)
  refine A1 4<|cf O aC O q5 (sQ (sP (sP (sP (sQ (sP (sQ sR))))))) (aE ia O O (q5.cell (i:=4) O O))<|A1 7<|CR (y0:= .func (.func 134) #[] #[.pointer (some ⟨b3,0,none⟩),.pointer (some ⟨b6,0,none⟩)]) rfl aC rfl q5 (i:=6) O J1 (fun _ _=>(sQ (sP (sP (sP (sQ (sP (sQ sR)))))))) (q5.dU (i:=0) (n:=1) (sz:=1) O O az) O O ia O O O (bytes:=8) O O O py py<|fun v48 w49 eO=> ?_
  rw[vk (jU.add W.length)]at eO
  refine AQ 8 O (eO.sub (sQ (sP (sP (sP (sQ (sP (sQ sR)))))))) (af O)<|AQ 9 O (eO.sub (sQ (sP (sP (sP (sQ (sP (sQ sR)))))))) (fA mH 1 O kB O)<|A1 10<|dW O aC eO (j:=4) O (sQ (sP (sP (sP (sQ (sP (sQ sR))))))) (bK O O (v:=v48) O (iu (eO.BJ (i:=6) O trivial)).2 (iu (eO.BJ (i:=6) O trivial)).1 (eO.blk (i:=4) O) aJ)<|fun w53 gU=>AD<|SR<|lI bx gU 2 O O rfl<|aI rfl<|aa<|aj<|jx O (v:=I W.length) O ⟨rfl,v18,none,v48,none,(ul++[(.func (.func 134) #[] #[.pointer (some ⟨b3,0,none⟩),.pointer (some ⟨b6,0,none⟩)],jU.add W.length)]),[bu.blk b3 (.cells #[.pointer (some ⟨F,8,none⟩)] 193 (0,0)),bu.blk b6 (.cells #[I W.length] 3 (0,0))],trivial,trivial,aJ,aJ,aJ,?_,(gU.pj [4,4,4,3,2]).sub (sP (sP (sP (sP (sP (sQ (sQ sR)))))))⟩
  intro x hx;rw[Fi,gG]at hx;subst hx;exact⟨_,_,rfl,aJ,aJ⟩
 refine cB O aC O cg (sP (sP (sQ (sQ sR)))) (f:=fun b=> .slice (some ⟨b,0,none⟩) 1 1) (cA dg O O (sz:=1) (vs:=[U _]) O O az az O O)<|fun b57 w55 nu=> ?_
 (try simp only[lC]at nu)
 refine A1 4<|cf O aC O nu (sQ (sP (sP (sQ (sQ sR))))) (aE dg O O (nu.cell (i:=3) O O))<|A1 7<|CR (y0:=U b) O aC O nu (i:=4) O zF (fun _ _=>(sQ (sP (sP (sQ (sQ sR)))))) (nu.dU (i:=0) (n:=1) (sz:=1) O O az) O O dg O O O (bytes:=8) O O O py py<|fun v62 w63 xa=> ?_
 rw[Qw]at xa
 refine AQ 8 O (xa.sub (sQ (sP (sP (sQ (sQ sR)))))) (af O)<|AQ 9 O (xa.sub (sQ (sP (sP (sQ (sQ sR)))))) (fA mH 0 O jB O)<|A1 10<|dW O aC xa (j:=3) O (sQ (sP (sP (sQ (sQ sR))))) (bK O O (v:=v62) O (iu (xa.yY (i:=4) O trivial)).2 (iu (xa.yY (i:=4) O trivial)).1 (xa.blk (i:=3) O) aJ)<|fun w67 kJ=>AD<|ai<|fX aQ kJ (sP (sP (sP (sQ (sP (sQ sR))))))<|fun w69 wI=>have OI:=wI.sub (sP (sP (sP (sQ (sP (sQ sR))))));tP 0 O OI l8 2 O O rfl<|tP 1 O OI l8 2 O O rfl<|AQ 2 O OI (af O)<|AQ 3 O OI (fA mH 1 O kB O)<| ?_
 refine AQ 5 O OI (tA bz bz) ?_
 refine gj 4 6 aQ ?_ ?_
 .refine cf O aC O wI (sP (sP (sP (sQ (sP (sQ sR)))))) (aE ia O O (wI.cell (i:=3) O O))<|A1 6<|cB O aC O wI (sP (sP (sP (sQ (sP (sQ sR)))))) (f:=fun b=> .slice (some ⟨b,0,none⟩) 1 1) (cA ia O O (sz:=1) (vs:=[.func _ _ _]) O O az az O O)<|fun b75 w73 xb=> ?_
  (try simp only[lC]at xb)
  refine A1 7<|CR (y0:= .func (.func 134) #[] #[.pointer (some ⟨b3,0,none⟩),.pointer (some ⟨b6,0,none⟩)]) rfl aC rfl xb (i:=6) O J1 (fun _ _=>(sQ (sP (sP (sP (sQ (sP (sQ sR)))))))) (xb.dU (i:=0) (n:=1) (sz:=1) O O az) O O ia O O O (bytes:=8) O O O py py<|fun v78 w79 pL=> ?_
  rw[vk (jU.add W.length)]at pL
  refine AQ 8 O (pL.sub (sQ (sP (sP (sP (sQ (sP (sQ sR)))))))) (af O)<|AQ 9 O (pL.sub (sQ (sP (sP (sP (sQ (sP (sQ sR)))))))) (fA mH 1 O kB O)<|A1 10<|dW O aC pL (j:=4) O (sQ (sP (sP (sP (sQ (sP (sQ sR))))))) (bK O O (v:=v78) O (iu (pL.BJ (i:=6) O trivial)).2 (iu (pL.BJ (i:=6) O trivial)).1 (pL.blk (i:=4) O) aJ)<|fun w83 kx=>AD<|SR<|lI bx kx 2 O O rfl<|aI rfl<|aa<|aj<|jx O (v:=I W.length) O ⟨rfl,v62,none,v78,none,(ul++[(.func (.func 134) #[] #[.pointer (some ⟨b3,0,none⟩),.pointer (some ⟨b6,0,none⟩)],jU.add W.length)]),[bu.blk b3 (.cells #[.pointer (some ⟨F,8,none⟩)] 193 (0,0)),bu.blk b6 (.cells #[I W.length] 3 (0,0))],trivial,trivial,aJ,aJ,aJ,?_,(kx.pj [4,4,4,3,2]).sub (sP (sP (sP (sP (sP (sQ (sQ sR)))))))⟩
  intro x hx;rw[Fi,gG]at hx;subst hx;exact⟨_,_,rfl,aJ,aJ⟩
 refine cB O aC O wI (sP (sP (sP (sQ (sP (sQ sR)))))) (f:=fun b=> .slice (some ⟨b,0,none⟩) 1 1) (cA ia O O (sz:=1) (vs:=[.func _ _ _]) O O az az O O)<|fun b87 w85 uH=> ?_
 (try simp only[lC]at uH)
 refine A1 4<|cf O aC O uH (sQ (sP (sP (sP (sQ (sP (sQ sR))))))) (aE ia O O (uH.cell (i:=4) O O))<|A1 7<|CR (y0:= .func (.func 134) #[] #[.pointer (some ⟨b3,0,none⟩),.pointer (some ⟨b6,0,none⟩)]) rfl aC rfl uH (i:=6) O J1 (fun _ _=>(sQ (sP (sP (sP (sQ (sP (sQ sR)))))))) (uH.dU (i:=0) (n:=1) (sz:=1) O O az) O O ia O O O (bytes:=8) O O O py py<|fun v92 w93 uI=> ?_
 rw[vk (jU.add W.length)]at uI
 refine AQ 8 O (uI.sub (sQ (sP (sP (sP (sQ (sP (sQ sR)))))))) (af O)<|AQ 9 O (uI.sub (sQ (sP (sP (sP (sQ (sP (sQ sR)))))))) (fA mH 1 O kB O)<|A1 10<|dW O aC uI (j:=4) O (sQ (sP (sP (sP (sQ (sP (sQ sR))))))) (bK O O (v:=v92) O (iu (uI.BJ (i:=6) O trivial)).2 (iu (uI.BJ (i:=6) O trivial)).1 (uI.blk (i:=4) O) aJ)<|fun w97 Ow=>AD<|SR<|lI bx Ow 2 O O rfl<|aI rfl<|aa<|aj<|jx O (v:=I W.length) O ⟨rfl,v62,none,v92,none,(ul++[(.func (.func 134) #[] #[.pointer (some ⟨b3,0,none⟩),.pointer (some ⟨b6,0,none⟩)],jU.add W.length)]),[bu.blk b3 (.cells #[.pointer (some ⟨F,8,none⟩)] 193 (0,0)),bu.blk b6 (.cells #[I W.length] 3 (0,0))],trivial,trivial,aJ,aJ,aJ,?_,(Ow.pj [4,4,4,3,2]).sub (sP (sP (sP (sP (sP (sQ (sQ sR)))))))⟩
 intro x hx;rw[Fi,gG]at hx;subst hx;exact⟨_,_,rfl,aJ,aJ⟩
theorem HB{nA nB nC nD nE nF nG nH nI nJ nK nL:Value}(W0:World)(F:Nat)(vW vU vT:Value)(cnt:Int)(cW cU:Option (Nat×Array Value))(W:List (BitVec 64))(ul:List (Value×jU))(L:List bu)(i:Int)(b:BitVec 64)(Ur:W.length<=4000000)(O4:ul.length<=4000000)(hi:0<=i/\i<W.length)(w:World)(zF:cO cW vW (W.map U))(J1:cO cU vU (ul.map Prod.fst))(hH:Hp W0 w (.blk F (.cells #[nA,nB,nC,nD,nE,nF,nG,nH,vW,vU,vT,I (cnt),nI,nJ,nK,nL] 111 (0,0))::cE cW vW 35 (W.map U)::cE cU vU 1 (ul.map Prod.fst)::L)):Calls Tryz.prog 217 #[.pointer (some ⟨F,8,none⟩),I i,U b] w (j3 fun u w'=>u=B true/\∃(v':Value) (c':Option (Nat×Array Value)) (v2:Value) (c2:Option (Nat×Array Value)) (zB:List (Value×jU)) (Lb:List bu),cO c' v' ((W.set i.toNat b).map U)/\cO c2 v2 (zB.map Prod.fst)/\zB.map Prod.snd=IY W (ul.map Prod.snd) i.toNat b/\zB.take ul.length=ul/\zB.length<=ul.length+1/\(∀x∈zB.drop ul.length,pV (⟨134,243,193,3,35,8⟩:UT) F Lb x)/\Hp W0 w' (.blk F (.cells #[nA,nB,nC,nD,nE,nF,nG,nH,v',v2,vT,I (cnt),nI,nJ,nK,nL] 111 (0,0))::cE c' v' 35 ((W.set i.toNat b).map U)::cE c2 v2 1 (zB.map Prod.fst)::(Lb++L))):=by
 refine en func217 rfl rfl<|SR<|gO hH (v:=Pn _ _) rfl<|fun b3 w1 bq=>gO bq (v:=I _) rfl<|fun b6 w4 bY=>va (v:=B false) rfl<|aa<|ai<|SR<|lP l8 bY 1 O O rfl<|lI bx bY 0 O O rfl<|aH O bY (zA _ _ _ _ _ _ _ _ (bY.blk (i:=2) O) (bY.yY (i:=3) O zF)) (aL call218 O O)<|fun w7 eX=>V (bJ (bT (hi)))<|aa<|cT rfl<|an<|ai<|ew aQ eX<|fun Je cM=>have aaI:=cM;tP 0 O aaI l8 1 O O rfl<|AQ 1 O aaI (af O)<|AQ 2 O aaI (fA mH 0 O jB O)<|tV 3 O aaI dg 2 O O rfl<|tI 4 O aaI bx 0 O O rfl<|AT 5 O aaI (fun w hS=>ah (hS.yY (i:=3) O zF) dg cQ O O J)<|AT 6 O aaI (fun w hS=>aE dO O O (Sl.atU (hS.yY (i:=3) O zF) J J))<|A1 7<|cB O aC O cM sR (f:=fun b=> .pointer (some ⟨b,0,none⟩)) (aT Tryz.zeroValue35)<|fun b15 BR cD=>A1 8<|dW O aC cD (j:=0) O (sQ sR) (bK O O (v:=U _) O O O (cD.blk (i:=0) O) az)<|fun Jg er=>AD<|ai<|SR<|V (aE dO O O (er.cell (i:=0) O (v:=U _) O))<|mU rfl<|V (vG O O)<|aa<|aG O (fun Ob=> ?_) (fun Ob=> ?_)
 .refine ai<|fX aQ er (sP (sP (sP (sP (sQ sR)))))<|fun w20 fK=>have oO:=fK.sub (sP (sP (sP (sP (sQ sR)))));tP 0 O oO l8 2 O O rfl<|AQ 1 O oO (af O)<|AQ 2 O oO (fA mH 0 O jB O)<|tV 3 O oO dg 3 O O rfl<|tI 4 O oO bx 1 O O rfl<|AQ 5 O oO (mV (U _) O)<|A1 6<|cf O aC O fK (sP (sP (sP (sP (sQ sR))))) (ah (fK.yY (i:=4) O zF) dg cQ O O J)<|A1 7<|ail (u:=U _) O aC fK (i:=4) O zF (fun _ _=>(sP (sP (sP (sP (sQ sR)))))) YG O O O O rfl<|fun c26 w28 aut gE=> ?_
  simp only[jd,lf,GV]at gE aut
  refine AD<|fX aQ gE (sP (sP (sP (sQ (sP (sQ sR))))))<|fun w30 kZ=>have Jl:=kZ.sub (sP (sP (sP (sQ (sP (sQ sR))))));tP 0 O Jl l8 2 O O rfl<|tP 1 O Jl l8 2 O O rfl<|AQ 2 O Jl (af O)<|AQ 3 O Jl (fA mH 1 O kB O)<| ?_
  refine AQ 5 O Jl (Mb bz bz bz) ?_
  refine gj 4 6 aQ ?_ ?_
  .refine cf O aC O kZ (sP (sP (sP (sQ (sP (sQ sR)))))) (aE ia O O (kZ.cell (i:=3) O O))<|A1 6<|cB O aC O kZ (sP (sP (sP (sQ (sP (sQ sR)))))) (f:=fun b=> .slice (some ⟨b,0,none⟩) 1 1) (cA ia O O (sz:=1) (vs:=[.func _ _ _]) O O az az O O)<|fun b36 w34 zo=> ?_
   (try simp only[lC]at zo)
   refine A1 7<|CR (y0:= .func (.func 243) #[] #[.pointer (some ⟨b15,0,none⟩),.pointer (some ⟨b3,0,none⟩),.pointer (some ⟨b6,0,none⟩)]) rfl aC rfl zo (i:=6) O J1 (fun _ _=>(sQ (sP (sP (sP (sQ (sP (sQ sR)))))))) (zo.dU (i:=0) (n:=1) (sz:=1) O O az) O O ia O O O (bytes:=8) O O O py py<|fun v39 w40 jW=> ?_
   rw[vk (jU.set i.toNat (W.getD i.toNat 0))]at jW
   refine AQ 8 O (jW.sub (sQ (sP (sP (sP (sQ (sP (sQ sR)))))))) (af O)<|AQ 9 O (jW.sub (sQ (sP (sP (sP (sQ (sP (sQ sR)))))))) (fA mH 1 O kB O)<|A1 10<|dW O aC jW (j:=4) O (sQ (sP (sP (sP (sQ (sP (sQ sR))))))) (bK O O (v:=v39) O (iu (jW.BJ (i:=6) O trivial)).2 (iu (jW.BJ (i:=6) O trivial)).1 (jW.blk (i:=4) O) aJ)<|fun w44 r9=>AD<|SR<|va (v:=B true) rfl<|aa<|aj<|jx O (v:=B true) O ⟨rfl,vW,c26,v39,none,(ul++[(.func (.func 243) #[] #[.pointer (some ⟨b15,0,none⟩),.pointer (some ⟨b3,0,none⟩),.pointer (some ⟨b6,0,none⟩)],jU.set i.toNat (W.getD i.toNat 0))]),[bu.blk b15 (.cells #[U (W.getD i.toNat 0)] 35 (0,0)),bu.blk b3 (.cells #[.pointer (some ⟨F,8,none⟩)] 193 (0,0)),bu.blk b6 (.cells #[I i] 3 (0,0))],aut,trivial,?_,aJ,aJ,?_,(r9.pj [4,4,4,1,2,1]).sub (sP (sP (sP (sP (sP (sP (sQ sR)))))))⟩
   ·(rw[IY,aW ‹_≠b›];simp;done)
   (intro x hx;rw[Fi,gG]at hx;subst hx;exact⟨_,_,_,rfl,aJ,aJ,by simp[gm hi.1]⟩)
  refine cB O aC O kZ (sP (sP (sP (sQ (sP (sQ sR)))))) (f:=fun b=> .slice (some ⟨b,0,none⟩) 1 1) (cA ia O O (sz:=1) (vs:=[.func _ _ _]) O O az az O O)<|fun b48 w46 o4=> ?_
  (try simp only[lC]at o4)
  refine A1 4<|cf O aC O o4 (sQ (sP (sP (sP (sQ (sP (sQ sR))))))) (aE ia O O (o4.cell (i:=4) O O))<|A1 7<|CR (y0:= .func (.func 243) #[] #[.pointer (some ⟨b15,0,none⟩),.pointer (some ⟨b3,0,none⟩),.pointer (some ⟨b6,0,none⟩)]) rfl aC rfl o4 (i:=6) O J1 (fun _ _=>(sQ (sP (sP (sP (sQ (sP (sQ sR)))))))) (o4.dU (i:=0) (n:=1) (sz:=1) O O az) O O ia O O O (bytes:=8) O O O py py<|fun v53 w54 jz=> ?_
  rw[vk (jU.set i.toNat (W.getD i.toNat 0))]at jz
  refine AQ 8 O (jz.sub (sQ (sP (sP (sP (sQ (sP (sQ sR)))))))) (af O)<|AQ 9 O (jz.sub (sQ (sP (sP (sP (sQ (sP (sQ sR)))))))) (fA mH 1 O kB O)<|A1 10<|dW O aC jz (j:=4) O (sQ (sP (sP (sP (sQ (sP (sQ sR))))))) (bK O O (v:=v53) O (iu (jz.BJ (i:=6) O trivial)).2 (iu (jz.BJ (i:=6) O trivial)).1 (jz.blk (i:=4) O) aJ)<|fun w58 B3=>AD<|SR<|va (v:=B true) rfl<|aa<|aj<|jx O (v:=B true) O ⟨rfl,vW,c26,v53,none,(ul++[(.func (.func 243) #[] #[.pointer (some ⟨b15,0,none⟩),.pointer (some ⟨b3,0,none⟩),.pointer (some ⟨b6,0,none⟩)],jU.set i.toNat (W.getD i.toNat 0))]),[bu.blk b15 (.cells #[U (W.getD i.toNat 0)] 35 (0,0)),bu.blk b3 (.cells #[.pointer (some ⟨F,8,none⟩)] 193 (0,0)),bu.blk b6 (.cells #[I i] 3 (0,0))],aut,trivial,?_,aJ,aJ,?_,(B3.pj [4,4,4,1,2,1]).sub (sP (sP (sP (sP (sP (sP (sQ sR)))))))⟩
  ·(rw[IY,aW ‹_≠b›];simp;done)
  (intro x hx;rw[Fi,gG]at hx;subst hx;exact⟨_,_,_,rfl,aJ,aJ,by simp[gm hi.1]⟩)
 refine an<|SR<|va (v:=B true) rfl<|aa<|aj<| ?_
 rw[Nn (Ru.1 ‹¬_≠b›)]
 refine jx O (v:=B true) O ⟨rfl,vW,cW,vU,cU,ul,[],zF,J1,?_,aJ,aJ,?_,(er.pj [3,3,3]).sub (sP (sP (sP (sQ (sQ (sQ sR))))))⟩
 ·(rw[IY,aY (Ru.1 ‹¬_≠b›)])
 (intro x hx;simp at hx)
theorem kK{nA nB nC nD nE nF nG nH nI nJ nK nL:Value}(W0:World)(F:Nat)(vW vU vT:Value)(cnt:Int)(cW cU:Option (Nat×Array Value))(W:List (BitVec 64))(ul:List (Value×jU))(L:List bu)(i k to:Int)(Ur:W.length<=4000000)(O4:ul.length<=4000000)(hi:0<=i/\i<1000000/\0<=k/\k<4/\4*i+k<W.length)(w:World)(zF:cO cW vW (W.map U))(J1:cO cU vU (ul.map Prod.fst))(hH:Hp W0 w (.blk F (.cells #[nA,nB,nC,nD,nE,nF,nG,nH,vW,vU,vT,I (cnt),nI,nJ,nK,nL] 111 (0,0))::cE cW vW 35 (W.map U)::cE cU vU 1 (ul.map Prod.fst)::L)):Calls Tryz.prog 189 #[.pointer (some ⟨F,8,none⟩),I i,I k,I to] w (j3 fun u w'=>u= .tuple #[]/\∃(v':Value) (c':Option (Nat×Array Value)) (v2:Value) (c2:Option (Nat×Array Value)) (zB:List (Value×jU)) (Lb:List bu),cO c' v' ((W.set (4*i+k).toNat (BitVec.ofInt 64 to)).map U)/\cO c2 v2 (zB.map Prod.fst)/\zB.map Prod.snd=IY W (ul.map Prod.snd) (4*i+k).toNat (BitVec.ofInt 64 to)/\zB.take ul.length=ul/\zB.length<=ul.length+1/\(∀x∈zB.drop ul.length,pV (⟨134,243,193,3,35,8⟩:UT) F Lb x)/\Hp W0 w' (.blk F (.cells #[nA,nB,nC,nD,nE,nF,nG,nH,v',v2,vT,I (cnt),nI,nJ,nK,nL] 111 (0,0))::cE c' v' 35 ((W.set (4*i+k).toNat (BitVec.ofInt 64 to)).map U)::cE c2 v2 1 (zB.map Prod.fst)::(Lb++L))):=by
 refine en func189 rfl rfl<|au<|aF (v:=Pn _ _) rfl<|V (af O)<|V (fA zP 0 O zU O)<|mI rfl<|V (z8 O O J)<|mI rfl<|V (ax O O J)<|mI rfl<|V (jL bx dO O)<|cG O (HB _ _ _ _ _ _ _ _ _ _ _ _ _ J J J _ zF J1 hH) (bA call217 O O O)<| ?_
 rintro _ w3 ⟨rfl,v6,c7,u8,e9,aGd,aGe,aGf,aGg,aGh,auu,aGi,aGj,h4⟩
 refine aa<|rC O ⟨rfl,v6,c7,u8,e9,aGd,aGe,aGf,aGg,aGh,auu,aGi,aGj,h4⟩
theorem akF{nA nB nC nD nE nF nG nH nI nJ nK nL:Value}{W0 w:World}{F:Nat}{vW vU vT:Value}{cnt:Int}{cW:Option (Nat×Array Value)}{W:List (BitVec 64)}{L:List bu}(x:Value×jU)(hx:pV (⟨134,243,193,3,35,8⟩:UT) F L x)(hok:match x.2 with| .add n=>n<=W.length| .set i _=>i<W.length)(zF:cO cW vW (W.map U))(hH:Hp W0 w (.blk F (.cells #[nA,nB,nC,nD,nE,nF,nG,nH,vW,vU,vT,I (cnt),nI,nJ,nK,nL] 111 (0,0))::cE cW vW 35 (W.map U)::L)):
  ∃(f:FuncId) (cs:List Value),x.1= .func (.func f) #[] cs.toArray/\(∀args w,(callFunc f args).run Tryz.prog w= .ok (.enter f args) w)/\Calls Tryz.prog f cs.toArray w (j3 fun u w'=>u= .tuple #[]/\∃v' c',cO c' v' ((S0 W x.2).map U)/\Hp W0 w' (.blk F (.cells #[nA,nB,nC,nD,nE,nF,nG,nH,v',vU,vT,I (cnt),nI,nJ,nK,nL] 111 (0,0))::cE c' v' 35 ((S0 W x.2).map U)::L)):=by
 obtain⟨v,u⟩:=x
 cases u with
 |add n=>
  obtain⟨b1,b2,h0,h1,h2⟩:=hx
  have hc:=Eu W0 F vW vU vT cnt cW W L b1 b2 n ⟨J,by exact Int.ofNat_le.2 hok⟩ w h1 h2 zF hH
  rw[eC]at hc
  exact⟨_,[_,_],h0,call134,hc⟩
 |set i b=>
  obtain⟨b1,b2,b3,h0,h1,h2,h3⟩:=hx
  have hc:=Ev W0 F vW vU vT cnt cW W L b1 b2 b3 i b ⟨J,by exact Int.ofNat_lt.2 hok⟩ w h1 h2 h3 zF hH
  rw[eC]at hc
  exact⟨_,[_,_,_],h0,call243,hc⟩
theorem F9{nA nB nC nD nE nF nG nH nI nJ nK nL:Value}(W0:World)(F:Nat)(vW vU vT:Value)(cnt:Int)(cW cU:Option (Nat×Array Value))(W:List (BitVec 64))(ul:List (Value×jU))(L:List bu)(m:Int)(Ur:W.length<=4000000)(O4:ul.length<=4000000)(hm:0<=m/\m<=ul.length)(w:World)(hI:∀x∈ul,pV (⟨134,243,193,3,35,8⟩:UT) F L x)(hok:Nj W.length (ul.map Prod.snd))(zF:cO cW vW (W.map U))(J1:cO cU vU (ul.map Prod.fst))(hH:Hp W0 w (.blk F (.cells #[nA,nB,nC,nD,nE,nF,nG,nH,vW,vU,vT,I (cnt),nI,nJ,nK,nL] 111 (0,0))::cE cW vW 35 (W.map U)::cE cU vU 1 (ul.map Prod.fst)::L)):Calls Tryz.prog 92 #[.pointer (some ⟨F,8,none⟩),I m] w (j3 fun u w'=>u=B true/\∃(v':Value) (c':Option (Nat×Array Value)) (v2:Value) (c2:Option (Nat×Array Value)),cO c' v' ((jI W (ul.map Prod.snd) m.toNat).map U)/\cO c2 v2 ((ul.take m.toNat).map Prod.fst)/\Hp W0 w' (.blk F (.cells #[nA,nB,nC,nD,nE,nF,nG,nH,v',v2,vT,I (cnt),nI,nJ,nK,nL] 111 (0,0))::cE c' v' 35 ((jI W (ul.map Prod.snd) m.toNat).map U)::cE c2 v2 1 ((ul.take m.toNat).map Prod.fst)::L)):=by
 have hlm:(ul.map Prod.fst).length=ul.length:=gA ..
 refine en func92 rfl rfl<|SR<|va (v:=B false) rfl<|aa<|ai<|SR<|aF (v:=Pn _ _) rfl<|V (k9 l8 O O)<|mB rfl<|cF O rfl<|mI rfl<|aF (v:=Pn _ _) rfl<|V (af O)<|V (fA mH 1 O kB O)<|lV ia hH 0 O O rfl<|V (aD (hH.BJ (i:=2) O J1) O ia O)<|V (dP O O)<|mB rfl<|aa<|aG O (fun h2=> ?_) (fun h2=> ?_)
 .refine SR<|va (v:=B false) rfl<|aa<|aj<| ?_
  exfalso;omega
 refine an<|ai<|SR<|aF (v:=Pn _ _) rfl<|V (af O)<|V (fA mH 1 O kB O)<|lV ia hH 0 O O rfl<|V (aD (hH.BJ (i:=2) O J1) O ia O)<|V (eS O O J)<|aI rfl<|aa<|aA<|have e0:jI W (ul.map Prod.snd) (ul.length:Int).toNat=W:=(by rw[eC,<-gA (f:=Prod.snd)];exact D5);have e1:ul.take (ul.length:Int).toNat=ul:=aJ;bt (G:=Int×Value×(Option (Nat×Array Value))×Value×(Option (Nat×Array Value))) (fun⟨k,v1,c1,u1,c2⟩ s' w'=>(Fr (5::(rg 23 24 [])) _ s')/\(Hp W0 w' (.blk F (.cells #[nA,nB,nC,nD,nE,nF,nG,nH,v1,u1,vT,I (cnt),nI,nJ,nK,nL] 111 (0,0))::cE c1 v1 35 ((jI W (ul.map Prod.snd) k.toNat).map U)::cE c2 u1 1 ((ul.take k.toNat).map Prod.fst)::_))/\(s' 5=I (k-1))/\(m<=k)/\(k<=ul.length)/\(cO c1 v1 ((jI W (ul.map Prod.snd) k.toNat).map U))/\(cO c2 u1 ((ul.take k.toNat).map Prod.fst))) (fun⟨k,v1,c1,u1,c2⟩=>(k-m).toNat) ((ul.length,vW,cW,vU,cU)) ⟨Fr.refl _ _,(by rw[e0,e1];exact hH),(aK I J),J,J,Sk,(by rw[e1];exact J1)⟩<| ?_
 rintro⟨k,v1,c1,u1,c2⟩ sg3 w3 ⟨fr3,uo,Ky,k0,k1,JH,CP⟩
 obtain⟨BP,auv⟩:=fr3.w2 0 1
 refine ai<|SR<|aF Ky<|aF auv<|V (Gt O O)<|V (dF O O)<|aa<|aG O (fun h5=> ?_) (fun h5=> ?_)
 .refine an<|ai<|aA<|SR<|aF BP<|V (af O)<|V (fA mH 1 O kB O)<|lV ia uo 0 O O rfl<|aF Ky<|V (ah (uo.BJ (i:=2) O CP) ia sizeOf1 O O (by(simp only[gA,ef];omega)))<|V (aE underlying1 O O ((uo.BJ (i:=2) O CP).cell _ _ (ank J J)))<|have hkl:(k-1).toNat<ul.length:=J;have hL1:Hp W0 w3 (.blk F (.cells #[nA,nB,nC,nD,nE,nF,nG,nH,v1,u1,vT,I (cnt),nI,nJ,nK,nL] 111 (0,0))::cE c1 v1 35 ((jI W (ul.map Prod.snd) k.toNat).map U)::(cE c2 u1 1 ((ul.take k.toNat).map Prod.fst)::L)):=uo;?_
  obtain⟨f6,cs7,hv8,hf9,aGk⟩:=akF (ul[(k-1).toNat]) ((hI _ (qD hkl)).mono fun e he=>mT he) (asF hok (by simpa using hkl) J) JH hL1
  refine cG O aGk (Mw hf9 ((show _=_ from O).trans ((aim J hkl).trans hv8))) ?_
  rintro _ Tz ⟨rfl,v11,c12,ae7,Gl⟩
  rw[asE J hkl]at ae7 Gl
  refine aa<|au<|aF BP<|aF BP<|V (af O)<|V (fA mH 1 O kB O)<|lV ia Gl 0 O O rfl<|aF Ky<|aF Ky<|V (wj (Gl.BJ (i:=2) O CP) ia sizeOf1 O O O YE)<|V (af O)<|V (fA mH 1 O kB O)<|have hs1:=((Gl.BJ (i:=2) O CP)).tO (n:=(k-1).toNat) YE;?_
  obtain⟨c18,aaJ,cP⟩:=Gl.asD (i:=2) O CP (m:=(k-1).toNat) YE
  simp only[jd,lf,<-Cg,Ce,show min (k-1).toNat k.toNat=(k-1).toNat by omega]at cP aaJ
  refine bg cP (i:=0) O (bK O O (v:=(tO u1 (k-1).toNat)) O (iu hs1).2 (iu hs1).1 (cP.blk (i:=0) O) aJ)<|fun N4 cK=>aa<|au<|aF Ky<|V (eS O O J)<|aI rfl<|aa<| ?_
  refine⟨(k-1,v11,c12,(tO u1 (k-1).toNat),c18),aX,fr3.u4.u4.u4.u4.u4.u4.u1,(Hp.conv cK aM),(aK I aM),J,J,?_,?_⟩
  .exact ae7
  exact aaJ
 refine a8 (id:=0) rfl<|SR<|va (v:=B true) rfl<|aa<|aj<|have ek:k=m:=J;?_
 subst ek
 exact jx O (v:=B true) O ⟨rfl,v1,c1,u1,c2,JH,CP,uo⟩
def Tryz.TU:Go.Shelf.Ren:=⟨fun|189=>161|125=>192|257=>191|128=>228|129=>229|294=>219|295=>220|296=>221|297=>222|298=>223|299=>224|216=>225|300=>226|301=>227|328=>244|329=>245|330=>246|331=>247|332=>248|215=>249|343=>257|n=>n,fun|28=>99|3=>3|46=>59|0=>0|51=>201|53=>35|4=>4|183=>247|182=>246|131=>174|5=>5|9=>9|218=>260|222=>264|228=>270|229=>271|n=>n,fun|n=>n⟩
theorem Tryz.akG:Go.Proofs.Lays.n189 Tryz.prog Tryz.TU:={
 mixed:=aQ
 f125:=func192.trans (aK some aQ)
 f128:=func228.trans (aK some aQ)
 f129:=func229.trans (aK some aQ)
 f189:=func161.trans (aK some aQ)
 f215:=func249.trans (aK some aQ)
 f216:=func225.trans (aK some aQ)
 f257:=func191.trans (aK some aQ)
 f294:=func219.trans (aK some aQ)
 f295:=func220.trans (aK some aQ)
 f296:=func221.trans (aK some aQ)
 f297:=func222.trans (aK some aQ)
 f298:=func223.trans (aK some aQ)
 f299:=func224.trans (aK some aQ)
 f300:=func226.trans (aK some aQ)
 f301:=func227.trans (aK some aQ)
 f328:=func244.trans (aK some aQ)
 f329:=func245.trans (aK some aQ)
 f330:=func246.trans (aK some aQ)
 f331:=func247.trans (aK some aQ)
 f332:=func248.trans (aK some aQ)
 f343:=func257.trans (aK some aQ)
 t0:=underlying0
 a0:=isAgg0
 z0:=sizeOf0
 v0:=Tryz.zeroValue0
 t3:=bx
 a3:=isAgg3
 z3:=aP
 v3:=Tryz.zeroValue3
 t4:=xY
 a4:=isAgg4
 z4:=oy
 v4:=Tryz.zeroValue4
 t5:=underlying5
 a5:=isAgg5
 z5:=sizeOf5
 v5:=Tryz.zeroValue5
 t9:=iz
 a9:=isAgg9
 z9:=kC
 v9:=Tryz.zeroValue9
 t28:=bD
 a28:=isAgg99
 z28:=dJ
 v28:=Tryz.zeroValue99
 t46:=zS
 a46:=isAgg59
 z46:=sizeOf59
 v46:=Tryz.zeroValue59
 t51:=underlying201
 a51:=isAgg201
 z51:=sizeOf201
 v51:=Tryz.zeroValue201
 t53:=dO
 a53:=isAgg35
 z53:=cQ
 v53:=Tryz.zeroValue35
 t131:=underlying174
 a131:=isAgg174
 z131:=sizeOf174
 v131:=Tryz.zeroValue174
 t182:=underlying246
 a182:=isAgg246
 z182:=sizeOf246
 v182:=Tryz.zeroValue246
 t183:=underlying247
 a183:=isAgg247
 z183:=sizeOf247
 v183:=Tryz.zeroValue247
 t218:=underlying260
 a218:=isAgg260
 z218:=sizeOf260
 v218:=Tryz.zeroValue260
 t222:=underlying264
 a222:=isAgg264
 z222:=sizeOf264
 v222:=Tryz.zeroValue264
 t228:=underlying270
 a228:=isAgg270
 z228:=sizeOf270
 v228:=Tryz.zeroValue270
 t229:=underlying271
 a229:=isAgg271
 z229:=sizeOf271
 v229:=Tryz.zeroValue271}
section
open Go.Sort Go.Shelf
theorem auw(blk cap:Nat)(zs:List Int)(w:World)(hH:Holds (Value.int .i64) w blk 0 zs.toArray)(hblk:blk<w.heap.size)(hsz:zs.length<4611686018427387904):
  Calls Tryz.prog 161 #[.slice (some ⟨blk,0,none⟩) zs.length cap] w fun e w'=>e= .returned (.tuple #[])/\∃n os,w'=grow (putRow (Value.int .i64) (Sort.ahead w n) blk 0 (zs.mergeSort fun x y=>decide (x<=y)).toArray) os:=
 calls_of_every_depth fun D=>AnyS.slices_Sort_int_alone Tryz.akG D blk 0 cap zs w hH hblk hsz
theorem aaK{w0 w:World}{L:List bu}{i:Nat}{v:Value}{e:TypeId}{zs:List Int}(hH:Hp w0 w L)(hi:L[i]?=some (.row v e 1 zs.length (zs.map I)))(hn:0<zs.length)(hs:zs.length<=4000000):
  Calls Tryz.prog 161 #[v] w (j3 fun u w'=>u= .tuple #[]/\Hp w0 w' (L.set i (.row v e 1 zs.length ((zs.mergeSort fun x y=>decide (x<=y)).map I)))):=by
 obtain⟨hl,h2⟩:=hH.get hi
 rcases h2 with⟨rfl,q⟩|⟨gb,cap,cur,rfl,hb,hg,hnc,hm,hsz,ht⟩
 .omega
 have hlt:gb<w.heap.size:=(Ca.1 hg).1
 have hlen:(zs.mergeSort fun x y=>decide (x<=y)).length=zs.length:=List.length_mergeSort _
 refine Calls.mono (auw gb cap zs w (holds_of_blockI hg (by rw[l9]at ht;exact ht)) hlt J) fun en w' ⟨he,n,os,hw⟩=> ?_
 subst he
 refine⟨rfl,?_⟩
 subst hw
 have h3:=ownsRow_sortedI (w:=w) (base:=w0.heap.size) (os:=os) (n:=n) (ss:=zs) (ts:=zs.mergeSort fun x y=>decide (x<=y)) hlen hb hg hnc hm hsz
 exact hH.yN hi h3 (grownBy_sortedI _) (.inr (.inl O))
end
theorem B5{nA nB nC nD nE nF nG nH nI nJ nK nL:Value}(F:Nat)(vW vU vT:Value)(cnt:Int)(nd:List qN)(cl:List Nat)(i:Int)(hn:nd.length<=1000000)(hf:Fo nd cl)(w:World)(hb:w.heap[F]?=some (.cells #[nA,nB,nC,nD,nE,nF,nG,nH,vW,vU,vT,I cnt,nI,nJ,nK,nL] 111 (0,0)))(hW:Sl w vW 1 (bE nd).length ((bE nd).map U)):Calls Tryz.prog 129 #[.pointer (some ⟨F,8,none⟩),I i] w (tg 3 1 (bP cl i).length ((bP cl i).map I) w):=by
 have Ur:=iF nd
 refine eH func129 rfl rfl fun hH=>SR<|va (v:= .slice none 0 0) rfl<|have jc:=hH.eI 3 1;aa<|Zz<|ai<|SR<|aF (v:=Pn _ _) rfl<|mI rfl<|aH O jc (m5 _ _ _ _ _ _ _ jK _ (jc.ext hb) (hW.hp jc)) (aL call158 O O)<|fun w2 uo=>V (vH O)<|aa<|aG O (fun h7=> ?_) (fun h7=> ?_)
 .refine SR<|va (v:= .slice none 0 0) rfl<|have eX:=uo.eI 3 1;aa<|aj<|Pa O O eX (i:=0) O ((by rw[Qv hf J];rfl)) ((by rw[Qv hf J];rfl))
 refine an<|SR<|va (v:= .slice none 0 0) rfl<|have iD:=uo.eI 3 1;aa<|SR<|mI rfl<|aI rfl<|aa<|ai<|ZA<|ai<|aA<|have hin:0<=i/\i<nd.length:=J;?_
 obtain⟨t,ht,hmt⟩:=hf.ring i.toNat J
 have htl:(i.toNat::t).length<=nd.length:=VF ht.2 fun k hk=>((hmt k).1 hk).1
 refine bt (G:=Nat×(List Nat)×(List Nat)×Value) (fun⟨a,o,m,v5⟩ s' w'=>(Fr (5::6::(rg 12 12 [])) _ s')/\(Hp w w' (.row v5 3 1 (o.length) ((o.map Int.ofNat).map I)::_))/\(s' 5=v5)/\(s' 6=I (a:Int))/\(i.toNat::t=o++a::m)/\(a<nd.length)/\(o.length+1<=nd.length)) (fun⟨a,o,m,v5⟩=>m.length) ((i.toNat,[],t,(.slice none 0 0:Value))) ⟨Fr.refl _ _,iD,rfl,(aK I (show i=((i.toNat:Nat):Int)by omega)),rfl,J,(by simp at htl⊢;omega)⟩ ?_
 rintro⟨a,o,m,v5⟩ WR Eo ⟨nX,cg,On,wD,he,ha,ho⟩
 obtain⟨EY,Ol⟩:=nX.w2 0 1
 have hnx:=abM hf hn ha
 have hst:=IZ ht he
 refine aA<|SR<|aF On<|aF wD<|ud 1 1 cg (cA bD O O (sz:=1) (vs:=[I _]) O O az az O O)<|fun Of Je cM=> ?_
 (try simp only[lC]at cM)
 refine gh O cM (i:=1) O (cM.dU (i:=0) (n:=1) (sz:=1) O O az) O O bD O O (size:=1) (bytes:=8) O O O az gZ J iA<|fun v14 Tz cH=> ?_
 refine V (run_assign bz) ?_
 refine aa<|SR<|aF EY<|V (af O)<|V (fA iy 0 O vD O)<|aF wD<|aH O cH (dz _ _ _ _ _ _ _ _ J _ (cH.ext hb) (hW.hp cH)) (bA uC O O (show _=I 2 from O))<|fun TC dQ=>aI rfl<|aa<|SR<|mI rfl<|aF Ol<|V (bW O O)<|aa<|aG O (fun O7=> ?_) (fun O7=> ?_)
 .refine a8 (id:=0) rfl<|SR<| ?_
  refine V (run_move bz) ?_
  have hzl:((o++[a]).map Int.ofNat).length<=4000000:=by rw[gA,ed,ey];omega
  rw[show(o.map Int.ofNat).map I++[I (a:Int)]=((o++[a]).map Int.ofNat).map I by simp,show o.length+1=((o++[a]).map Int.ofNat).length by simp]at dQ
  refine cG O (aaK (zs:=((o++[a]).map Int.ofNat)) (i:=1) (v:=v14) dQ O aJ hzl) (ay call161 O) ?_
  rintro _ N4 ⟨rfl,cK⟩
  refine aa<|SR<| ?_
  refine V (run_move bz) ?_
  refine V (run_assign bz) ?_
  refine aa<|aj<|Pa O O cK (i:=1) O ((by rw[<-No hf hin ht hmt he J,List.length_mergeSort])) ((by rw[<-No hf hin ht hmt he J]))
 refine an ?_
 refine⟨(tQ nd a,o++[a],m.tail,v14),?_,nX.u4.u4.u4.u1.u1,(Hp.conv (dQ.sub (sQ sR)) aJ),rfl,(aK I (abM hf hn ha)),?_,?_,?_⟩
 .exact(Aw ht hmt he (fun e=>‹¬_=i› J)).2.2.2
 .exact(Aw ht hmt he (fun e=>‹¬_=i› J)).1
 .exact(Aw ht hmt he (fun e=>‹¬_=i› J)).2.1
 (have:=(Aw ht hmt he (fun e=>‹¬_=i› J)).2.2.1;have:=VF ht.2 (fun k hk=>((hmt k).1 hk).1);omega)
set_option maxHeartbeats 1000000 in
theorem Ew{nA nB nC nD nE nF nG nH nI nJ nK nL:Value}(W0:World)(F:Nat)(vW vU vT:Value)(cnt:Int)(cW cU:Option (Nat×Array Value))(nd:List qN)(ul:List (Value×jU))(ts:List Int)(L:List bu)(hn:nd.length<=100000)(O4:ul.length<=1000000)(hts:ts.length<=1000000)(Xi: -1000000<=cnt/\cnt<=1000000)(w:World)(zF:cO cW vW ((bE nd).map U))(J1:cO cU vU (ul.map Prod.fst))(hH:Hp W0 w (.blk F (.cells #[nA,nB,nC,nD,nE,nF,nG,nH,vW,vU,vT,I (cnt),nI,nJ,nK,nL] 111 (0,0))::cE cW vW 35 ((bE nd).map U)::cE cU vU 1 (ul.map Prod.fst):: .row vT 3 1 ts.length (ts.map I)::L)):Calls Tryz.prog 47 #[.pointer (some ⟨F,8,none⟩)] w (j3 fun u w'=>u=I nd.length/\∃(v1:Value) (c1:Option (Nat×Array Value)) (u1:Value) (c2:Option (Nat×Array Value)) (t1:Value) (mD:List (Value×jU)) (Lb:List bu),cO c1 v1 ((bE (nd++[r5 nd.length])).map U)/\cO c2 u1 (mD.map Prod.fst)/\mD.map Prod.snd=Pe (ul.map Prod.snd) (bE nd).length/\mD.take ul.length=ul/\(∀x∈mD.drop ul.length,pV (⟨134,243,193,3,35,8⟩:UT) F Lb x)/\Hp W0 w' (.blk F (.cells #[nA,nB,nC,nD,nE,nF,nG,nH,v1,u1,t1,I (cnt+1),nI,nJ,nK,nL] 111 (0,0))::cE c1 v1 35 ((bE (nd++[r5 nd.length])).map U)::cE c2 u1 1 (mD.map Prod.fst):: .row t1 3 1 (ts++[(ul.length:Int)]).length ((ts++[(ul.length:Int)]).map I)::(Lb++L))):=by
 have Ur:=iF nd
 refine en func47 rfl rfl<|SR<|va (v:=I 0) rfl<|aa<|ai<|SR<|aF (v:=Pn _ _) rfl<|V (k9 LK O O)<|aa<|cT rfl<|an<|SR<|aF (v:=Pn _ _) rfl<|aH O hH (lW _ _ _ _ _ _ J _ (hH.blk (i:=0) O) (hH.yY (i:=1) O zF)) (ay call89 O)<|fun w1 bq=>aI rfl<|aa<|ai<|fX aQ bq (sQ (sP (sP (sQ sR))))<|fun w3 ix=>have E4:=ix.sub (sQ (sP (sP (sQ sR))));AQ 0 O E4 (mV (Pn _ _) O)<|AQ 1 O E4 (mV (Pn _ _) O)<|AQ 2 O E4 (af O)<|AQ 3 O E4 (fA iy 2 O dJ O)<|AQ 5 O E4 (mV (Pn _ _) O)<|AQ 6 O E4 (af O)<|AQ 7 O E4 (fA iy 0 O vD O)<|AQ 8 O E4 (fA zP 0 O zU O)<|gj 4 9 aQ ?_ ?_
 .refine cf O aC O ix (sQ (sP (sP (sQ sR)))) (aE bD O O (ix.cell (i:=0) O O))<|A1 9<|cm O aC O ix (sQ (sP (sP (sQ sR)))) (m4 _ _ _ _ _ _ _ _ (ix.blk (i:=0) O) (ix.yY (i:=1) O zF) (ix.BJ (i:=2) O J1)) (ay call90 O)<|fun w7 eX=>A1 10<|cB O aC O eX (sQ (sP (sP (sQ sR)))) (f:=fun b=> .slice (some ⟨b,0,none⟩) 1 1) (cA bD O O (sz:=1) (vs:=[I _]) O O az az O O)<|fun b11 w9 cg=> ?_
  (try simp only[lC]at cg)
  refine A1 11<|fB O aC O cg (j:=4) O (fun _=>(sQ (sQ (sP (sP (sQ sR)))))) (cg.dU (i:=0) (n:=1) (sz:=1) O O az) O O bD O O (size:=1) (bytes:=8) O O O az gZ J iA<|fun v14 zl bV=>AQ 12 O (bV.sub (sQ (sQ (sP (sP (sQ sR)))))) (af O)<|AQ 13 O (bV.sub (sQ (sQ (sP (sP (sQ sR)))))) (fA iy 2 O dJ O)<|A1 14<|dW O aC bV (j:=1) O (sQ (sQ (sP (sP (sQ sR))))) (bK O O (v:=v14) O (aZ (bV.get (i:=4) O)).1 (aZ (bV.get (i:=4) O)).2 (bV.blk (i:=1) O) aJ)<|fun TC dQ=>AD<|ai<|SR<|mI rfl<|mI rfl<|mI rfl<|ud 4 4 dQ (cA bD O O (sz:=1) (vs:=[I _,I 1,I _,I _]) O O az az O O)<|fun b21 Q2 cP=> ?_
  (try simp only[lC]at cP)
  refine V (aD (cP.dU (i:=0) (n:=4) (sz:=1) O O az) O bD O)<|aF (v:=I 0) rfl<|aa<|aA<|have e0:((bE nd)++(Gi (r5 nd.length)).take (0:Int).toNat)=(bE nd):=aJ;bt (G:=Int×Value×(Option (Nat×Array Value))×Value×(Option (Nat×Array Value))×(List (Value×jU))×(List bu)) (fun⟨k,v1,c1,u1,c2,mD,Z1⟩ s' w'=>(Fr (5::(rg 29 12 [])) _ s')/\(Hp W0 w' (_::_:: .blk F (.cells #[nA,nB,nC,nD,nE,nF,nG,nH,v1,u1,v14,I (cnt),nI,nJ,nK,nL] 111 (0,0))::cE c1 v1 35 (((bE nd)++(Gi (r5 nd.length)).take k.toNat).map U)::cE c2 u1 1 (mD.map Prod.fst)::_::Z1))/\(s' 29=I k)/\(0<=k)/\(k<=4)/\(cO c1 v1 (((bE nd)++(Gi (r5 nd.length)).take k.toNat).map U))/\(cO c2 u1 (mD.map Prod.fst))/\(mD.map Prod.snd=ul.map Prod.snd++Np (bE nd).length k)/\(mD.take ul.length=ul)/\(∃Lb,Z1=Lb++L/\∀x∈mD.drop ul.length,pV (⟨134,243,193,3,35,8⟩:UT) F Lb x)/\(mD.length<=ul.length+k.toNat)) (fun⟨k,v1,c1,u1,c2,mD,Z1⟩=>(4-k).toNat) ((0,vW,cW,vU,cU,ul,L)) ⟨Fr.refl _ _,(by rw[e0];exact cP),rfl,J,J,Sk,J1,(by simp[Np]),(HT ..),⟨[],rfl,aJ⟩,J⟩<| ?_
  rintro⟨k,v1,c1,u1,c2,mD,Z1⟩ aFx TD ⟨akh,cK,aaL,h0,h4,JH,CP,hms,hpt,hzz,aoD⟩
  obtain⟨aq0,azm,auy,auz⟩:=akh.w4 0 3 27 28
  refine SR<|V (aN aaL auz)<|aa<|ai<|aG O (fun yI=> ?_) (fun yI=> ?_)
  .refine an<|ai<|aA<|SR<|V (ah (cK.dU (i:=0) (n:=4) (sz:=1) O O az) bD aP auy aaL J)<|V (aE bx O O ((cK.dU (i:=0) (n:=4) (sz:=1) O O az).cell _ _ (ZB h0 ‹k<_›)))<|aI rfl<|aa<|au<|aF aq0<|V (af O)<|V (fA iy 0 O vD O)<|V (fA zP 0 O zU O)<|mI rfl<|V (jL bx dO O)<|cG O (rX _ _ _ _ _ _ _ _ _ _ _ _ Yz J _ JH CP (cK.pj [2,2,2])) (aL call91 O O)<| ?_
   rintro _ w27 ⟨rfl,v30,c31,u32,e33,auA,azn,aGm,aGn,aGo,azo,aGp,azp,WN⟩
   have gE:=Hp.mQ (A:=[_,_,_]) (R:=[_,_,_]) WN
   simp only[gB,eR]at gE
   have q5:=gE.pk [3,3]
   refine aa<|au<|V (ax aaL O J)<|mI rfl<|aa<| ?_
   refine⟨(k+1,v30,c31,u32,e33,auA,(azn++Z1)),aX,akh.u4.u4.u4.u1,(Hp.conv q5 YA),(aK I aM),J,J,?_,?_,?_,?_,?_,?_⟩
   ·(rw[KG h0 ‹k<_›,<-dH];exact aGm)
   .exact aGn
   ·(rw[aGo,hms,I1 h0,<-dH,ed,ef];congr 3;(have:(Gi (r5 nd.length)).length=4:=rfl);omega)
   ·(obtain⟨Lb0,rfl,Xj⟩:=hzz;exact(pW hpt azo Xj azp).1)
   ·(obtain⟨Lb0,rfl,Xj⟩:=hzz;exact⟨azn++Lb0,by rw[dH],(pW hpt azo Xj azp).2⟩)
   (have:=aGp;omega)
  refine a8 (id:=0) rfl<|SR<|aF aq0<|V (af O)<|V (fA iy 3 O aP O)<|lI bx cK 2 O O rfl<|V (ax O O J)<|V (af O)<|V (fA iy 3 O aP O)<|bg cK (i:=2) O (bK O O (v:=I _) O O O (cK.blk (i:=2) O) aJ)<|fun w43 pK=>aa<|SR<|aF azm<|aI rfl<|aa<|aj<|have ek:k=4:=J;?_
  subst ek
  obtain⟨Lb0,rfl,Xj⟩:=hzz
  exact jx O (v:=I nd.length) O ⟨rfl,v1,c1,u1,c2,v14,mD,Lb0,YF,CP,(hms.trans ZC),hpt,Xj,(by rw[qF,show(ts++[(ul.length:Int)]).length=ts.length+1 by simp,show(ts++[(ul.length:Int)]).map I=ts.map I++[I ((ul.map Prod.fst).length:Int)]by simp];exact(pK.pj [2,2,2,2]).sub (sP (sP (sP (sP (sQ (sQ sR)))))))⟩
 refine cm O aC O ix (sQ (sP (sP (sQ sR)))) (m4 _ _ _ _ _ _ _ _ (ix.blk (i:=0) O) (ix.yY (i:=1) O zF) (ix.BJ (i:=2) O J1)) (ay call90 O)<|fun w45 oq=>gj 4 10 aQ ?_ ?_
 .refine cf O aC O oq (sQ (sP (sP (sQ sR)))) (aE bD O O (oq.cell (i:=0) O O))<|A1 10<|cB O aC O oq (sQ (sP (sP (sQ sR)))) (f:=fun b=> .slice (some ⟨b,0,none⟩) 1 1) (cA bD O O (sz:=1) (vs:=[I _]) O O az az O O)<|fun b51 w49 eO=> ?_
  (try simp only[lC]at eO)
  refine A1 11<|fB O aC O eO (j:=4) O (fun _=>(sQ (sQ (sP (sP (sQ sR)))))) (eO.dU (i:=0) (n:=1) (sz:=1) O O az) O O bD O O (size:=1) (bytes:=8) O O O az gZ J iA<|fun v54 w52 jA=>AQ 12 O (jA.sub (sQ (sQ (sP (sP (sQ sR)))))) (af O)<|AQ 13 O (jA.sub (sQ (sQ (sP (sP (sQ sR)))))) (fA iy 2 O dJ O)<|A1 14<|dW O aC jA (j:=1) O (sQ (sQ (sP (sP (sQ sR))))) (bK O O (v:=v54) O (aZ (jA.get (i:=4) O)).1 (aZ (jA.get (i:=4) O)).2 (jA.blk (i:=1) O) aJ)<|fun w57 oP=>AD<|ai<|SR<|mI rfl<|mI rfl<|mI rfl<|ud 4 4 oP (cA bD O O (sz:=1) (vs:=[I _,I 1,I _,I _]) O O az az O O)<|fun b61 w59 wH=> ?_
  (try simp only[lC]at wH)
  refine V (aD (wH.dU (i:=0) (n:=4) (sz:=1) O O az) O bD O)<|aF (v:=I 0) rfl<|aa<|aA<|have e0:((bE nd)++(Gi (r5 nd.length)).take (0:Int).toNat)=(bE nd):=aJ;bt (G:=Int×Value×(Option (Nat×Array Value))×Value×(Option (Nat×Array Value))×(List (Value×jU))×(List bu)) (fun⟨k,v1,c1,u1,c2,mD,Z1⟩ s' w'=>(Fr (5::(rg 29 12 [])) _ s')/\(Hp W0 w' (_::_:: .blk F (.cells #[nA,nB,nC,nD,nE,nF,nG,nH,v1,u1,v54,I (cnt),nI,nJ,nK,nL] 111 (0,0))::cE c1 v1 35 (((bE nd)++(Gi (r5 nd.length)).take k.toNat).map U)::cE c2 u1 1 (mD.map Prod.fst)::_::Z1))/\(s' 29=I k)/\(0<=k)/\(k<=4)/\(cO c1 v1 (((bE nd)++(Gi (r5 nd.length)).take k.toNat).map U))/\(cO c2 u1 (mD.map Prod.fst))/\(mD.map Prod.snd=ul.map Prod.snd++Np (bE nd).length k)/\(mD.take ul.length=ul)/\(∃Lb,Z1=Lb++L/\∀x∈mD.drop ul.length,pV (⟨134,243,193,3,35,8⟩:UT) F Lb x)/\(mD.length<=ul.length+k.toNat)) (fun⟨k,v1,c1,u1,c2,mD,Z1⟩=>(4-k).toNat) ((0,vW,cW,vU,cU,ul,L)) ⟨Fr.refl _ _,(by rw[e0];exact wH),rfl,J,J,Sk,J1,(by simp[Np]),(HT ..),⟨[],rfl,aJ⟩,J⟩<| ?_
  rintro⟨k,v1,c1,u1,c2,mD,Z1⟩ aO5 w62 ⟨azq,sj,aaM,h0,h4,JH,CP,hms,hpt,hzz,aoD⟩
  obtain⟨aq1,azr,auB,auC⟩:=azq.w4 0 3 27 28
  refine SR<|V (aN aaM auC)<|aa<|ai<|aG O (fun Sr=> ?_) (fun Sr=> ?_)
  .refine an<|ai<|aA<|SR<|V (ah (sj.dU (i:=0) (n:=4) (sz:=1) O O az) bD aP auB aaM J)<|V (aE bx O O ((sj.dU (i:=0) (n:=4) (sz:=1) O O az).cell _ _ (ZB h0 ‹k<_›)))<|aI rfl<|aa<|au<|aF aq1<|V (af O)<|V (fA iy 0 O vD O)<|V (fA zP 0 O zU O)<|mI rfl<|V (jL bx dO O)<|cG O (rX _ _ _ _ _ _ _ _ _ _ _ _ Yz J _ JH CP (sj.pj [2,2,2])) (aL call91 O O)<| ?_
   rintro _ w67 ⟨rfl,v70,c71,u72,e73,aGq,ae8,aGr,aGs,aGt,azs,aGu,azt,h68⟩
   have KA:=Hp.mQ (A:=[_,_,_]) (R:=[_,_,_]) h68
   simp only[gB,eR]at KA
   have o5:=KA.pk [3,3]
   refine aa<|au<|V (ax aaM O J)<|mI rfl<|aa<| ?_
   refine⟨(k+1,v70,c71,u72,e73,aGq,(ae8++Z1)),aX,azq.u4.u4.u4.u1,(Hp.conv o5 YA),(aK I aM),J,J,?_,?_,?_,?_,?_,?_⟩
   ·(rw[KG h0 ‹k<_›,<-dH];exact aGr)
   .exact aGs
   ·(rw[aGt,hms,I1 h0,<-dH,ed,ef];congr 3;(have:(Gi (r5 nd.length)).length=4:=rfl);omega)
   ·(obtain⟨Lb0,rfl,Xj⟩:=hzz;exact(pW hpt azs Xj azt).1)
   ·(obtain⟨Lb0,rfl,Xj⟩:=hzz;exact⟨ae8++Lb0,by rw[dH],(pW hpt azs Xj azt).2⟩)
   (have:=aGu;omega)
  refine a8 (id:=0) rfl<|SR<|aF aq1<|V (af O)<|V (fA iy 3 O aP O)<|lI bx sj 2 O O rfl<|V (ax O O J)<|V (af O)<|V (fA iy 3 O aP O)<|bg sj (i:=2) O (bK O O (v:=I _) O O O (sj.blk (i:=2) O) aJ)<|fun w83 kx=>aa<|SR<|aF azr<|aI rfl<|aa<|aj<|have ek:k=4:=J;?_
  subst ek
  obtain⟨Lb0,rfl,Xj⟩:=hzz
  exact jx O (v:=I nd.length) O ⟨rfl,v1,c1,u1,c2,v54,mD,Lb0,YF,CP,(hms.trans ZC),hpt,Xj,(by rw[qF,show(ts++[(ul.length:Int)]).length=ts.length+1 by simp,show(ts++[(ul.length:Int)]).map I=ts.map I++[I ((ul.map Prod.fst).length:Int)]by simp];exact(kx.pj [2,2,2,2]).sub (sP (sP (sP (sP (sQ (sQ sR)))))))⟩
 refine cB O aC O oq (sQ (sP (sP (sQ sR)))) (f:=fun b=> .slice (some ⟨b,0,none⟩) 1 1) (cA bD O O (sz:=1) (vs:=[I _]) O O az az O O)<|fun b87 w85 uH=> ?_
 (try simp only[lC]at uH)
 refine A1 4<|cf O aC O uH (sQ (sQ (sP (sP (sQ sR))))) (aE bD O O (uH.cell (i:=1) O O))<|A1 11<|fB O aC O uH (j:=4) O (fun _=>(sQ (sQ (sP (sP (sQ sR)))))) (uH.dU (i:=0) (n:=1) (sz:=1) O O az) O O bD O O (size:=1) (bytes:=8) O O O az gZ J iA<|fun v92 w90 OJ=>AQ 12 O (OJ.sub (sQ (sQ (sP (sP (sQ sR)))))) (af O)<|AQ 13 O (OJ.sub (sQ (sQ (sP (sP (sQ sR)))))) (fA iy 2 O dJ O)<|A1 14<|dW O aC OJ (j:=1) O (sQ (sQ (sP (sP (sQ sR))))) (bK O O (v:=v92) O (aZ (OJ.get (i:=4) O)).1 (aZ (OJ.get (i:=4) O)).2 (OJ.blk (i:=1) O) aJ)<|fun w95 qc=>AD<|ai<|SR<|mI rfl<|mI rfl<|mI rfl<|ud 4 4 qc (cA bD O O (sz:=1) (vs:=[I _,I 1,I _,I _]) O O az az O O)<|fun b99 w97 Ow=> ?_
 (try simp only[lC]at Ow)
 refine V (aD (Ow.dU (i:=0) (n:=4) (sz:=1) O O az) O bD O)<|aF (v:=I 0) rfl<|aa<|aA<|have e0:((bE nd)++(Gi (r5 nd.length)).take (0:Int).toNat)=(bE nd):=aJ;bt (G:=Int×Value×(Option (Nat×Array Value))×Value×(Option (Nat×Array Value))×(List (Value×jU))×(List bu)) (fun⟨k,v1,c1,u1,c2,mD,Z1⟩ s' w'=>(Fr (5::(rg 29 12 [])) _ s')/\(Hp W0 w' (_::_:: .blk F (.cells #[nA,nB,nC,nD,nE,nF,nG,nH,v1,u1,v92,I (cnt),nI,nJ,nK,nL] 111 (0,0))::cE c1 v1 35 (((bE nd)++(Gi (r5 nd.length)).take k.toNat).map U)::cE c2 u1 1 (mD.map Prod.fst)::_::Z1))/\(s' 29=I k)/\(0<=k)/\(k<=4)/\(cO c1 v1 (((bE nd)++(Gi (r5 nd.length)).take k.toNat).map U))/\(cO c2 u1 (mD.map Prod.fst))/\(mD.map Prod.snd=ul.map Prod.snd++Np (bE nd).length k)/\(mD.take ul.length=ul)/\(∃Lb,Z1=Lb++L/\∀x∈mD.drop ul.length,pV (⟨134,243,193,3,35,8⟩:UT) F Lb x)/\(mD.length<=ul.length+k.toNat)) (fun⟨k,v1,c1,u1,c2,mD,Z1⟩=>(4-k).toNat) ((0,vW,cW,vU,cU,ul,L)) ⟨Fr.refl _ _,(by rw[e0];exact Ow),rfl,J,J,Sk,J1,(by simp[Np]),(HT ..),⟨[],rfl,aJ⟩,J⟩<| ?_
 rintro⟨k,v1,c1,u1,c2,mD,Z1⟩ aLg auD ⟨aq2,wJ,TV,h0,h4,JH,CP,hms,hpt,hzz,aoD⟩
 obtain⟨akI,auE,aoE,aoF⟩:=aq2.w4 0 3 27 28
 refine SR<|V (aN TV aoF)<|aa<|ai<|aG O (fun aGv=> ?_) (fun aGv=> ?_)
 .refine an<|ai<|aA<|SR<|V (ah (wJ.dU (i:=0) (n:=4) (sz:=1) O O az) bD aP aoE TV J)<|V (aE bx O O ((wJ.dU (i:=0) (n:=4) (sz:=1) O O az).cell _ _ (ZB h0 ‹k<_›)))<|aI rfl<|aa<|au<|aF akI<|V (af O)<|V (fA iy 0 O vD O)<|V (fA zP 0 O zU O)<|mI rfl<|V (jL bx dO O)<|cG O (rX _ _ _ _ _ _ _ _ _ _ _ _ Yz J _ JH CP (wJ.pj [2,2,2])) (aL call91 O O)<| ?_
  rintro _ aow ⟨rfl,aGw,aGx,aGy,aGz,azv,aq3,akJ,azw,azx,aq4,azy,aq5,aGA⟩
  have HC:=Hp.mQ (A:=[_,_,_]) (R:=[_,_,_]) aGA
  simp only[gB,eR]at HC
  have E2:=HC.pk [3,3]
  refine aa<|au<|V (ax TV O J)<|mI rfl<|aa<| ?_
  refine⟨(k+1,aGw,aGx,aGy,aGz,azv,(aq3++Z1)),aX,aq2.u4.u4.u4.u1,(Hp.conv E2 YA),(aK I aM),J,J,?_,?_,?_,?_,?_,?_⟩
  ·(rw[KG h0 ‹k<_›,<-dH];exact akJ)
  .exact azw
  ·(rw[azx,hms,I1 h0,<-dH,ed,ef];congr 3;(have:(Gi (r5 nd.length)).length=4:=rfl);omega)
  ·(obtain⟨Lb0,rfl,Xj⟩:=hzz;exact(pW hpt aq4 Xj aq5).1)
  ·(obtain⟨Lb0,rfl,Xj⟩:=hzz;exact⟨aq3++Lb0,by rw[dH],(pW hpt aq4 Xj aq5).2⟩)
  (have:=azy;omega)
 refine a8 (id:=0) rfl<|SR<|aF akI<|V (af O)<|V (fA iy 3 O aP O)<|lI bx wJ 2 O O rfl<|V (ax O O J)<|V (af O)<|V (fA iy 3 O aP O)<|bg wJ (i:=2) O (bK O O (v:=I _) O O O (wJ.blk (i:=2) O) aJ)<|fun aGB OC=>aa<|SR<|aF auE<|aI rfl<|aa<|aj<|have ek:k=4:=J;?_
 subst ek
 obtain⟨Lb0,rfl,Xj⟩:=hzz
 exact jx O (v:=I nd.length) O ⟨rfl,v1,c1,u1,c2,v92,mD,Lb0,YF,CP,(hms.trans ZC),hpt,Xj,(by rw[qF,show(ts++[(ul.length:Int)]).length=ts.length+1 by simp,show(ts++[(ul.length:Int)]).map I=ts.map I++[I ((ul.map Prod.fst).length:Int)]by simp];exact(OC.pj [2,2,2,2]).sub (sP (sP (sP (sP (sQ (sQ sR)))))))⟩
set_option maxHeartbeats 1000000 in
theorem B6{nA nB nC nD nE nF nG nH nI nJ nK nL:Value}(W0:World)(F:Nat)(vW vU vT:Value)(cnt:Int)(cW cU:Option (Nat×Array Value))(nd:List qN)(ul:List (Value×jU))(ts:List Int)(L:List bu)(cl:List Nat)(i j:Int)(hn:nd.length<=100000)(O4:ul.length<=1000000)(hts:ts.length<=1000000)(Xi: -1000000<=cnt/\cnt<=1000000)(hf:Fo nd cl)(w:World)(zF:cO cW vW ((bE nd).map U))(J1:cO cU vU (ul.map Prod.fst))(hH:Hp W0 w (.blk F (.cells #[nA,nB,nC,nD,nE,nF,nG,nH,vW,vU,vT,I (cnt),nI,nJ,nK,nL] 111 (0,0))::cE cW vW 35 ((bE nd).map U)::cE cU vU 1 (ul.map Prod.fst):: .row vT 3 1 ts.length (ts.map I)::L)):Calls Tryz.prog 156 #[.pointer (some ⟨F,8,none⟩),I i,I j] w (j3 fun u w'=>(u=B false/\¬I5 nd.length cl i j/\Hp W0 w' (.blk F (.cells #[nA,nB,nC,nD,nE,nF,nG,nH,vW,vU,vT,I (cnt),nI,nJ,nK,nL] 111 (0,0))::cE cW vW 35 ((bE nd).map U)::cE cU vU 1 (ul.map Prod.fst):: .row vT 3 1 ts.length (ts.map I)::L))\/(u=B true/\∃(a b:Nat),UnP nd cl i j a b/\∃(v1:Value) (c1:Option (Nat×Array Value)) (u1:Value) (c2:Option (Nat×Array Value)) (t1:Value) (mD:List (Value×jU)) (Lb:List bu),cO c1 v1 ((bE (pU nd a b)).map U)/\cO c2 u1 (mD.map Prod.fst)/\mK (bE nd) (ul.map Prod.snd) (bE (pU nd a b)) (mD.map Prod.snd)/\mD.take ul.length=ul/\mD.length<=ul.length+5/\(∀x∈mD.drop ul.length,pV (⟨134,243,193,3,35,8⟩:UT) F Lb x)/\Hp W0 w' (.blk F (.cells #[nA,nB,nC,nD,nE,nF,nG,nH,v1,u1,t1,I (cnt-1),nI,nJ,nK,nL] 111 (0,0))::cE c1 v1 35 ((bE (pU nd a b)).map U)::cE c2 u1 1 (mD.map Prod.fst):: .row t1 3 1 (ts++[(ul.length:Int)]).length ((ts++[(ul.length:Int)]).map I)::(Lb++L)))):=by
 have Ur:=iF nd
 refine en func156 rfl rfl<|SR<|va (v:=B false) rfl<|aa<|ai<|SR<|aF (v:=Pn _ _) rfl<|mI rfl<|aH O hH (m5 _ _ _ _ _ _ _ J _ (hH.blk (i:=0) O) (hH.yY (i:=1) O zF)) (aL call158 O O)<|fun w1 bq=>V (vH O)<|mB rfl<|bM 16 O (fun h6=> ?_) (fun h6=> ?_)
 .refine aF (v:=B true) rfl<|aa<|cz rfl<|SR<|va (v:=B false) rfl<|aa<|aj<|jx O (v:=B false) O (.inl ⟨rfl,(by exact asQ J),bq⟩)
 refine aF (v:=Pn _ _) rfl<|mI rfl<|aH O bq (m5 _ _ _ _ _ _ _ J _ (bq.blk (i:=0) O) (bq.yY (i:=1) O zF)) (aL call158 O O)<|fun w7 eX=>V (vH O)<|mB rfl<|aa<|aG O (fun h12=> ?_) (fun h12=> ?_)
 .refine SR<|va (v:=B false) rfl<|aa<|aj<|jx O (v:=B false) O (.inl ⟨rfl,(by exact asR J),eX⟩)
 refine an<|SR<|aF (v:=Pn _ _) rfl<|mI rfl<|aH O eX (oS _ _ _ _ _ nd cl _ J jK J _ (eX.blk (i:=0) O) (eX.yY (i:=1) O zF)) (aL call160 O O)<|fun BR cD=>aF (v:=Pn _ _) rfl<|mI rfl<|aH O cD (oS _ _ _ _ _ nd cl _ J jK J _ (cD.blk (i:=0) O) (cD.yY (i:=1) O zF)) (aL call160 O O)<|fun Tz cH=>aI rfl<|aI rfl<|aa<|ai<|SR<|mI rfl<|mI rfl<|V (bW O O)<|aa<|aG O (fun p9=> ?_) (fun p9=> ?_)
 .refine SR<|va (v:=B false) rfl<|aa<|aj<|jx O (v:=B false) O (.inl ⟨rfl,(by exact asS hf J J J),cH⟩)
 refine an<|SR<|aF (v:=Pn _ _) rfl<|V (af O)<|V (fA iy 0 O vD O)<|va (v:=Pn _ _) rfl<|aa<|FH (G:=(Value)) cH (rg 34 13 []) (fun(L:List bu) (t1:(Value))=>((L).set 0 (.blk F (.cells #[nA,nB,nC,nD,nE,nF,nG,nH,vW,vU,t1,I (cnt),nI,nJ,nK,nL] 111 (0,0)))).set 3 (.row t1 3 1 (ts.length+1) (ts.map I++[I ((ul.map Prod.fst).length:Int)]))) (fun(t1:(Value)) s'=>True) ?_ ?_
 .refine fX aQ cH (sQ (sP (sP (sQ sR))))<|fun Q2 cP=>have oo:=cP.sub (sQ (sP (sP (sQ sR))));AQ 0 O oo (mV (Pn _ _) O)<|AQ 1 O oo (mV (Pn _ _) O)<|AQ 2 O oo (af O)<|AQ 3 O oo (fA iy 2 O dJ O)<|AQ 5 O oo (mV (Pn _ _) O)<|AQ 6 O oo (af O)<|AQ 7 O oo (fA zP 0 O zU O)<|gj 4 8 aQ ?_ ?_
  .refine cf O aC O cP (sQ (sP (sP (sQ sR)))) (aE bD O O (cP.cell (i:=0) O O))<|A1 8<|cm O aC O cP (sQ (sP (sP (sQ sR)))) (m4 _ _ _ _ _ _ _ _ (cP.blk (i:=0) O) (cP.yY (i:=1) O zF) (cP.BJ (i:=2) O J1)) (ay call90 O)<|fun w23 gM=>A1 9<|cB O aC O gM (sQ (sP (sP (sQ sR)))) (f:=fun b=> .slice (some ⟨b,0,none⟩) 1 1) (cA bD O O (sz:=1) (vs:=[I _]) O O az az O O)<|fun b27 w25 jy=> ?_
   (try simp only[lC]at jy)
   refine A1 10<|fB O aC O jy (j:=4) O (fun _=>(sQ (sQ (sP (sP (sQ sR)))))) (jy.dU (i:=0) (n:=1) (sz:=1) O O az) O O bD O O (size:=1) (bytes:=8) O O O az gZ J iA<|fun v30 w28 gE=>AQ 11 O (gE.sub (sQ (sQ (sP (sP (sQ sR)))))) (af O)<|AQ 12 O (gE.sub (sQ (sQ (sP (sP (sQ sR)))))) (fA iy 2 O dJ O)<|A1 13<|dW O aC gE (j:=1) O (sQ (sQ (sP (sP (sQ sR))))) (bK O O (v:=v30) O (aZ (gE.get (i:=4) O)).1 (aZ (gE.get (i:=4) O)).2 (gE.blk (i:=1) O) aJ)<|fun w33 kr=>AD<| ?_
   refine⟨((Fr.refl _ _)).u4.u4.u4.u1,v30,(Hp.conv (kr.sub (sQ sR)) aM),trivial⟩
  refine cm O aC O cP (sQ (sP (sP (sQ sR)))) (m4 _ _ _ _ _ _ _ _ (cP.blk (i:=0) O) (cP.yY (i:=1) O zF) (cP.BJ (i:=2) O J1)) (ay call90 O)<|fun w35 j8=>gj 4 9 aQ ?_ ?_
  .refine cf O aC O j8 (sQ (sP (sP (sQ sR)))) (aE bD O O (j8.cell (i:=0) O O))<|A1 9<|cB O aC O j8 (sQ (sP (sP (sQ sR)))) (f:=fun b=> .slice (some ⟨b,0,none⟩) 1 1) (cA bD O O (sz:=1) (vs:=[I _]) O O az az O O)<|fun b41 w39 lO=> ?_
   (try simp only[lC]at lO)
   refine A1 10<|fB O aC O lO (j:=4) O (fun _=>(sQ (sQ (sP (sP (sQ sR)))))) (lO.dU (i:=0) (n:=1) (sz:=1) O O az) O O bD O O (size:=1) (bytes:=8) O O O az gZ J iA<|fun v44 w42 mz=>AQ 11 O (mz.sub (sQ (sQ (sP (sP (sQ sR)))))) (af O)<|AQ 12 O (mz.sub (sQ (sQ (sP (sP (sQ sR)))))) (fA iy 2 O dJ O)<|A1 13<|dW O aC mz (j:=1) O (sQ (sQ (sP (sP (sQ sR))))) (bK O O (v:=v44) O (aZ (mz.get (i:=4) O)).1 (aZ (mz.get (i:=4) O)).2 (mz.blk (i:=1) O) aJ)<|fun w47 jR=>AD<| ?_
   refine⟨((Fr.refl _ _)).u4.u4.u4.u1,v44,(Hp.conv (jR.sub (sQ sR)) aM),trivial⟩
  refine cB O aC O j8 (sQ (sP (sP (sQ sR)))) (f:=fun b=> .slice (some ⟨b,0,none⟩) 1 1) (cA bD O O (sz:=1) (vs:=[I _]) O O az az O O)<|fun b51 w49 eO=> ?_
  (try simp only[lC]at eO)
  refine A1 4<|cf O aC O eO (sQ (sQ (sP (sP (sQ sR))))) (aE bD O O (eO.cell (i:=1) O O))<|A1 10<|fB O aC O eO (j:=4) O (fun _=>(sQ (sQ (sP (sP (sQ sR)))))) (eO.dU (i:=0) (n:=1) (sz:=1) O O az) O O bD O O (size:=1) (bytes:=8) O O O az gZ J iA<|fun v56 w54 jz=>AQ 11 O (jz.sub (sQ (sQ (sP (sP (sQ sR)))))) (af O)<|AQ 12 O (jz.sub (sQ (sQ (sP (sP (sQ sR)))))) (fA iy 2 O dJ O)<|A1 13<|dW O aC jz (j:=1) O (sQ (sQ (sP (sP (sQ sR))))) (bK O O (v:=v56) O (aZ (jz.get (i:=4) O)).1 (aZ (jz.get (i:=4) O)).2 (jz.blk (i:=1) O) aJ)<|fun w59 wH=>AD<| ?_
  refine⟨((Fr.refl _ _)).u4.u4.u4.u1,v56,(Hp.conv (wH.sub (sQ sR)) aM),trivial⟩
 rintro t1 aPa w61 aGC Es-
 obtain⟨azz,aLi,akK,akL,akM⟩:=aGC.w5 0 6 7 8 9
 refine FH (G:=(Nat)×(Nat)) Es (7::8::(rg 47 9 [])) (fun(L:List bu) (⟨a,b⟩:(Nat)×(Nat))=>L) (fun(⟨a,b⟩:(Nat)×(Nat)) s'=>(s' 7=I (a:Int))/\(s' 8=I (b:Int))/\(UnP nd cl i j a b)) ?_ ?_
 .refine SR<|aF akM<|aF akK<|aH O Es (dz _ _ _ _ _ _ _ _ afT _ (Es.blk (i:=0) O) (Es.yY (i:=1) O zF)) (bA uC O O (show _=I 1 from O))<|fun w62 o6=>aF akM<|aF akL<|aH O o6 (dz _ _ _ _ _ _ _ _ afT _ (o6.blk (i:=0) O) (o6.yY (i:=1) O zF)) (bA uC O O (show _=I 1 from O))<|fun w64 wZ=>V (aN O O)<|aa<|aG O (fun h67=> ?_) (fun h67=> ?_)
  .refine au<|aF akL<|aF akK<|aI rfl<|aI rfl<|aa<| ?_
   refine⟨((Fr.refl _ _)).u4.u4.u1.u1.u1,(ph nd cl j.toNat,ph nd cl i.toNat),wZ,(aK I aM),(aK I aM),?_⟩
   exact(VW hf J J J).swap
  refine an ?_
  refine⟨((Fr.refl _ _)).u4.u1.u1.u1,(ph nd cl i.toNat,ph nd cl j.toNat),wZ,(jZ akK (aK I aM)),(jZ akL (aK I aM)),?_⟩
  exact VW hf J J J
 rintro⟨a,b⟩ aPb w68 aGE kJ ⟨OK,Xk,hP⟩
 obtain⟨azA,Dz⟩:=aGE.t2 0 azz 9 akM
 have ha:=hP.ha
 have hb:=hP.hb
 have hab:=hP.ab
 have sa:=hf.small ha
 have sb:=hf.small hb
 have ta:=hf.aiA ha hP.ua
 have tb:=hf.aiA hb hP.ub
 refine SR<|aF Dz<|aF Xk<|aF OK<|cG O (kK _ _ _ _ _ _ _ _ _ _ _ _ _ _ J J J _ zF J1 kJ) (jE call189 O O (show _=I 0 from O) O)<| ?_
 rintro _ w71 ⟨rfl,v74,c75,u76,e77,azB,aPc,aoG,aGF,aGG,aGH,aPd,aGI,h72⟩
 have vc:=Hp.mQ (A:=[_,_,_]) (R:=[_]) h72
 simp only[gB,eR]at vc
 have l1:(kO nd b a).length=nd.length:=by simp[kO,nT,r6,wm]
 have qz:=iF (kO nd b a)
 have lt1:mK (bE nd) (ul.map Prod.snd) (bE (kO nd b a)) (azB.map Prod.snd):=by rw[aGG,<-aih (nd:=nd) hb];exact mK.set J
 rw[aih hb]at aoG vc
 have la1:=lt1
 have dr1:=And.intro aGH aGI
 refine aa<|SR<|aF Dz<|aF OK<|aF Dz<|aF OK<|aH O vc (dz _ _ _ _ _ _ _ _ J _ (vc.blk (i:=0) O) (vc.yY (i:=1) O aoG)) (bA uC O O (show _=I 1 from O))<|fun w86 W4=>have c64:=apW (nd:=(kO nd b a)) (a:=a) (v:=kS nd a) (by rw[l1];exact ha) VG J;aF Dz<|aF Xk<|aH O W4 (dz _ _ _ _ _ _ _ _ J _ (W4.blk (i:=0) O) (W4.yY (i:=1) O aoG)) (bA uC O O (show _=I 1 from O))<|fun w88 Jp=>have c67:=apW (nd:=(kO nd b a)) (a:=b) (v:=kS nd b) (by rw[l1];exact hb) VG J;V (ax (aK I c64) (aK I c67) J)<|cG O (kK _ _ _ _ _ _ _ _ _ _ _ _ _ _ J J J _ aoG aGF Jp) (jE call189 O O (show _=I 1 from O) (aK I (show _=((kS nd a+kS nd b:Nat):Int)from by omega)))<| ?_
 rintro _ w92 ⟨rfl,v95,c96,u97,e98,azC,akN,acM,azD,azE,azF,aLk,azG,h93⟩
 have uI:=Hp.mQ (A:=[_,_,_]) (R:=[_]) h93
 simp only[gB,eR]at uI
 have l2:(nT (kO nd b a) a (kS nd a+kS nd b)).length=nd.length:=by simp[kO,nT,r6,wm]
 have Km:=iF (nT (kO nd b a) a (kS nd a+kS nd b))
 have lt2:mK (bE (kO nd b a)) (azB.map Prod.snd) (bE (nT (kO nd b a) a (kS nd a+kS nd b))) (azC.map Prod.snd):=by rw[azE,<-aii (nd:=(kO nd b a)) (by rw[l1];exact ha)];exact mK.set J
 rw[aii (by rw[l1];exact ha)]at acM uI
 have la2:=la1.trans lt2
 have dr2:=pW dr1.1 azF dr1.2 azG
 refine aa<|SR<|aF Dz<|aF OK<|aF Dz<|aF OK<|aH O uI (dz _ _ _ _ _ _ _ _ J _ (uI.blk (i:=0) O) (uI.yY (i:=1) O acM)) (bA uC O O (show _=I 3 from O))<|fun aPl akO=>have c74:=apY (nd:=(nT (kO nd b a) a (kS nd a+kS nd b))) (a:=a) (v:=rf nd a) (by rw[l2];exact ha) (VK.trans VI) J;aF Dz<|aF Xk<|aH O akO (dz _ _ _ _ _ _ _ _ J _ (akO.blk (i:=0) O) (akO.yY (i:=1) O acM)) (bA uC O O (show _=I 3 from O))<|fun aGK Rb=>have c77:=apY (nd:=(nT (kO nd b a) a (kS nd a+kS nd b))) (a:=b) (v:=rf nd b) (by rw[l2];exact hb) (VK.trans VI) J;V (vI (aK I c74) (aK I c77))<|cG O (kK _ _ _ _ _ _ _ _ _ _ _ _ _ _ J J J _ acM azD Rb) (jE call189 O O (show _=I 3 from O) (aK I (show _=((min (rf nd a) (rf nd b):Nat):Int)from by omega)))<| ?_
 rintro _ ayS ⟨rfl,aPo,aPp,aPq,aPr,aq6,aLm,acN,azH,azI,azJ,aLn,azK,auF⟩
 have J2:=Hp.mQ (A:=[_,_,_]) (R:=[_]) auF
 simp only[gB,eR]at J2
 have l3:(r6 (nT (kO nd b a) a (kS nd a+kS nd b)) a (min (rf nd a) (rf nd b))).length=nd.length:=by simp[kO,nT,r6,wm]
 have wl3:=iF (r6 (nT (kO nd b a) a (kS nd a+kS nd b)) a (min (rf nd a) (rf nd b)))
 have lt3:mK (bE (nT (kO nd b a) a (kS nd a+kS nd b))) (azC.map Prod.snd) (bE (r6 (nT (kO nd b a) a (kS nd a+kS nd b)) a (min (rf nd a) (rf nd b)))) (aq6.map Prod.snd):=by rw[azI,<-aij (nd:=(nT (kO nd b a) a (kS nd a+kS nd b))) (by rw[l2];exact ha)];exact mK.set J
 rw[aij (by rw[l2];exact ha)]at acN J2
 have la3:=la2.trans lt3
 have dr3:=pW dr2.1 azJ dr2.2 azK
 refine aa<|SR<|aF Dz<|aF OK<|aH O J2 (dz _ _ _ _ _ _ _ _ J _ (J2.blk (i:=0) O) (J2.yY (i:=1) O acN)) (bA uC O O (show _=I 2 from O))<|fun aGL DA=>have c82:=apX (nd:=(r6 (nT (kO nd b a) a (kS nd a+kS nd b)) a (min (rf nd a) (rf nd b)))) (a:=a) (v:=tQ nd a) (by rw[l3];exact ha) (VL.trans (VJ.trans VH)) J;aF Dz<|aF Xk<|aH O DA (dz _ _ _ _ _ _ _ _ J _ (DA.blk (i:=0) O) (DA.yY (i:=1) O acN)) (bA uC O O (show _=I 2 from O))<|fun azL OL=>have c85:=apX (nd:=(r6 (nT (kO nd b a) a (kS nd a+kS nd b)) a (min (rf nd a) (rf nd b)))) (a:=b) (v:=tQ nd b) (by rw[l3];exact hb) (VL.trans (VJ.trans VH)) J;V (run_assign (aK I c82))<|V (run_assign (aK I c85))<|aa<|SR<|aF Dz<|aF OK<|mI rfl<|cG O (kK _ _ _ _ _ _ _ _ _ _ _ _ _ _ J J J _ acN azH OL) (jE call189 O O (show _=I 2 from O) O)<| ?_
 rintro _ aPw ⟨rfl,aPx,aPy,aPz,aPA,aq7,aLp,aq8,azM,azN,azO,aLq,azP,aGM⟩
 have DB:=Hp.mQ (A:=[_,_,_]) (R:=[_]) aGM
 simp only[gB,eR]at DB
 have l4:(wm (r6 (nT (kO nd b a) a (kS nd a+kS nd b)) a (min (rf nd a) (rf nd b))) a (tQ nd b)).length=nd.length:=by simp[kO,nT,r6,wm]
 have wl4:=iF (wm (r6 (nT (kO nd b a) a (kS nd a+kS nd b)) a (min (rf nd a) (rf nd b))) a (tQ nd b))
 have lt4:mK (bE (r6 (nT (kO nd b a) a (kS nd a+kS nd b)) a (min (rf nd a) (rf nd b)))) (aq6.map Prod.snd) (bE (wm (r6 (nT (kO nd b a) a (kS nd a+kS nd b)) a (min (rf nd a) (rf nd b))) a (tQ nd b))) (aq7.map Prod.snd):=by rw[azN,<-S5 (nd:=(r6 (nT (kO nd b a) a (kS nd a+kS nd b)) a (min (rf nd a) (rf nd b)))) (by rw[l3];exact ha)];exact mK.set J
 rw[S5 (by rw[l3];exact ha)]at aq8 DB
 have la4:=la3.trans lt4
 have dr4:=pW dr3.1 azO dr3.2 azP
 refine aa<|SR<|aF Dz<|aF Xk<|mI rfl<|cG O (kK _ _ _ _ _ _ _ _ _ _ _ _ _ _ J J J _ aq8 azM DB) (jE call189 O O (show _=I 2 from O) O)<| ?_
 rintro _ aPD ⟨rfl,v154,aGN,aGO,aGP,aq9,aLs,akP,azQ,azR,azS,aLt,azT,aGQ⟩
 have DC:=Hp.mQ (A:=[_,_,_]) (R:=[_]) aGQ
 simp only[gB,eR]at DC
 have l5:(wm (wm (r6 (nT (kO nd b a) a (kS nd a+kS nd b)) a (min (rf nd a) (rf nd b))) a (tQ nd b)) b (tQ nd a)).length=nd.length:=by simp[kO,nT,r6,wm]
 have wl5:=iF (wm (wm (r6 (nT (kO nd b a) a (kS nd a+kS nd b)) a (min (rf nd a) (rf nd b))) a (tQ nd b)) b (tQ nd a))
 have lt5:mK (bE (wm (r6 (nT (kO nd b a) a (kS nd a+kS nd b)) a (min (rf nd a) (rf nd b))) a (tQ nd b))) (aq7.map Prod.snd) (bE (wm (wm (r6 (nT (kO nd b a) a (kS nd a+kS nd b)) a (min (rf nd a) (rf nd b))) a (tQ nd b)) b (tQ nd a))) (aq9.map Prod.snd):=by rw[azR,<-S5 (nd:=(wm (r6 (nT (kO nd b a) a (kS nd a+kS nd b)) a (min (rf nd a) (rf nd b))) a (tQ nd b))) (by rw[l4];exact hb)];exact mK.set J
 rw[S5 (by rw[l4];exact hb)]at akP DC
 have la5:=la4.trans lt5
 have dr5:=pW dr4.1 azS dr4.2 azT
 refine aa<|SR<|aF azA<|V (af O)<|V (fA iy 3 O aP O)<|lI bx DC 0 O O rfl<|V (eS O O J)<|V (af O)<|V (fA iy 3 O aP O)<|bg DC (i:=0) O (bK O O (v:=I _) O O O (DC.blk (i:=0) O) aJ)<|fun aFS OD=>aa<|SR<|va (v:=B true) rfl<|aa<|aj<|have hE:=OD;?_
 rw[aid ha hb hab]at hE akP la5
 refine jx O (v:=B true) O (.inr ⟨rfl,a,b,hP,v154,aGN,aGO,aGP,t1,aq9,_,akP,azQ,la5,dr5.1,J,dr5.2,?_⟩)
 rw[show(ts++[(ul.length:Int)]).length=ts.length+1 by simp,show(ts++[(ul.length:Int)]).map I=ts.map I++[I ((ul.map Prod.fst).length:Int)]by simp];simp only[dH];exact hE
set_option maxHeartbeats 1000000 in
theorem DD{nA nB nC nD nE nF nG nH nI nJ nK nL:Value}(W0:World)(F:Nat)(vW vU vT:Value)(cnt:Int)(cW cU:Option (Nat×Array Value))(W:List (BitVec 64))(ul:List (Value×jU))(tn:List Nat)(cs:List (List Nat))(L:List bu)(m:Int)(O4:ul.length<=1000000)(htn:tn.length<=100000)(hs:Hs W (ul.map Prod.snd) tn cs)(hok:Nj W.length (ul.map Prod.snd))(hI:∀x∈ul,pV (⟨134,243,193,3,35,8⟩:UT) F L x)(Xi:cnt=(leads (cs.headD []):Nat))(w:World)(zF:cO cW vW (W.map U))(J1:cO cU vU (ul.map Prod.fst))(hH:Hp W0 w (.blk F (.cells #[nA,nB,nC,nD,nE,nF,nG,nH,vW,vU,vT,I (cnt),nI,nJ,nK,nL] 111 (0,0))::cE cW vW 35 (W.map U)::cE cU vU 1 (ul.map Prod.fst):: .row vT 3 1 tn.length ((Ki tn).map I)::L)):Calls Tryz.prog 49 #[.pointer (some ⟨F,8,none⟩),I m] w (j3 fun u w'=>(u=B false/\(tn.length:Int)<m/\Hp W0 w' (.blk F (.cells #[nA,nB,nC,nD,nE,nF,nG,nH,vW,vU,vT,I (cnt),nI,nJ,nK,nL] 111 (0,0))::cE cW vW 35 (W.map U)::cE cU vU 1 (ul.map Prod.fst):: .row vT 3 1 tn.length ((Ki tn).map I)::L))\/(u=B true/\m<=tn.length/\∃(v1:Value) (c1:Option (Nat×Array Value)) (u1:Value) (c2:Option (Nat×Array Value)) (t1:Value) (W1:List (BitVec 64)) (mD:List (Value×jU)) (JS:List Nat) (FP:List (List Nat)),G1 ul mD tn JS cs FP W1/\(JS.length:Int)=max 0 m/\cO c1 v1 (W1.map U)/\cO c2 u1 (mD.map Prod.fst)/\Hp W0 w' (.blk F (.cells #[nA,nB,nC,nD,nE,nF,nG,nH,v1,u1,t1,I ((leads (FP.headD []):Nat)),nI,nJ,nK,nL] 111 (0,0))::cE c1 v1 35 (W1.map U)::cE c2 u1 1 (mD.map Prod.fst):: .row t1 3 1 JS.length ((Ki JS).map I)::L))):=by
 refine en func49 rfl rfl<|SR<|va (v:=B false) rfl<|aa<|ai<|SR<|aF (v:=Pn _ _) rfl<|V (k9 LK O O)<|mB rfl<|cF O rfl<|mI rfl<|aF (v:=Pn _ _) rfl<|V (af O)<|V (fA iy 2 O dJ O)<|lV bD hH 0 O O rfl<|V (aD (hH.sl (i:=3) O) O bD O)<|V (dP O O)<|mB rfl<|aa<|aG O (fun h2=> ?_) (fun h2=> ?_)
 .refine SR<|va (v:=B false) rfl<|aa<|aj<|jx O (v:=B false) O (.inl ⟨rfl,J,hH⟩)
 refine an<|ai<|SR<|aF (v:=Pn _ _) rfl<|V (af O)<|V (fA iy 2 O dJ O)<|lV bD hH 0 O O rfl<|V (aD (hH.sl (i:=3) O) O bD O)<|V (eS O O J)<|aI rfl<|aa<|aA<| ?_
 rw[Xi]at hH
 refine bt (G:=(List (BitVec 64))×(List (Value×jU))×(List Nat)×(List (List Nat))×(Option (Nat×Array Value))×Value×(Option (Nat×Array Value))×Value×Value) (fun⟨W1,mD,JS,FP,c1,v1,c2,u1,t1⟩ s' w'=>(Fr (5::6::(rg 24 47 [])) _ s')/\(Hp W0 w' (.blk F (.cells #[nA,nB,nC,nD,nE,nF,nG,nH,v1,u1,t1,I ((leads (FP.headD []):Nat)),nI,nJ,nK,nL] 111 (0,0))::cE c1 v1 35 (W1.map U)::cE c2 u1 1 (mD.map Prod.fst):: .row t1 3 1 JS.length ((Ki JS).map I)::_))/\(s' 5=I ((JS.length:Int)-1))/\(G1 ul mD tn JS cs FP W1)/\(cO c1 v1 (W1.map U))/\(cO c2 u1 (mD.map Prod.fst))/\(max 0 m<=(JS.length:Int))) (fun⟨W1,mD,JS,FP,c1,v1,c2,u1,t1⟩=>JS.length) ((W,ul,tn,cs,cW,vW,cU,vU,vT)) ⟨Fr.refl _ _,hH,rfl,(G1.start hs hok),zF,J1,J⟩ ?_
 rintro⟨W1,mD,JS,FP,c1,v1,c2,u1,t1⟩ sg3 w3 ⟨fr3,uo,Ky,hb,JH,CP,BA⟩
 obtain⟨BP,auv⟩:=fr3.w2 0 1
 refine ai<|SR<|aF Ky<|aF auv<|V (Gt O O)<|V (dF O O)<|aa<|aG O (fun h5=> ?_) (fun h5=> ?_)
 .refine an<|ai<|aA<|SR<| ?_
  obtain⟨t,tn2,cl,c3,cs2,rfl,rfl⟩:=asT hb.hs J
  obtain⟨nd1,nd2,e1,f1,e2,f2,hs2⟩:=anw hb.hs
  subst e1
  have q1:=f1.len
  have q2:=f2.len
  have n1:=hb.hs.ZH
  have n2:=hs2.ZH
  have cn:=hb.hs.cnt
  unfold GU at cn
  have lc:=Nr cl
  have lc3:=Nr c3
  have tl:=hb.tn
  have ule:=hb.le
  have htl:=hb.hs.le
  rw[gA]at htl
  have hkk:((t::tn2).length:Int)=tn2.length+1:=aJ
  have hkn:(((t::tn2).length:Int)-1).toNat=tn2.length:=J
  have qz:=iF nd1
  have Km:=iF nd2
  simp only[Yl]at uo
  refine aF BP<|aH O uo (lW _ _ _ _ _ _ J _ (uo.blk (i:=0) O) (uo.yY (i:=1) O JH)) (ay call89 O)<|fun w6 eE=>aI rfl<|aa<|ai<|fX aQ eE (sQ (sQ (sQ sR)))<|fun w8 iD=>have OM:=iD.sub (sQ (sQ (sQ sR)));AQ 0 O OM (run_move BP)<|AQ 1 O OM (af O)<|AQ 2 O OM (fA iy 0 O vD O)<|AQ 3 O OM (fA zP 0 O zU O)<|AQ 4 O OM (run_move BP)<|AQ 5 O OM (af O)<|AQ 6 O OM (fA iy 2 O dJ O)<|AQ 8 O OM (run_move Ky)<|A1 7<|cf O aC O iD (sQ (sQ (sQ sR))) (aE bD O O (iD.cell (i:=0) O O))<|AT 9 O OM (fun w hS=>ah (hS.sl (i:=0) O) bD aP O O J)<|AT 10 O OM (fun w hS=>aE bx O O ((hS.sl (i:=0) O).cell _ _ (asU J)))<|A1 11<|yl O aC O (F9 _ _ _ _ _ _ _ _ _ _ _ _ J J ⟨J,Int.ofNat_le.2 htl⟩ _ (fun x hx=>(hI x (hb.sub x hx)).mono fun e he=>mT he) hb.ok JH CP iD) (aL call92 O O) (fun u w' ⟨_,_,_,_,_,_,_,h⟩=>h.sub (sQ (sQ (sQ sR))))<| ?_
  rintro _ Q1 ⟨rfl,v15,c16,u17,e18,aaJ,auG,fK⟩
  rw[eC,e2]at aaJ
  rw[eC]at auG
  rw[eC,e2]at fK
  refine AD<|ai<|SR<|aF BP<|aH O fK (lW _ _ _ _ _ _ J _ (fK.blk (i:=0) O) (fK.yY (i:=1) O aaJ)) (ay call89 O)<|fun TD eP=>mI rfl<|V (aN O O)<|aa<|aG O (fun Ji=> ?_) (fun Ji=> ?_)
  .refine au<|aF BP<|V (af O)<|V (fA iy 3 O aP O)<|lI bx eP 0 O O rfl<|have auH:((leads c3:Nat):Int)=(leads cl:Int)-1:=J;V (eS O O J)<|V (af O)<|V (fA iy 3 O aP O)<|bg eP (i:=0) O (bK O O (v:=I _) O O O (eP.blk (i:=0) O) aJ)<|fun Uq dG=>aa<|au<|aF BP<|aF BP<|V (af O)<|V (fA iy 2 O dJ O)<|lV bD dG 0 O O rfl<|aF Ky<|V (rD (dG.sl (i:=3) O) bD aP O O J)<|have iJ:=dG.anx (i:=3) O (m:=tn2.length) aJ;?_
   rw[VX]at iJ
   refine V (af O)<|V (fA iy 2 O dJ O)<|bg iJ (i:=0) O (bK O O (aK (wR t1) hkn) (aZ (iJ.get (i:=3) O)).1 (aZ (iJ.get (i:=3) O)).2 (iJ.blk (i:=0) O) aJ)<|fun w29 iU=>aa<|au<|aF Ky<|V (eS O O J)<|aI rfl<|aa<| ?_
   refine⟨((bE nd2),(mD.take t),tn2,(c3::cs2),c16,v15,e18,u17,(wR t1 tn2.length)),?_,fr3.u4.u4.u4.u4.u4.u4.u4.u4.u4.u4.u1.u1,(Hp.conv iU (by(simp only[Yl];rw[auH];rfl))),(aK I J),?_,?_,?_,J⟩
   ·(simp only[eG];omega)
   .exact hb.next e2
   .exact aaJ
   exact auG
  refine au<|aF BP<|V (af O)<|V (fA iy 3 O aP O)<|lI bx eP 0 O O rfl<|have auH:((leads c3:Nat):Int)=(leads cl:Int)+1:=J;V (ax O O J)<|V (af O)<|V (fA iy 3 O aP O)<|bg eP (i:=0) O (bK O O (v:=I _) O O O (eP.blk (i:=0) O) aJ)<|fun w31 ij=>aa<|au<|aF BP<|aF BP<|V (af O)<|V (fA iy 2 O dJ O)<|lV bD ij 0 O O rfl<|aF Ky<|V (rD (ij.sl (i:=3) O) bD aP O O J)<|have ku:=ij.anx (i:=3) O (m:=tn2.length) aJ;?_
  rw[VX]at ku
  refine V (af O)<|V (fA iy 2 O dJ O)<|bg ku (i:=0) O (bK O O (aK (wR t1) hkn) (aZ (ku.get (i:=3) O)).1 (aZ (ku.get (i:=3) O)).2 (ku.blk (i:=0) O) aJ)<|fun w34 zo=>aa<|au<|aF Ky<|V (eS O O J)<|aI rfl<|aa<| ?_
  refine⟨((bE nd2),(mD.take t),tn2,(c3::cs2),c16,v15,e18,u17,(wR t1 tn2.length)),?_,fr3.u4.u4.u4.u4.u4.u4.u4.u4.u4.u4.u1.u1,(Hp.conv zo (by(simp only[Yl];rw[auH];rfl))),(aK I J),?_,?_,?_,J⟩
  ·(simp only[eG];omega)
  .exact hb.next e2
  .exact aaJ
  exact auG
 refine a8 (id:=0) rfl<|SR<|va (v:=B true) rfl<|aa<|aj<|jx O (v:=B true) O (.inr ⟨rfl,J,v1,c1,u1,c2,t1,W1,mD,JS,FP,hb,J,JH,CP,uo⟩)
section
variable{w0 w:World}{L:List bu}{F m:Nat}{cs:List (List Nat)}{vW vU vT:Value}{cW cU:Option (Nat×Array Value)}{W:List (BitVec 64)}{ul:List (Value×jU)}{ts:List Int}{cn:Int}{nA nB nC nD nE nF nG nH nI nJ nK nL:Value}
theorem acO(h:xA FX F m cs vW vU cW cU W ul ts cn L)(hm:m<=100000)(hb:w.heap[F]?=some (.cells #[nA,nB,nC,nD,nE,nF,nG,nH,vW,vU,vT,I cn,nI,nJ,nK,nL] 111 (0,0)))(hW:Sl w vW 1 W.length (W.map U)):Calls Tryz.prog 123 #[.pointer (some ⟨F,8,none⟩)] w (Pure (I (leads (bB cs):Nat)) w):=by
 have Xi:=h.cn
 subst Xi
 exact B4 F vW vU vT _ _ w hb hW
end
section
variable{w0 w:World}{L:List bu}{F m:Nat}{cs:List (List Nat)}{vW vU vT:Value}{cW cU:Option (Nat×Array Value)}{W:List (BitVec 64)}{ul:List (Value×jU)}{ts:List Int}{cn:Int}{nA nB nC nD nE nF nG nH nI nJ nK nL:Value}
theorem Ga(i:Int)(h:xA FX F m cs vW vU cW cU W ul ts cn L)(hm:m<=100000)(hb:w.heap[F]?=some (.cells #[nA,nB,nC,nD,nE,nF,nG,nH,vW,vU,vT,I cn,nI,nJ,nK,nL] 111 (0,0)))(hW:Sl w vW 1 W.length (W.map U)):Calls Tryz.prog 128 #[.pointer (some ⟨F,8,none⟩),I i] w (Pure (I (fP (bB cs) i)) w):=by
 obtain⟨nd,cl,Be,rfl,rfl,h2,h3,h4,h5,h6⟩:=h.now
 exact Dy F vW vU vT _ nd cl i J h2 w hb hW
end
section
variable{w0 w:World}{L:List bu}{F m:Nat}{cs:List (List Nat)}{vW vU vT:Value}{cW cU:Option (Nat×Array Value)}{W:List (BitVec 64)}{ul:List (Value×jU)}{ts:List Int}{cn:Int}{nA nB nC nD nE nF nG nH nI nJ nK nL:Value}
theorem acP(i:Int)(h:xA FX F m cs vW vU cW cU W ul ts cn L)(hm:m<=100000)(hb:w.heap[F]?=some (.cells #[nA,nB,nC,nD,nE,nF,nG,nH,vW,vU,vT,I cn,nI,nJ,nK,nL] 111 (0,0)))(hW:Sl w vW 1 W.length (W.map U)):Calls Tryz.prog 129 #[.pointer (some ⟨F,8,none⟩),I i] w (tg 3 1 (bP (bB cs) i).length ((bP (bB cs) i).map I) w):=by
 obtain⟨nd,cl,Be,rfl,rfl,h2,h3,h4,h5,h6⟩:=h.now
 exact B5 F vW vU vT _ nd cl i J h2 w hb hW
end
section
variable{w0 w:World}{L:List bu}{F m:Nat}{cs:List (List Nat)}{vW vU vT:Value}{cW cU:Option (Nat×Array Value)}{W:List (BitVec 64)}{ul:List (Value×jU)}{ts:List Int}{cn:Int}{nA nB nC nD nE nF nG nH nI nJ nK nL:Value}
theorem akQ(h:xA FX F m cs vW vU cW cU W ul ts cn L)(hm:m<=100000)(hb:w.heap[F]?=some (.cells #[nA,nB,nC,nD,nE,nF,nG,nH,vW,vU,vT,I cn,nI,nJ,nK,nL] 111 (0,0)))(hW:Sl w vW 1 W.length (W.map U))(hT:Sl w vT 1 ts.length (ts.map I)):Calls Tryz.prog 46 #[.pointer (some ⟨F,8,none⟩)] w (Pure (I ((cs.length:Int)-1)) w):=by
 obtain⟨nd,cl,Be,rfl,rfl,h2,h3,h4,h5,h6⟩:=h.now
 have:=Dx F vW vU vT _ _ ts w hb hW hT
 rwa[show((ts.length:Nat):Int)=((cl::Be).length:Int)-1 by omega]at this
end
section
variable{w0 w:World}{L:List bu}{F m:Nat}{cs:List (List Nat)}{vW vU vT:Value}{cW cU:Option (Nat×Array Value)}{W:List (BitVec 64)}{ul:List (Value×jU)}{ts:List Int}{cn:Int}{nA nB nC nD nE nF nG nH nI nJ nK nL:Value}
theorem azU(h:xA FX F m cs vW vU cW cU W ul ts cn L)(hm:m<=100000){R:List bu}(hH:Hp w0 w (.blk F (.cells #[nA,nB,nC,nD,nE,nF,nG,nH,vW,vU,vT,I (cn),nI,nJ,nK,nL] 111 (0,0))::cE cW vW 35 ((W).map U)::cE cU vU 1 ((ul).map Prod.fst):: .row vT 3 1 (ts).length ((ts).map I)::(R++L))):Calls Tryz.prog 47 #[.pointer (some ⟨F,8,none⟩)] w (j3 fun u w'=>u=I (bB cs).length/\∃(ON OO XG:Value) (Re Rf:Option (Nat×Array Value)) (W':List (BitVec 64)) (zB:List (Value×jU)) (ts':List Int) (Rg:Int) (Lb:List bu),xA FX F (m+1) (S9 cs) ON OO Re Rf W' zB ts' Rg (Lb++L)/\Hp w0 w' (.blk F (.cells #[nA,nB,nC,nD,nE,nF,nG,nH,ON,OO,XG,I (Rg),nI,nJ,nK,nL] 111 (0,0))::cE Re ON 35 ((W').map U)::cE Rf OO 1 ((zB).map Prod.fst):: .row XG 3 1 (ts').length ((ts').map I)::(Lb++(R++L)))):=by
 obtain⟨tn,rfl,i⟩:=h.fo
 have Xi:=h.cn
 subst Xi
 obtain⟨nd,cl,Be,rfl,rfl,h2,h3,h4,h5,h6⟩:=i.now
 have l1:=i.lu;have l2:=i.lt
 refine(Ew w0 F vW vU vT _ cW cU nd ul (Ki tn) (R++L) J J (by rw[xz];omega) af4 w i.hW i.hU hH).mono fun e w' hr=>j3.mono ?_ hr
 rintro u w' ⟨rfl,v1,c1,u1,c2,t1,mD,KB,k1,k2,k3,k4,k5,hh⟩
 have e5:(leads (bB (S9 (cl::Be))):Nat)=leads cl+1:=by rw[<-Qr h2,h3];rfl
 have e6:((leads (bB (cl::Be)):Nat):Int)+1=((leads (bB (S9 (cl::Be))):Nat):Int):=by rw[e5];rfl
 have e7:(Ki tn++[(ul.length:Int)])=Ki (ul.length::tn):=(G0 ..).symm
 rw[e6,e7]at hh
 refine⟨by rw[h3];rfl,v1,u1,t1,c1,c2,bE (nd++[r5 nd.length]),mD,Ki (ul.length::tn),_,KB,⟨⟨ul.length::tn,rfl,k1,k2,?_,?_,?_,?_,?_⟩,rfl⟩,hh⟩
 .have e1:=anc (W:=bE nd) (us:=ul.map Prod.snd) (a:=BitVec.ofNat 64 nd.length) (b:=BitVec.ofNat 64 1) (c:=BitVec.ofNat 64 nd.length) (d:=BitVec.ofNat 64 nd.length)
  have e2:bE (nd++[r5 nd.length])=bE nd++[BitVec.ofNat 64 nd.length]++[BitVec.ofNat 64 1]++[BitVec.ofNat 64 nd.length]++[BitVec.ofNat 64 nd.length]:=by rw[qF];simp[Gi,r5]
  rw[<-e2]at e1
  have h:=Hs.more (jX:=cl++[nd.length]) i.hs O h2.add (.inl ⟨aJ,Qr h2⟩) e1.1 e1.2.1 e1.2.2
  rw[gA]at h
  rw[k3]
  show Hs _ _ _ ((cl++[cl.length])::cl::Be)
  rw[<-h3];exact h
 .have e2:bE (nd++[r5 nd.length])=bE nd++[BitVec.ofNat 64 nd.length]++[BitVec.ofNat 64 1]++[BitVec.ofNat 64 nd.length]++[BitVec.ofNat 64 nd.length]:=by rw[qF];simp[Gi,r5]
  rw[k3,e2];exact ane i.ok
 .intro x hx
  rw[<-HP ul.length mD,k4]at hx
  rcases fh.1 hx with q|q
  .exact(i.un x q).mono fun e he=>bH _ he
  exact(k5 x q).mono fun e he=>dI _ he
 .have:=aK List.length k3;simp[Pe]at this;omega
 simp;omega
end
section
variable{w0 w:World}{L:List bu}{F m:Nat}{cs:List (List Nat)}{vW vU vT:Value}{cW cU:Option (Nat×Array Value)}{W:List (BitVec 64)}{ul:List (Value×jU)}{ts:List Int}{cn:Int}{nA nB nC nD nE nF nG nH nI nJ nK nL:Value}
theorem aoH(i j:Int)(h:xA FX F m cs vW vU cW cU W ul ts cn L)(hm:m<=100000){R:List bu}(hH:Hp w0 w (.blk F (.cells #[nA,nB,nC,nD,nE,nF,nG,nH,vW,vU,vT,I (cn),nI,nJ,nK,nL] 111 (0,0))::cE cW vW 35 ((W).map U)::cE cU vU 1 ((ul).map Prod.fst):: .row vT 3 1 (ts).length ((ts).map I)::(R++L))):Calls Tryz.prog 156 #[.pointer (some ⟨F,8,none⟩),I i,I j] w (j3 fun u w'=>u=B (ju cs i j).2/\∃(ON OO XG:Value) (Re Rf:Option (Nat×Array Value)) (W':List (BitVec 64)) (zB:List (Value×jU)) (ts':List Int) (Rg:Int) (Lb:List bu),xA FX F (m+(if(ju cs i j).2 then 1 else 0)) ((ju cs i j).1) ON OO Re Rf W' zB ts' Rg (Lb++L)/\Hp w0 w' (.blk F (.cells #[nA,nB,nC,nD,nE,nF,nG,nH,ON,OO,XG,I (Rg),nI,nJ,nK,nL] 111 (0,0))::cE Re ON 35 ((W').map U)::cE Rf OO 1 ((zB).map Prod.fst):: .row XG 3 1 (ts').length ((ts').map I)::(Lb++(R++L)))):=by
 obtain⟨tn,rfl,k⟩:=h.fo
 have Xi:=h.cn
 subst Xi
 obtain⟨nd,cl,Be,rfl,rfl,h2,h3,h4,h5,h6⟩:=k.now
 have l1:=k.lu;have l2:=k.lt
 refine(B6 w0 F vW vU vT _ cW cU nd ul (Ki tn) (R++L) cl i j J J (by rw[xz];omega) af4 h2 w k.hW k.hU hH).mono fun e w' hr=>j3.mono ?_ hr
 rintro u w' (⟨rfl,no,hh⟩|⟨rfl,a,b,p,v1,c1,u1,c2,t1,mD,KB,k1,k2,la,k4,k6,k5,hh⟩)
 .rw[Ns (cs:=cl::Be) (by show¬I5 cl.length cl i j;rw[<-h3];exact no)]
  exact⟨rfl,vW,vU,vT,cW,cU,bE nd,ul,Ki tn,_,[],h,hh⟩
 rw[I7 (cs:=cl::Be) (by have:=p.ok;show I5 cl.length cl i j;rw[<-h3];exact this)]
 obtain⟨f1,f2⟩:=axA h2 p
 have e5:((leads (bB (cl::Be)):Nat):Int)-1=((leads (bB (iH cl (cr cl i.toNat) (cr cl j.toNat)::cl::Be)):Nat):Int):=by
  have e1:leads (bB (cl::Be))=leads cl:=rfl
  have e2:leads (bB (iH cl (cr cl i.toNat) (cr cl j.toNat)::cl::Be))=leads (iH cl (cr cl i.toNat) (cr cl j.toNat)):=rfl
  omega
 have e7:(Ki tn++[(ul.length:Int)])=Ki (ul.length::tn):=(G0 ..).symm
 rw[e5,e7]at hh
 refine⟨rfl,v1,u1,t1,c1,c2,bE (pU nd a b),mD,Ki (ul.length::tn),_,KB,⟨⟨ul.length::tn,rfl,k1,k2,?_,la.ok k.ok,?_,?_,?_⟩,rfl⟩,hh⟩
 .have h:=Hs.more (jX:=iH cl (cr cl i.toNat) (cr cl j.toNat)) k.hs O f1 (.inr ⟨I6,f2⟩) la.back.1 la.back.2 la.le
  rw[gA]at h;exact h
 .intro x hx
  rw[<-HP ul.length mD,k4]at hx
  rcases fh.1 hx with q|q
  .exact(k.un x q).mono fun e he=>bH _ he
  exact(k5 x q).mono fun e he=>dI _ he
 .show mD.length<=5*(m+1);omega
 show(ul.length::tn).length<=m+1;simp;omega
end
section
variable{w0 w:World}{L:List bu}{F m:Nat}{cs:List (List Nat)}{vW vU vT:Value}{cW cU:Option (Nat×Array Value)}{W:List (BitVec 64)}{ul:List (Value×jU)}{ts:List Int}{cn:Int}{nA nB nC nD nE nF nG nH nI nJ nK nL:Value}
theorem auI(i:Int)(h:xA FX F m cs vW vU cW cU W ul ts cn L)(hm:m<=100000){R:List bu}(hH:Hp w0 w (.blk F (.cells #[nA,nB,nC,nD,nE,nF,nG,nH,vW,vU,vT,I (cn),nI,nJ,nK,nL] 111 (0,0))::cE cW vW 35 ((W).map U)::cE cU vU 1 ((ul).map Prod.fst):: .row vT 3 1 (ts).length ((ts).map I)::(R++L))):Calls Tryz.prog 49 #[.pointer (some ⟨F,8,none⟩),I i] w (j3 fun u w'=>u=B (CS cs i).2/\∃(ON OO XG:Value) (Re Rf:Option (Nat×Array Value)) (W':List (BitVec 64)) (zB:List (Value×jU)) (ts':List Int) (Rg:Int) (Lb:List bu),xA FX F (m) ((CS cs i).1) ON OO Re Rf W' zB ts' Rg (Lb++L)/\Hp w0 w' (.blk F (.cells #[nA,nB,nC,nD,nE,nF,nG,nH,ON,OO,XG,I (Rg),nI,nJ,nK,nL] 111 (0,0))::cE Re ON 35 ((W').map U)::cE Rf OO 1 ((zB).map Prod.fst):: .row XG 3 1 (ts').length ((ts').map I)::(Lb++(R++L)))):=by
 obtain⟨tn,rfl,k⟩:=h.fo
 have Xi:=h.cn
 subst Xi
 obtain⟨nd,cl,Be,rfl,rfl,h2,h3,h4,h5,h6⟩:=k.now
 have l1:=k.lu;have l2:=k.lt
 rw[xz]at hH
 refine(DD w0 F vW vU vT _ cW cU (bE nd) ul tn (cl::Be) (R++L) i J J k.hs k.ok (fun x hx=>(k.un x hx).mono fun e he=>bH _ he) O w k.hW k.hU hH).mono fun e w' hr=>j3.mono ?_ hr
 rintro u w' (⟨rfl,no,hh⟩|⟨rfl,yes,v1,c1,u1,c2,t1,W1,mD,JS,FP,hb,htn,k1,k2,hh⟩)
 .rw[show CS (cl::Be) i=(cl::Be,false)from aY J]
  rw[<-xz]at hh
  exact⟨rfl,vW,vU,vT,cW,cU,bE nd,ul,Ki tn,_,[],h,hh⟩
 rw[show CS (cl::Be) i=((cl::Be).drop ((cl::Be).length-1-(max 0 i).toNat),true)from aW J]
 have e1:FP=(cl::Be).drop ((cl::Be).length-1-(max 0 i).toNat):=by rw[hb.cs];congr 1;omega
 rw[<-e1]
 have q1:=hb.le;have q2:=hb.tn
 rw[<-xz]at hh
 exact⟨rfl,v1,u1,t1,c1,c2,W1,mD,Ki JS,_,[],⟨⟨JS,rfl,k1,k2,hb.hs,hb.ok,fun x hx=>k.un x (hb.sub x hx),J,J⟩,rfl⟩,hh⟩
end
end
end Go.Proofs.YtlhjdflgjbkpmaaGreatDoor.W
